/- Each function does what its plain words tell. -/
import Derived.Test.YtchecaeeiejjjaaKiR
namespace Go.Proofs.Ytchecaeeiejjjaa
open Go Go.Sy Go.RowKit
set_option linter.unusedVariables false
open Go.Mir
theorem m_value_isWordByte_sp {F : PH} {g : Nat} {a0 : Int} {r : Bool} (hm : m_value_isWordByte g a0 = some r) :
    CallSp Try.prog 63 #[.int .u8 a0] F [] (fun u F' H' => u = (.bool r) ∧ H' = []) := by
  unfold m_value_isWordByte at hm
  refine CallSp.enter (args := [.int .u8 a0]) Try.func63 rfl rfl ?_
  intro w0 m0 hm0
  refine St.seq ?_
  refine St.region ?_
  refine St.val (v := (.bool false)) (Yields.assign rfl) trivial rfl rfl ?_
  refine St.nil ?_
  refine St.norm ?_
  obtain ⟨z1, hm, hk2⟩ := bS hm
  refine St.cutI (fun a w => Has Try.f63.ntmps a [(2, .bool z1)] ∧ Sat ⟨w0, fun b => m0 b ≠ none, F⟩ F [] w) ?_ ?_
  · skip
    refine St.region ?_
    refine St.val (v := (.int .u8 a0)) (Yields.move rfl) trivial rfl rfl ?_
    by_cases q3 : a0 ≥ 97
    · replace hm := iT hm q3
      refine St.val (v := (.bool true)) (Yields.is q3 (Yields.ge rfl rfl)) trivial rfl rfl ?_
      refine St.val (v := (.bool true)) (Yields.move rfl) trivial rfl rfl ?_
      refine St.val (v := (.int .u8 a0)) (Yields.move rfl) rfl rfl rfl ?_
      by_cases q4 : a0 ≤ 122
      · replace hm := iT hm q4
        refine St.val (v := (.bool true)) (Yields.is q4 (Yields.le rfl rfl)) rfl rfl rfl ?_
        refine St.val (v := (.bool true)) (Yields.pick_t rfl rfl) trivial rfl rfl ?_
        refine St.val (v := (.bool true)) (Yields.move rfl) trivial rfl rfl ?_
        refine St.unwanted rfl rfl rfl ?_
        refine St.unwanted rfl rfl rfl ?_
        refine St.unwanted rfl rfl rfl ?_
        refine St.unwanted trivial rfl rfl ?_
        refine St.unwanted trivial rfl rfl ?_
        refine St.unwanted rfl rfl rfl ?_
        refine St.val (v := (.bool true)) (Yields.pick_t rfl rfl) trivial rfl rfl ?_
        refine St.val (v := (.bool true)) (Yields.move rfl) trivial rfl rfl ?_
        refine St.unwanted rfl rfl rfl ?_
        refine St.unwanted rfl rfl rfl ?_
        refine St.unwanted rfl rfl rfl ?_
        refine St.unwanted trivial rfl rfl ?_
        refine St.unwanted trivial rfl rfl ?_
        refine St.unwanted rfl rfl rfl ?_
        refine St.val (v := (.bool true)) (Yields.pick_t rfl rfl) trivial rfl rfl ?_
        refine St.val (v := (.bool true)) (Yields.move rfl) trivial rfl rfl ?_
        refine St.unwanted rfl rfl rfl ?_
        refine St.unwanted rfl rfl rfl ?_
        refine St.val (v := (.bool true)) (Yields.pick_t rfl rfl) trivial rfl rfl ?_
        refine St.val (v := (.bool true)) (Yields.assign rfl) trivial rfl rfl ?_
        refine St.nil ?_
        obtain rfl := sI hm
        intro a w ha hs
        exact ⟨ha.covers ⟨rfl, trivial⟩, (Among.of Among.none _ hs)⟩
      · replace hm := iF hm q4
        refine St.val (v := (.bool false)) (Yields.isnt q4 (Yields.le rfl rfl)) rfl rfl rfl ?_
        refine St.val (v := (.bool false)) (Yields.pick_t rfl rfl) trivial rfl rfl ?_
        refine St.val (v := (.bool false)) (Yields.move rfl) trivial rfl rfl ?_
        refine St.val (v := (.int .u8 a0)) (Yields.move rfl) rfl rfl rfl ?_
        by_cases q5 : a0 ≥ 65
        · replace hm := iT hm q5
          refine St.val (v := (.bool true)) (Yields.is q5 (Yields.ge rfl rfl)) rfl rfl rfl ?_
          refine St.val (v := (.bool true)) (Yields.move rfl) rfl rfl rfl ?_
          refine St.val (v := (.int .u8 a0)) (Yields.move rfl) rfl rfl rfl ?_
          by_cases q6 : a0 ≤ 90
          · replace hm := iT hm q6
            refine St.val (v := (.bool true)) (Yields.is q6 (Yields.le rfl rfl)) rfl rfl rfl ?_
            refine St.val (v := (.bool true)) (Yields.pick_t rfl rfl) rfl rfl rfl ?_
            refine St.val (v := (.bool true)) (Yields.pick_f rfl rfl) trivial rfl rfl ?_
            refine St.val (v := (.bool true)) (Yields.move rfl) trivial rfl rfl ?_
            refine St.unwanted rfl rfl rfl ?_
            refine St.unwanted rfl rfl rfl ?_
            refine St.unwanted rfl rfl rfl ?_
            refine St.unwanted trivial rfl rfl ?_
            refine St.unwanted trivial rfl rfl ?_
            refine St.unwanted rfl rfl rfl ?_
            refine St.val (v := (.bool true)) (Yields.pick_t rfl rfl) trivial rfl rfl ?_
            refine St.val (v := (.bool true)) (Yields.move rfl) trivial rfl rfl ?_
            refine St.unwanted rfl rfl rfl ?_
            refine St.unwanted rfl rfl rfl ?_
            refine St.val (v := (.bool true)) (Yields.pick_t rfl rfl) trivial rfl rfl ?_
            refine St.val (v := (.bool true)) (Yields.assign rfl) trivial rfl rfl ?_
            refine St.nil ?_
            obtain rfl := sI hm
            intro a w ha hs
            exact ⟨ha.covers ⟨rfl, trivial⟩, (Among.of Among.none _ hs)⟩
          · replace hm := iF hm q6
            refine St.val (v := (.bool false)) (Yields.isnt q6 (Yields.le rfl rfl)) rfl rfl rfl ?_
            refine St.val (v := (.bool false)) (Yields.pick_t rfl rfl) rfl rfl rfl ?_
            refine St.val (v := (.bool false)) (Yields.pick_f rfl rfl) trivial rfl rfl ?_
            refine St.val (v := (.bool false)) (Yields.move rfl) trivial rfl rfl ?_
            refine St.val (v := (.int .u8 a0)) (Yields.move rfl) rfl rfl rfl ?_
            by_cases q7 : a0 ≥ 48
            · replace hm := iT hm q7
              refine St.val (v := (.bool true)) (Yields.is q7 (Yields.ge rfl rfl)) rfl rfl rfl ?_
              refine St.val (v := (.bool true)) (Yields.move rfl) rfl rfl rfl ?_
              refine St.val (v := (.int .u8 a0)) (Yields.move rfl) rfl rfl rfl ?_
              by_cases q8 : a0 ≤ 57
              · replace hm := iT hm q8
                refine St.val (v := (.bool true)) (Yields.is q8 (Yields.le rfl rfl)) rfl rfl rfl ?_
                refine St.val (v := (.bool true)) (Yields.pick_t rfl rfl) rfl rfl rfl ?_
                refine St.val (v := (.bool true)) (Yields.pick_f rfl rfl) trivial rfl rfl ?_
                refine St.val (v := (.bool true)) (Yields.move rfl) trivial rfl rfl ?_
                refine St.unwanted rfl rfl rfl ?_
                refine St.unwanted rfl rfl rfl ?_
                refine St.val (v := (.bool true)) (Yields.pick_t rfl rfl) trivial rfl rfl ?_
                refine St.val (v := (.bool true)) (Yields.assign rfl) trivial rfl rfl ?_
                refine St.nil ?_
                obtain rfl := sI hm
                intro a w ha hs
                exact ⟨ha.covers ⟨rfl, trivial⟩, (Among.of Among.none _ hs)⟩
              · replace hm := iF hm q8
                refine St.val (v := (.bool false)) (Yields.isnt q8 (Yields.le rfl rfl)) rfl rfl rfl ?_
                refine St.val (v := (.bool false)) (Yields.pick_t rfl rfl) rfl rfl rfl ?_
                refine St.val (v := (.bool false)) (Yields.pick_f rfl rfl) trivial rfl rfl ?_
                refine St.val (v := (.bool false)) (Yields.move rfl) trivial rfl rfl ?_
                refine St.val (v := (.int .u8 a0)) (Yields.move rfl) rfl rfl rfl ?_
                refine St.val (v := (.bool (decide (a0 = 95)))) (Yields.eq rfl rfl) rfl rfl rfl ?_
                refine St.val (v := (.bool (decide (a0 = 95)))) (Yields.pick_f rfl rfl) trivial rfl rfl ?_
                refine St.val (v := (.bool (decide (a0 = 95)))) (Yields.assign rfl) trivial rfl rfl ?_
                refine St.nil ?_
                obtain rfl := sI hm
                intro a w ha hs
                exact ⟨ha.covers ⟨rfl, trivial⟩, (Among.of Among.none _ hs)⟩
            · replace hm := iF hm q7
              refine St.val (v := (.bool false)) (Yields.isnt q7 (Yields.ge rfl rfl)) rfl rfl rfl ?_
              refine St.val (v := (.bool false)) (Yields.move rfl) rfl rfl rfl ?_
              refine St.unwanted rfl rfl rfl ?_
              refine St.unwanted rfl rfl rfl ?_
              refine St.val (v := (.bool false)) (Yields.pick_f rfl rfl) rfl rfl rfl ?_
              refine St.val (v := (.bool false)) (Yields.pick_f rfl rfl) trivial rfl rfl ?_
              refine St.val (v := (.bool false)) (Yields.move rfl) trivial rfl rfl ?_
              refine St.val (v := (.int .u8 a0)) (Yields.move rfl) rfl rfl rfl ?_
              refine St.val (v := (.bool (decide (a0 = 95)))) (Yields.eq rfl rfl) rfl rfl rfl ?_
              refine St.val (v := (.bool (decide (a0 = 95)))) (Yields.pick_f rfl rfl) trivial rfl rfl ?_
              refine St.val (v := (.bool (decide (a0 = 95)))) (Yields.assign rfl) trivial rfl rfl ?_
              refine St.nil ?_
              obtain rfl := sI hm
              intro a w ha hs
              exact ⟨ha.covers ⟨rfl, trivial⟩, (Among.of Among.none _ hs)⟩
        · replace hm := iF hm q5
          refine St.val (v := (.bool false)) (Yields.isnt q5 (Yields.ge rfl rfl)) rfl rfl rfl ?_
          refine St.val (v := (.bool false)) (Yields.move rfl) rfl rfl rfl ?_
          refine St.unwanted rfl rfl rfl ?_
          refine St.unwanted rfl rfl rfl ?_
          refine St.val (v := (.bool false)) (Yields.pick_f rfl rfl) rfl rfl rfl ?_
          refine St.val (v := (.bool false)) (Yields.pick_f rfl rfl) trivial rfl rfl ?_
          refine St.val (v := (.bool false)) (Yields.move rfl) trivial rfl rfl ?_
          refine St.val (v := (.int .u8 a0)) (Yields.move rfl) rfl rfl rfl ?_
          by_cases q9 : a0 ≥ 48
          · replace hm := iT hm q9
            refine St.val (v := (.bool true)) (Yields.is q9 (Yields.ge rfl rfl)) rfl rfl rfl ?_
            refine St.val (v := (.bool true)) (Yields.move rfl) rfl rfl rfl ?_
            refine St.val (v := (.int .u8 a0)) (Yields.move rfl) rfl rfl rfl ?_
            by_cases q10 : a0 ≤ 57
            · replace hm := iT hm q10
              refine St.val (v := (.bool true)) (Yields.is q10 (Yields.le rfl rfl)) rfl rfl rfl ?_
              refine St.val (v := (.bool true)) (Yields.pick_t rfl rfl) rfl rfl rfl ?_
              refine St.val (v := (.bool true)) (Yields.pick_f rfl rfl) trivial rfl rfl ?_
              refine St.val (v := (.bool true)) (Yields.move rfl) trivial rfl rfl ?_
              refine St.unwanted rfl rfl rfl ?_
              refine St.unwanted rfl rfl rfl ?_
              refine St.val (v := (.bool true)) (Yields.pick_t rfl rfl) trivial rfl rfl ?_
              refine St.val (v := (.bool true)) (Yields.assign rfl) trivial rfl rfl ?_
              refine St.nil ?_
              obtain rfl := sI hm
              intro a w ha hs
              exact ⟨ha.covers ⟨rfl, trivial⟩, (Among.of Among.none _ hs)⟩
            · replace hm := iF hm q10
              refine St.val (v := (.bool false)) (Yields.isnt q10 (Yields.le rfl rfl)) rfl rfl rfl ?_
              refine St.val (v := (.bool false)) (Yields.pick_t rfl rfl) rfl rfl rfl ?_
              refine St.val (v := (.bool false)) (Yields.pick_f rfl rfl) trivial rfl rfl ?_
              refine St.val (v := (.bool false)) (Yields.move rfl) trivial rfl rfl ?_
              refine St.val (v := (.int .u8 a0)) (Yields.move rfl) rfl rfl rfl ?_
              refine St.val (v := (.bool (decide (a0 = 95)))) (Yields.eq rfl rfl) rfl rfl rfl ?_
              refine St.val (v := (.bool (decide (a0 = 95)))) (Yields.pick_f rfl rfl) trivial rfl rfl ?_
              refine St.val (v := (.bool (decide (a0 = 95)))) (Yields.assign rfl) trivial rfl rfl ?_
              refine St.nil ?_
              obtain rfl := sI hm
              intro a w ha hs
              exact ⟨ha.covers ⟨rfl, trivial⟩, (Among.of Among.none _ hs)⟩
          · replace hm := iF hm q9
            refine St.val (v := (.bool false)) (Yields.isnt q9 (Yields.ge rfl rfl)) rfl rfl rfl ?_
            refine St.val (v := (.bool false)) (Yields.move rfl) rfl rfl rfl ?_
            refine St.unwanted rfl rfl rfl ?_
            refine St.unwanted rfl rfl rfl ?_
            refine St.val (v := (.bool false)) (Yields.pick_f rfl rfl) rfl rfl rfl ?_
            refine St.val (v := (.bool false)) (Yields.pick_f rfl rfl) trivial rfl rfl ?_
            refine St.val (v := (.bool false)) (Yields.move rfl) trivial rfl rfl ?_
            refine St.val (v := (.int .u8 a0)) (Yields.move rfl) rfl rfl rfl ?_
            refine St.val (v := (.bool (decide (a0 = 95)))) (Yields.eq rfl rfl) rfl rfl rfl ?_
            refine St.val (v := (.bool (decide (a0 = 95)))) (Yields.pick_f rfl rfl) trivial rfl rfl ?_
            refine St.val (v := (.bool (decide (a0 = 95)))) (Yields.assign rfl) trivial rfl rfl ?_
            refine St.nil ?_
            obtain rfl := sI hm
            intro a w ha hs
            exact ⟨ha.covers ⟨rfl, trivial⟩, (Among.of Among.none _ hs)⟩
    · replace hm := iF hm q3
      refine St.val (v := (.bool false)) (Yields.isnt q3 (Yields.ge rfl rfl)) trivial rfl rfl ?_
      refine St.val (v := (.bool false)) (Yields.move rfl) trivial rfl rfl ?_
      refine St.unwanted rfl rfl rfl ?_
      refine St.unwanted rfl rfl rfl ?_
      refine St.val (v := (.bool false)) (Yields.pick_f rfl rfl) trivial rfl rfl ?_
      refine St.val (v := (.bool false)) (Yields.move rfl) trivial rfl rfl ?_
      refine St.val (v := (.int .u8 a0)) (Yields.move rfl) rfl rfl rfl ?_
      by_cases q11 : a0 ≥ 65
      · replace hm := iT hm q11
        refine St.val (v := (.bool true)) (Yields.is q11 (Yields.ge rfl rfl)) rfl rfl rfl ?_
        refine St.val (v := (.bool true)) (Yields.move rfl) rfl rfl rfl ?_
        refine St.val (v := (.int .u8 a0)) (Yields.move rfl) rfl rfl rfl ?_
        by_cases q12 : a0 ≤ 90
        · replace hm := iT hm q12
          refine St.val (v := (.bool true)) (Yields.is q12 (Yields.le rfl rfl)) rfl rfl rfl ?_
          refine St.val (v := (.bool true)) (Yields.pick_t rfl rfl) rfl rfl rfl ?_
          refine St.val (v := (.bool true)) (Yields.pick_f rfl rfl) trivial rfl rfl ?_
          refine St.val (v := (.bool true)) (Yields.move rfl) trivial rfl rfl ?_
          refine St.unwanted rfl rfl rfl ?_
          refine St.unwanted rfl rfl rfl ?_
          refine St.unwanted rfl rfl rfl ?_
          refine St.unwanted trivial rfl rfl ?_
          refine St.unwanted trivial rfl rfl ?_
          refine St.unwanted rfl rfl rfl ?_
          refine St.val (v := (.bool true)) (Yields.pick_t rfl rfl) trivial rfl rfl ?_
          refine St.val (v := (.bool true)) (Yields.move rfl) trivial rfl rfl ?_
          refine St.unwanted rfl rfl rfl ?_
          refine St.unwanted rfl rfl rfl ?_
          refine St.val (v := (.bool true)) (Yields.pick_t rfl rfl) trivial rfl rfl ?_
          refine St.val (v := (.bool true)) (Yields.assign rfl) trivial rfl rfl ?_
          refine St.nil ?_
          obtain rfl := sI hm
          intro a w ha hs
          exact ⟨ha.covers ⟨rfl, trivial⟩, (Among.of Among.none _ hs)⟩
        · replace hm := iF hm q12
          refine St.val (v := (.bool false)) (Yields.isnt q12 (Yields.le rfl rfl)) rfl rfl rfl ?_
          refine St.val (v := (.bool false)) (Yields.pick_t rfl rfl) rfl rfl rfl ?_
          refine St.val (v := (.bool false)) (Yields.pick_f rfl rfl) trivial rfl rfl ?_
          refine St.val (v := (.bool false)) (Yields.move rfl) trivial rfl rfl ?_
          refine St.val (v := (.int .u8 a0)) (Yields.move rfl) rfl rfl rfl ?_
          by_cases q13 : a0 ≥ 48
          · replace hm := iT hm q13
            refine St.val (v := (.bool true)) (Yields.is q13 (Yields.ge rfl rfl)) rfl rfl rfl ?_
            refine St.val (v := (.bool true)) (Yields.move rfl) rfl rfl rfl ?_
            refine St.val (v := (.int .u8 a0)) (Yields.move rfl) rfl rfl rfl ?_
            by_cases q14 : a0 ≤ 57
            · replace hm := iT hm q14
              refine St.val (v := (.bool true)) (Yields.is q14 (Yields.le rfl rfl)) rfl rfl rfl ?_
              refine St.val (v := (.bool true)) (Yields.pick_t rfl rfl) rfl rfl rfl ?_
              refine St.val (v := (.bool true)) (Yields.pick_f rfl rfl) trivial rfl rfl ?_
              refine St.val (v := (.bool true)) (Yields.move rfl) trivial rfl rfl ?_
              refine St.unwanted rfl rfl rfl ?_
              refine St.unwanted rfl rfl rfl ?_
              refine St.val (v := (.bool true)) (Yields.pick_t rfl rfl) trivial rfl rfl ?_
              refine St.val (v := (.bool true)) (Yields.assign rfl) trivial rfl rfl ?_
              refine St.nil ?_
              obtain rfl := sI hm
              intro a w ha hs
              exact ⟨ha.covers ⟨rfl, trivial⟩, (Among.of Among.none _ hs)⟩
            · replace hm := iF hm q14
              refine St.val (v := (.bool false)) (Yields.isnt q14 (Yields.le rfl rfl)) rfl rfl rfl ?_
              refine St.val (v := (.bool false)) (Yields.pick_t rfl rfl) rfl rfl rfl ?_
              refine St.val (v := (.bool false)) (Yields.pick_f rfl rfl) trivial rfl rfl ?_
              refine St.val (v := (.bool false)) (Yields.move rfl) trivial rfl rfl ?_
              refine St.val (v := (.int .u8 a0)) (Yields.move rfl) rfl rfl rfl ?_
              refine St.val (v := (.bool (decide (a0 = 95)))) (Yields.eq rfl rfl) rfl rfl rfl ?_
              refine St.val (v := (.bool (decide (a0 = 95)))) (Yields.pick_f rfl rfl) trivial rfl rfl ?_
              refine St.val (v := (.bool (decide (a0 = 95)))) (Yields.assign rfl) trivial rfl rfl ?_
              refine St.nil ?_
              obtain rfl := sI hm
              intro a w ha hs
              exact ⟨ha.covers ⟨rfl, trivial⟩, (Among.of Among.none _ hs)⟩
          · replace hm := iF hm q13
            refine St.val (v := (.bool false)) (Yields.isnt q13 (Yields.ge rfl rfl)) rfl rfl rfl ?_
            refine St.val (v := (.bool false)) (Yields.move rfl) rfl rfl rfl ?_
            refine St.unwanted rfl rfl rfl ?_
            refine St.unwanted rfl rfl rfl ?_
            refine St.val (v := (.bool false)) (Yields.pick_f rfl rfl) rfl rfl rfl ?_
            refine St.val (v := (.bool false)) (Yields.pick_f rfl rfl) trivial rfl rfl ?_
            refine St.val (v := (.bool false)) (Yields.move rfl) trivial rfl rfl ?_
            refine St.val (v := (.int .u8 a0)) (Yields.move rfl) rfl rfl rfl ?_
            refine St.val (v := (.bool (decide (a0 = 95)))) (Yields.eq rfl rfl) rfl rfl rfl ?_
            refine St.val (v := (.bool (decide (a0 = 95)))) (Yields.pick_f rfl rfl) trivial rfl rfl ?_
            refine St.val (v := (.bool (decide (a0 = 95)))) (Yields.assign rfl) trivial rfl rfl ?_
            refine St.nil ?_
            obtain rfl := sI hm
            intro a w ha hs
            exact ⟨ha.covers ⟨rfl, trivial⟩, (Among.of Among.none _ hs)⟩
      · replace hm := iF hm q11
        refine St.val (v := (.bool false)) (Yields.isnt q11 (Yields.ge rfl rfl)) rfl rfl rfl ?_
        refine St.val (v := (.bool false)) (Yields.move rfl) rfl rfl rfl ?_
        refine St.unwanted rfl rfl rfl ?_
        refine St.unwanted rfl rfl rfl ?_
        refine St.val (v := (.bool false)) (Yields.pick_f rfl rfl) rfl rfl rfl ?_
        refine St.val (v := (.bool false)) (Yields.pick_f rfl rfl) trivial rfl rfl ?_
        refine St.val (v := (.bool false)) (Yields.move rfl) trivial rfl rfl ?_
        refine St.val (v := (.int .u8 a0)) (Yields.move rfl) rfl rfl rfl ?_
        by_cases q15 : a0 ≥ 48
        · replace hm := iT hm q15
          refine St.val (v := (.bool true)) (Yields.is q15 (Yields.ge rfl rfl)) rfl rfl rfl ?_
          refine St.val (v := (.bool true)) (Yields.move rfl) rfl rfl rfl ?_
          refine St.val (v := (.int .u8 a0)) (Yields.move rfl) rfl rfl rfl ?_
          by_cases q16 : a0 ≤ 57
          · replace hm := iT hm q16
            refine St.val (v := (.bool true)) (Yields.is q16 (Yields.le rfl rfl)) rfl rfl rfl ?_
            refine St.val (v := (.bool true)) (Yields.pick_t rfl rfl) rfl rfl rfl ?_
            refine St.val (v := (.bool true)) (Yields.pick_f rfl rfl) trivial rfl rfl ?_
            refine St.val (v := (.bool true)) (Yields.move rfl) trivial rfl rfl ?_
            refine St.unwanted rfl rfl rfl ?_
            refine St.unwanted rfl rfl rfl ?_
            refine St.val (v := (.bool true)) (Yields.pick_t rfl rfl) trivial rfl rfl ?_
            refine St.val (v := (.bool true)) (Yields.assign rfl) trivial rfl rfl ?_
            refine St.nil ?_
            obtain rfl := sI hm
            intro a w ha hs
            exact ⟨ha.covers ⟨rfl, trivial⟩, (Among.of Among.none _ hs)⟩
          · replace hm := iF hm q16
            refine St.val (v := (.bool false)) (Yields.isnt q16 (Yields.le rfl rfl)) rfl rfl rfl ?_
            refine St.val (v := (.bool false)) (Yields.pick_t rfl rfl) rfl rfl rfl ?_
            refine St.val (v := (.bool false)) (Yields.pick_f rfl rfl) trivial rfl rfl ?_
            refine St.val (v := (.bool false)) (Yields.move rfl) trivial rfl rfl ?_
            refine St.val (v := (.int .u8 a0)) (Yields.move rfl) rfl rfl rfl ?_
            refine St.val (v := (.bool (decide (a0 = 95)))) (Yields.eq rfl rfl) rfl rfl rfl ?_
            refine St.val (v := (.bool (decide (a0 = 95)))) (Yields.pick_f rfl rfl) trivial rfl rfl ?_
            refine St.val (v := (.bool (decide (a0 = 95)))) (Yields.assign rfl) trivial rfl rfl ?_
            refine St.nil ?_
            obtain rfl := sI hm
            intro a w ha hs
            exact ⟨ha.covers ⟨rfl, trivial⟩, (Among.of Among.none _ hs)⟩
        · replace hm := iF hm q15
          refine St.val (v := (.bool false)) (Yields.isnt q15 (Yields.ge rfl rfl)) rfl rfl rfl ?_
          refine St.val (v := (.bool false)) (Yields.move rfl) rfl rfl rfl ?_
          refine St.unwanted rfl rfl rfl ?_
          refine St.unwanted rfl rfl rfl ?_
          refine St.val (v := (.bool false)) (Yields.pick_f rfl rfl) rfl rfl rfl ?_
          refine St.val (v := (.bool false)) (Yields.pick_f rfl rfl) trivial rfl rfl ?_
          refine St.val (v := (.bool false)) (Yields.move rfl) trivial rfl rfl ?_
          refine St.val (v := (.int .u8 a0)) (Yields.move rfl) rfl rfl rfl ?_
          refine St.val (v := (.bool (decide (a0 = 95)))) (Yields.eq rfl rfl) rfl rfl rfl ?_
          refine St.val (v := (.bool (decide (a0 = 95)))) (Yields.pick_f rfl rfl) trivial rfl rfl ?_
          refine St.val (v := (.bool (decide (a0 = 95)))) (Yields.assign rfl) trivial rfl rfl ?_
          refine St.nil ?_
          obtain rfl := sI hm
          intro a w ha hs
          exact ⟨ha.covers ⟨rfl, trivial⟩, (Among.of Among.none _ hs)⟩
  · rintro a w ⟨ha, hs⟩
    replace hm := hk2
    refine St.use (?_ : St _ _ _ _ _ _) ha hs
    clear ha hs a w
    refine St.ret ?_
    obtain rfl := sI hm
    exact St.doneR1 rfl rfl ⟨rfl, rfl⟩ (fun w hs => Among.of Among.none w hs)

theorem m_value_reader_token_sp {F : PH} {g : Nat} {a0 : List UInt8} {a1 : Int} {a2 : Int} {pbl0 : Nat} {r : List UInt8 × Int} (hm : m_value_reader_token g a0 a1 a2 = some r) :
    CallSp Try.prog 28 #[.pointer (some ⟨pbl0, 0, none⟩)] F [blk pbl0 (.cells #[.string (bs a0), .int .i64 a1, .int .i64 a2] 50 (0, 0))] (fun u F' H' => u = (.tuple #[.string (bs r.1), .int .i64 r.2]) ∧ H' = [blk pbl0 (.cells #[.string (bs a0), .int .i64 a1, .int .i64 a2] 50 (0, 0))]) := by
  unfold m_value_reader_token at hm
  refine CallSp.enter (args := [.pointer (some ⟨pbl0, 0, none⟩)]) Try.func28 rfl rfl ?_
  intro w0 m0 hm0
  refine St.seq ?_
  refine St.region ?_
  refine St.val (v := (.string (bs []))) (Yields.assign rfl) trivial rfl rfl ?_
  refine St.val (v := (.int .i64 0)) (Yields.assign rfl) trivial rfl rfl ?_
  refine St.nil ?_
  refine St.norm ?_
  refine St.seq ?_
  refine St.region ?_
  refine St.val (v := (.pointer (some ⟨pbl0, 0, none⟩))) (Yields.move rfl) trivial rfl rfl ?_
  refine St.val (v := (.pointer (some ⟨pbl0, 0, none⟩))) (Yields.nilCheck rfl) trivial rfl rfl ?_
  refine St.val (v := (.pointer (some ⟨pbl0, 1, none⟩))) (Yields.fieldAddr (v := (.pointer (some ⟨pbl0, 1, none⟩))) rfl (fun _ => by kernel_rfl)) trivial rfl rfl ?_
  refine St.val (v := (.int .i64 a1)) (Yields.load rfl (Loads.H1 0 rfl tc3 rfl)) trivial rfl rfl ?_
  refine St.val (v := (.int .i64 a1)) (Yields.assign rfl) trivial rfl rfl ?_
  refine St.nil ?_
  refine St.norm ?_
  obtain ⟨z1, hm, hk2⟩ := bS hm
  refine St.cutI (fun a w => Has Try.f28.ntmps a [(0, .pointer (some ⟨pbl0, 0, none⟩)), (4, .int .i64 z1)] ∧ Sat ⟨w0, fun b => m0 b ≠ none, F⟩ F [blk pbl0 (.cells #[.string (bs a0), .int .i64 a1, .int .i64 a2] 50 (0, 0))] w) ?_ ?_
  · skip
    refine St.block ?_
    refine St.loopM hm (fun s4 a w => Has Try.f28.ntmps a [(0, .pointer (some ⟨pbl0, 0, none⟩)), (4, .int .i64 s4)] ∧ Sat ⟨w0, fun b => m0 b ≠ none, F⟩ F [blk pbl0 (.cells #[.string (bs a0), .int .i64 a1, .int .i64 a2] 50 (0, 0))] w) ?_ ?_
    · skip
      intro a w ha hs
      exact ⟨ha.covers ⟨rfl, rfl, trivial⟩, (Among.of (Among.take 0 rfl rfl Among.none) _ hs)⟩
    · rintro s4 o5 co6 hm ho7 a w ⟨ha, hs⟩
      refine St.use (?_ : St _ _ _ _ _ _) ha hs
      clear ha hs a w
      refine St.seq ?_
      obtain ⟨z8, hm, hk9⟩ := bS hm
      refine St.cutI (fun a w => Has Try.f28.ntmps a [(0, .pointer (some ⟨pbl0, 0, none⟩)), (4, .int .i64 s4), (25, .bool z8)] ∧ Sat ⟨w0, fun b => m0 b ≠ none, F⟩ F [blk pbl0 (.cells #[.string (bs a0), .int .i64 a1, .int .i64 a2] 50 (0, 0))] w) ?_ ?_
      · skip
        refine St.region ?_
        refine St.val (v := (.int .i64 s4)) (Yields.move rfl) trivial rfl rfl ?_
        refine St.val (v := (.pointer (some ⟨pbl0, 0, none⟩))) (Yields.move rfl) trivial rfl rfl ?_
        refine St.val (v := (.pointer (some ⟨pbl0, 0, none⟩))) (Yields.nilCheck rfl) trivial rfl rfl ?_
        refine St.val (v := (.pointer (some ⟨pbl0, 0, none⟩))) (Yields.fieldAddr (v := (.pointer (some ⟨pbl0, 0, none⟩))) rfl (fun _ => by kernel_rfl)) trivial rfl rfl ?_
        refine St.val (v := (.string (bs a0))) (Yields.load rfl (Loads.H1 0 rfl tc9 rfl)) trivial rfl rfl ?_
        refine St.val (v := (.int .i64 ((a0.length : Nat) : Int))) (Yields.lenStr tu9 rfl) trivial rfl rfl ?_
        by_cases q10 : s4 < ((a0.length : Nat) : Int)
        · replace hm := iT hm q10
          refine St.val (v := (.bool true)) (Yields.is q10 (Yields.lt rfl rfl)) trivial rfl rfl ?_
          refine St.val (v := (.bool true)) (Yields.move rfl) trivial rfl rfl ?_
          refine St.val (v := (.pointer (some ⟨pbl0, 0, none⟩))) (Yields.move rfl) rfl rfl rfl ?_
          refine St.val (v := (.pointer (some ⟨pbl0, 0, none⟩))) (Yields.nilCheck rfl) rfl rfl rfl ?_
          refine St.val (v := (.pointer (some ⟨pbl0, 0, none⟩))) (Yields.fieldAddr (v := (.pointer (some ⟨pbl0, 0, none⟩))) rfl (fun _ => by kernel_rfl)) rfl rfl rfl ?_
          refine St.val (v := (.string (bs a0))) (Yields.load rfl (Loads.H1 0 rfl tc9 rfl)) rfl rfl rfl ?_
          refine St.val (v := (.int .i64 s4)) (Yields.move rfl) rfl rfl rfl ?_
          obtain ⟨x11, e12, hm⟩ := bS hm
          refine St.val (v := (.int .u8 ((x11.toNat : Nat) : Int))) (Yields.indexStr e12 tu9 rfl rfl) rfl rfl rfl ?_
          refine St.val (v := (.bool (decide (((x11.toNat : Nat) : Int) = 32)))) (Yields.eq rfl rfl) rfl rfl rfl ?_
          refine St.val (v := (.bool (decide (((x11.toNat : Nat) : Int) = 32)))) (Yields.pick_t rfl rfl) trivial rfl rfl ?_
          refine St.nil ?_
          obtain rfl := sI hm
          intro a w ha hs
          exact ⟨ha.covers ⟨rfl, rfl, rfl, trivial⟩, (Among.of (Among.take 0 rfl rfl Among.none) _ hs)⟩
        · replace hm := iF hm q10
          refine St.val (v := (.bool false)) (Yields.isnt q10 (Yields.lt rfl rfl)) trivial rfl rfl ?_
          refine St.val (v := (.bool false)) (Yields.move rfl) trivial rfl rfl ?_
          refine St.unwanted rfl rfl rfl ?_
          refine St.unwanted rfl rfl rfl ?_
          refine St.unwanted rfl rfl rfl ?_
          refine St.unwanted rfl rfl rfl ?_
          refine St.unwanted rfl rfl rfl ?_
          refine St.unwanted rfl rfl rfl ?_
          refine St.unwanted rfl rfl rfl ?_
          refine St.val (v := (.bool false)) (Yields.pick_f rfl rfl) trivial rfl rfl ?_
          refine St.nil ?_
          obtain rfl := sI hm
          intro a w ha hs
          exact ⟨ha.covers ⟨rfl, rfl, rfl, trivial⟩, (Among.of (Among.take 0 rfl rfl Among.none) _ hs)⟩
      · rintro a w ⟨ha, hs⟩
        replace hm := hk9
        refine St.use (?_ : St _ _ _ _ _ _) ha hs
        clear ha hs a w
        refine St.cond_b rfl ?_ ?_
        · intro q13
          replace q13 : z8 = true := q13
          replace hm := iT hm q13
          refine St.skip ?_
          refine St.norm ?_
          refine St.block ?_
          refine St.region ?_
          refine St.val (v := (.int .i64 s4)) (Yields.move rfl) trivial rfl rfl ?_
          refine St.val (v := (.int .i64 (Mir.w64 (s4 + 1)))) (Yields.addw rfl rfl) trivial rfl rfl ?_
          refine St.val (v := (.int .i64 (Mir.w64 (s4 + 1)))) (Yields.assign rfl) trivial rfl rfl ?_
          refine St.nil ?_
          refine St.innorm ?_
          refine St.norm ?_
          obtain rfl := sI hm
          intro a w ha hs
          exact ⟨Mir.w64 (s4 + 1), aL ho7, ha.covers ⟨rfl, rfl, trivial⟩, (Among.of (Among.take 0 rfl rfl Among.none) _ hs)⟩
        · intro q14
          replace q14 : ¬ (z8 = true) := bf q14
          replace hm := iF hm q14
          refine St.exit ?_
          refine St.thenexit ?_
          refine St.thenexit ?_
          refine St.inexit ?_
          obtain rfl := sI hm
          obtain rfl := aR ho7
          intro a w ha hs
          exact ⟨ha.covers ⟨rfl, rfl, trivial⟩, (Among.of (Among.take 0 rfl rfl Among.none) _ hs)⟩
  · rintro a w ⟨ha, hs⟩
    replace hm := hk2
    refine St.use (?_ : St _ _ _ _ _ _) ha hs
    clear ha hs a w
    refine St.seq ?_
    refine St.seq ?_
    refine St.region ?_
    refine St.val (v := (.int .i64 z1)) (Yields.move rfl) trivial rfl rfl ?_
    refine St.val (v := (.pointer (some ⟨pbl0, 0, none⟩))) (Yields.move rfl) trivial rfl rfl ?_
    refine St.val (v := (.pointer (some ⟨pbl0, 0, none⟩))) (Yields.nilCheck rfl) trivial rfl rfl ?_
    refine St.val (v := (.pointer (some ⟨pbl0, 0, none⟩))) (Yields.fieldAddr (v := (.pointer (some ⟨pbl0, 0, none⟩))) rfl (fun _ => by kernel_rfl)) trivial rfl rfl ?_
    refine St.val (v := (.string (bs a0))) (Yields.load rfl (Loads.H1 0 rfl tc9 rfl)) trivial rfl rfl ?_
    refine St.val (v := (.int .i64 ((a0.length : Nat) : Int))) (Yields.lenStr tu9 rfl) trivial rfl rfl ?_
    refine St.val (v := (.bool (decide (z1 = ((a0.length : Nat) : Int))))) (Yields.eq rfl rfl) trivial rfl rfl ?_
    refine St.nil ?_
    refine St.norm ?_
    refine St.cond_b rfl ?_ ?_
    · intro q15
      replace q15 : z1 = ((a0.length : Nat) : Int) := of_decide_eq_true q15
      replace hm := iT hm q15
      refine St.seq ?_
      refine St.region ?_
      refine St.val (v := (.int .i64 z1)) (Yields.move rfl) trivial rfl rfl ?_
      refine St.val (v := (.string (bs []))) (Yields.assign rfl) trivial rfl rfl ?_
      refine St.val (v := (.int .i64 z1)) (Yields.assign rfl) trivial rfl rfl ?_
      refine St.nil ?_
      refine St.norm ?_
      refine St.ret ?_
      refine St.thenret ?_
      obtain rfl := sI hm
      exact St.doneR2 rfl rfl rfl ⟨rfl, rfl⟩ (fun w hs => Among.of (Among.take 0 rfl rfl Among.none) w hs)
    · intro q16
      replace q16 : ¬ (z1 = ((a0.length : Nat) : Int)) := of_decide_eq_false q16
      replace hm := iF hm q16
      refine St.skip ?_
      refine St.norm ?_
      refine St.seq ?_
      refine St.region ?_
      refine St.val (v := (.int .i64 z1)) (Yields.move rfl) trivial rfl rfl ?_
      refine St.val (v := (.int .i64 z1)) (Yields.assign rfl) trivial rfl rfl ?_
      refine St.nil ?_
      refine St.norm ?_
      obtain ⟨z17, hm, hk20⟩ := bS hm
      refine St.cutI (fun a w => ∃ (F18 : PH), PH.le F F18 ∧ Has Try.f28.ntmps a [(0, .pointer (some ⟨pbl0, 0, none⟩)), (4, .int .i64 z1), (5, .int .i64 z17)] ∧ Sat ⟨w0, fun b => m0 b ≠ none, F⟩ F18 [blk pbl0 (.cells #[.string (bs a0), .int .i64 a1, .int .i64 a2] 50 (0, 0))] w) ?_ ?_
      · skip
        obtain ⟨z21, hm, hk24⟩ := bS hm
        refine St.cutI (fun a w => ∃ (F22 : PH), PH.le F F22 ∧ Has Try.f28.ntmps a [(0, .pointer (some ⟨pbl0, 0, none⟩)), (4, .int .i64 z1), (5, .int .i64 z1), (72, .bool z21)] ∧ Sat ⟨w0, fun b => m0 b ≠ none, F⟩ F22 [blk pbl0 (.cells #[.string (bs a0), .int .i64 a1, .int .i64 a2] 50 (0, 0))] w) ?_ ?_
        · skip
          refine St.region ?_
          refine St.val (v := (.pointer (some ⟨pbl0, 0, none⟩))) (Yields.move rfl) trivial rfl rfl ?_
          refine St.val (v := (.pointer (some ⟨pbl0, 0, none⟩))) (Yields.nilCheck rfl) trivial rfl rfl ?_
          refine St.val (v := (.pointer (some ⟨pbl0, 0, none⟩))) (Yields.fieldAddr (v := (.pointer (some ⟨pbl0, 0, none⟩))) rfl (fun _ => by kernel_rfl)) trivial rfl rfl ?_
          refine St.val (v := (.string (bs a0))) (Yields.load rfl (Loads.H1 0 rfl tc9 rfl)) trivial rfl rfl ?_
          refine St.val (v := (.int .i64 z1)) (Yields.move rfl) trivial rfl rfl ?_
          obtain ⟨x25, e26, hm⟩ := bS hm
          refine St.val (v := (.int .u8 ((x25.toNat : Nat) : Int))) (Yields.indexStr e26 tu9 rfl rfl) trivial rfl rfl ?_
          by_cases q27 : ((x25.toNat : Nat) : Int) = 45
          · replace hm := iT hm q27
            refine St.val (v := (.bool true)) (Yields.is q27 (Yields.eq rfl rfl)) trivial rfl rfl ?_
            refine St.val (v := (.bool true)) (Yields.move rfl) trivial rfl rfl ?_
            refine St.unwanted rfl rfl rfl ?_
            refine St.unwanted rfl rfl rfl ?_
            refine St.unwanted rfl rfl rfl ?_
            refine St.unwanted rfl rfl rfl ?_
            refine St.unwanted rfl rfl rfl ?_
            refine St.unwanted rfl rfl rfl ?_
            refine St.unwanted rfl rfl rfl ?_
            refine St.val (v := (.bool true)) (Yields.pick_t rfl rfl) trivial rfl rfl ?_
            refine St.val (v := (.bool true)) (Yields.move rfl) trivial rfl rfl ?_
            refine St.val (v := (.int .i64 z1)) (Yields.move rfl) rfl rfl rfl ?_
            refine St.val (v := (.int .i64 (Mir.w64 (z1 + 1)))) (Yields.addw rfl rfl) rfl rfl rfl ?_
            refine St.val (v := (.pointer (some ⟨pbl0, 0, none⟩))) (Yields.move rfl) rfl rfl rfl ?_
            refine St.val (v := (.pointer (some ⟨pbl0, 0, none⟩))) (Yields.nilCheck rfl) rfl rfl rfl ?_
            refine St.val (v := (.pointer (some ⟨pbl0, 0, none⟩))) (Yields.fieldAddr (v := (.pointer (some ⟨pbl0, 0, none⟩))) rfl (fun _ => by kernel_rfl)) rfl rfl rfl ?_
            refine St.val (v := (.string (bs a0))) (Yields.load rfl (Loads.H1 0 rfl tc9 rfl)) rfl rfl rfl ?_
            refine St.val (v := (.int .i64 ((a0.length : Nat) : Int))) (Yields.lenStr tu9 rfl) rfl rfl rfl ?_
            by_cases q28 : Mir.w64 (z1 + 1) < ((a0.length : Nat) : Int)
            · replace hm := iT hm q28
              refine St.val (v := (.bool true)) (Yields.is q28 (Yields.lt rfl rfl)) rfl rfl rfl ?_
              refine St.val (v := (.bool true)) (Yields.pick_t rfl rfl) trivial rfl rfl ?_
              refine St.val (v := (.bool true)) (Yields.move rfl) trivial rfl rfl ?_
              refine St.val (v := (.pointer (some ⟨pbl0, 0, none⟩))) (Yields.move rfl) rfl rfl rfl ?_
              refine St.val (v := (.pointer (some ⟨pbl0, 0, none⟩))) (Yields.nilCheck rfl) rfl rfl rfl ?_
              refine St.val (v := (.pointer (some ⟨pbl0, 0, none⟩))) (Yields.fieldAddr (v := (.pointer (some ⟨pbl0, 0, none⟩))) rfl (fun _ => by kernel_rfl)) rfl rfl rfl ?_
              refine St.val (v := (.string (bs a0))) (Yields.load rfl (Loads.H1 0 rfl tc9 rfl)) rfl rfl rfl ?_
              refine St.val (v := (.int .i64 z1)) (Yields.move rfl) rfl rfl rfl ?_
              refine St.val (v := (.int .i64 (Mir.w64 (z1 + 1)))) (Yields.addw rfl rfl) rfl rfl rfl ?_
              obtain ⟨x29, e30, hm⟩ := bS hm
              refine St.val (v := (.int .u8 ((x29.toNat : Nat) : Int))) (Yields.indexStr e30 tu9 rfl rfl) rfl rfl rfl ?_
              obtain ⟨q31, e32, hm⟩ := bS hm
              refine St.call [blk pbl0 (.cells #[.string (bs a0), .int .i64 a1, .int .i64 a2] 50 (0, 0))] (m_value_isWordByte_sp e32) rfl (fun _ ha => ev1 ha rfl) rfl en63 rfl rfl rfl ?_
              rintro _ F33 _ ⟨rfl, rfl⟩ l34
              refine St.val (v := (.bool q31)) (Yields.pick_t rfl rfl) trivial rfl rfl ?_
              refine St.nil ?_
              obtain rfl := sI hm
              intro a w ha hs
              exact ⟨F33, l34, ha.covers ⟨rfl, rfl, rfl, rfl, trivial⟩, (Among.of (Among.take 0 rfl rfl Among.none) _ hs)⟩
            · replace hm := iF hm q28
              refine St.val (v := (.bool false)) (Yields.isnt q28 (Yields.lt rfl rfl)) rfl rfl rfl ?_
              refine St.val (v := (.bool false)) (Yields.pick_t rfl rfl) trivial rfl rfl ?_
              refine St.val (v := (.bool false)) (Yields.move rfl) trivial rfl rfl ?_
              refine St.unwanted rfl rfl rfl ?_
              refine St.unwanted rfl rfl rfl ?_
              refine St.unwanted rfl rfl rfl ?_
              refine St.unwanted rfl rfl rfl ?_
              refine St.unwanted rfl rfl rfl ?_
              refine St.unwanted rfl rfl rfl ?_
              refine St.unwanted rfl rfl rfl ?_
              refine St.unwanted rfl rfl rfl ?_
              refine St.val (v := (.bool false)) (Yields.pick_f rfl rfl) trivial rfl rfl ?_
              refine St.nil ?_
              obtain rfl := sI hm
              intro a w ha hs
              exact ⟨F, (PH.le_refl _), ha.covers ⟨rfl, rfl, rfl, rfl, trivial⟩, (Among.of (Among.take 0 rfl rfl Among.none) _ hs)⟩
          · replace hm := iF hm q27
            refine St.val (v := (.bool false)) (Yields.isnt q27 (Yields.eq rfl rfl)) trivial rfl rfl ?_
            refine St.val (v := (.bool false)) (Yields.move rfl) trivial rfl rfl ?_
            refine St.val (v := (.pointer (some ⟨pbl0, 0, none⟩))) (Yields.move rfl) rfl rfl rfl ?_
            refine St.val (v := (.pointer (some ⟨pbl0, 0, none⟩))) (Yields.nilCheck rfl) rfl rfl rfl ?_
            refine St.val (v := (.pointer (some ⟨pbl0, 0, none⟩))) (Yields.fieldAddr (v := (.pointer (some ⟨pbl0, 0, none⟩))) rfl (fun _ => by kernel_rfl)) rfl rfl rfl ?_
            refine St.val (v := (.string (bs a0))) (Yields.load rfl (Loads.H1 0 rfl tc9 rfl)) rfl rfl rfl ?_
            refine St.val (v := (.int .i64 z1)) (Yields.move rfl) rfl rfl rfl ?_
            obtain ⟨x35, e36, hm⟩ := bS hm
            refine St.val (v := (.int .u8 ((x35.toNat : Nat) : Int))) (Yields.indexStr e36 tu9 rfl rfl) rfl rfl rfl ?_
            by_cases q37 : ((x35.toNat : Nat) : Int) = 39
            · replace hm := iT hm q37
              refine St.val (v := (.bool true)) (Yields.is q37 (Yields.eq rfl rfl)) rfl rfl rfl ?_
              refine St.val (v := (.bool true)) (Yields.pick_f rfl rfl) trivial rfl rfl ?_
              refine St.val (v := (.bool true)) (Yields.move rfl) trivial rfl rfl ?_
              refine St.val (v := (.int .i64 z1)) (Yields.move rfl) rfl rfl rfl ?_
              refine St.val (v := (.int .i64 (Mir.w64 (z1 + 1)))) (Yields.addw rfl rfl) rfl rfl rfl ?_
              refine St.val (v := (.pointer (some ⟨pbl0, 0, none⟩))) (Yields.move rfl) rfl rfl rfl ?_
              refine St.val (v := (.pointer (some ⟨pbl0, 0, none⟩))) (Yields.nilCheck rfl) rfl rfl rfl ?_
              refine St.val (v := (.pointer (some ⟨pbl0, 0, none⟩))) (Yields.fieldAddr (v := (.pointer (some ⟨pbl0, 0, none⟩))) rfl (fun _ => by kernel_rfl)) rfl rfl rfl ?_
              refine St.val (v := (.string (bs a0))) (Yields.load rfl (Loads.H1 0 rfl tc9 rfl)) rfl rfl rfl ?_
              refine St.val (v := (.int .i64 ((a0.length : Nat) : Int))) (Yields.lenStr tu9 rfl) rfl rfl rfl ?_
              by_cases q38 : Mir.w64 (z1 + 1) < ((a0.length : Nat) : Int)
              · replace hm := iT hm q38
                refine St.val (v := (.bool true)) (Yields.is q38 (Yields.lt rfl rfl)) rfl rfl rfl ?_
                refine St.val (v := (.bool true)) (Yields.pick_t rfl rfl) trivial rfl rfl ?_
                refine St.val (v := (.bool true)) (Yields.move rfl) trivial rfl rfl ?_
                refine St.val (v := (.pointer (some ⟨pbl0, 0, none⟩))) (Yields.move rfl) rfl rfl rfl ?_
                refine St.val (v := (.pointer (some ⟨pbl0, 0, none⟩))) (Yields.nilCheck rfl) rfl rfl rfl ?_
                refine St.val (v := (.pointer (some ⟨pbl0, 0, none⟩))) (Yields.fieldAddr (v := (.pointer (some ⟨pbl0, 0, none⟩))) rfl (fun _ => by kernel_rfl)) rfl rfl rfl ?_
                refine St.val (v := (.string (bs a0))) (Yields.load rfl (Loads.H1 0 rfl tc9 rfl)) rfl rfl rfl ?_
                refine St.val (v := (.int .i64 z1)) (Yields.move rfl) rfl rfl rfl ?_
                refine St.val (v := (.int .i64 (Mir.w64 (z1 + 1)))) (Yields.addw rfl rfl) rfl rfl rfl ?_
                obtain ⟨x39, e40, hm⟩ := bS hm
                refine St.val (v := (.int .u8 ((x39.toNat : Nat) : Int))) (Yields.indexStr e40 tu9 rfl rfl) rfl rfl rfl ?_
                obtain ⟨q41, e42, hm⟩ := bS hm
                refine St.call [blk pbl0 (.cells #[.string (bs a0), .int .i64 a1, .int .i64 a2] 50 (0, 0))] (m_value_isWordByte_sp e42) rfl (fun _ ha => ev1 ha rfl) rfl en63 rfl rfl rfl ?_
                rintro _ F43 _ ⟨rfl, rfl⟩ l44
                refine St.val (v := (.bool q41)) (Yields.pick_t rfl rfl) trivial rfl rfl ?_
                refine St.nil ?_
                obtain rfl := sI hm
                intro a w ha hs
                exact ⟨F43, l44, ha.covers ⟨rfl, rfl, rfl, rfl, trivial⟩, (Among.of (Among.take 0 rfl rfl Among.none) _ hs)⟩
              · replace hm := iF hm q38
                refine St.val (v := (.bool false)) (Yields.isnt q38 (Yields.lt rfl rfl)) rfl rfl rfl ?_
                refine St.val (v := (.bool false)) (Yields.pick_t rfl rfl) trivial rfl rfl ?_
                refine St.val (v := (.bool false)) (Yields.move rfl) trivial rfl rfl ?_
                refine St.unwanted rfl rfl rfl ?_
                refine St.unwanted rfl rfl rfl ?_
                refine St.unwanted rfl rfl rfl ?_
                refine St.unwanted rfl rfl rfl ?_
                refine St.unwanted rfl rfl rfl ?_
                refine St.unwanted rfl rfl rfl ?_
                refine St.unwanted rfl rfl rfl ?_
                refine St.unwanted rfl rfl rfl ?_
                refine St.val (v := (.bool false)) (Yields.pick_f rfl rfl) trivial rfl rfl ?_
                refine St.nil ?_
                obtain rfl := sI hm
                intro a w ha hs
                exact ⟨F, (PH.le_refl _), ha.covers ⟨rfl, rfl, rfl, rfl, trivial⟩, (Among.of (Among.take 0 rfl rfl Among.none) _ hs)⟩
            · replace hm := iF hm q37
              refine St.val (v := (.bool false)) (Yields.isnt q37 (Yields.eq rfl rfl)) rfl rfl rfl ?_
              refine St.val (v := (.bool false)) (Yields.pick_f rfl rfl) trivial rfl rfl ?_
              refine St.val (v := (.bool false)) (Yields.move rfl) trivial rfl rfl ?_
              refine St.unwanted rfl rfl rfl ?_
              refine St.unwanted rfl rfl rfl ?_
              refine St.unwanted rfl rfl rfl ?_
              refine St.unwanted rfl rfl rfl ?_
              refine St.unwanted rfl rfl rfl ?_
              refine St.unwanted rfl rfl rfl ?_
              refine St.unwanted rfl rfl rfl ?_
              refine St.unwanted rfl rfl rfl ?_
              refine St.val (v := (.bool false)) (Yields.pick_f rfl rfl) trivial rfl rfl ?_
              refine St.val (v := (.bool false)) (Yields.move rfl) trivial rfl rfl ?_
              refine St.unwanted rfl rfl rfl ?_
              refine St.unwanted rfl rfl rfl ?_
              refine St.unwanted rfl rfl rfl ?_
              refine St.unwanted rfl rfl rfl ?_
              refine St.unwanted rfl rfl rfl ?_
              refine St.unwanted rfl rfl rfl ?_
              refine St.unwanted rfl rfl rfl ?_
              refine St.unwanted rfl rfl rfl ?_
              refine St.val (v := (.bool false)) (Yields.pick_f rfl rfl) trivial rfl rfl ?_
              refine St.nil ?_
              obtain rfl := sI hm
              intro a w ha hs
              exact ⟨F, (PH.le_refl _), ha.covers ⟨rfl, rfl, rfl, rfl, trivial⟩, (Among.of (Among.take 0 rfl rfl Among.none) _ hs)⟩
        · rintro a w ⟨F22, l23, ha, hs⟩
          replace hm := hk24
          refine St.use (?_ : St _ _ _ _ _ _) ha hs
          clear ha hs a w
          refine St.cond_b rfl ?_ ?_
          · intro q45
            replace q45 : z21 = true := q45
            replace hm := iT hm q45
            refine St.region ?_
            refine St.val (v := (.int .i64 z1)) (Yields.move rfl) trivial rfl rfl ?_
            refine St.val (v := (.int .i64 (Mir.w64 (z1 + 1)))) (Yields.addw rfl rfl) trivial rfl rfl ?_
            refine St.val (v := (.int .i64 (Mir.w64 (z1 + 1)))) (Yields.assign rfl) trivial rfl rfl ?_
            refine St.nil ?_
            obtain rfl := sI hm
            intro a w ha hs
            exact ⟨F22, l23, ha.covers ⟨rfl, rfl, rfl, trivial⟩, (Among.of (Among.take 0 rfl rfl Among.none) _ hs)⟩
          · intro q46
            replace q46 : ¬ (z21 = true) := bf q46
            replace hm := iF hm q46
            refine St.skip ?_
            obtain rfl := sI hm
            intro a w ha hs
            exact ⟨F22, l23, ha.covers ⟨rfl, rfl, rfl, trivial⟩, (Among.of (Among.take 0 rfl rfl Among.none) _ hs)⟩
      · rintro a w ⟨F18, l19, ha, hs⟩
        replace hm := hk20
        refine St.use (?_ : St _ _ _ _ _ _) ha hs
        clear ha hs a w
        obtain ⟨z47, hm, hk50⟩ := bS hm
        refine St.cutI (fun a w => ∃ (F48 : PH), PH.le F18 F48 ∧ Has Try.f28.ntmps a [(0, .pointer (some ⟨pbl0, 0, none⟩)), (4, .int .i64 z1), (5, .int .i64 z47)] ∧ Sat ⟨w0, fun b => m0 b ≠ none, F⟩ F48 [blk pbl0 (.cells #[.string (bs a0), .int .i64 a1, .int .i64 a2] 50 (0, 0))] w) ?_ ?_
        · skip
          refine St.block ?_
          refine St.loopM hm (fun s53 a w => ∃ (F57 : PH), PH.le F18 F57 ∧ Has Try.f28.ntmps a [(0, .pointer (some ⟨pbl0, 0, none⟩)), (4, .int .i64 z1), (5, .int .i64 s53)] ∧ Sat ⟨w0, fun b => m0 b ≠ none, F⟩ F57 [blk pbl0 (.cells #[.string (bs a0), .int .i64 a1, .int .i64 a2] 50 (0, 0))] w) ?_ ?_
          · skip
            intro a w ha hs
            exact ⟨F18, (PH.le_refl _), ha.covers ⟨rfl, rfl, rfl, trivial⟩, (Among.of (Among.take 0 rfl rfl Among.none) _ hs)⟩
          · rintro s53 o54 co55 hm ho56 a w ⟨F57, l58, ha, hs⟩
            refine St.use (?_ : St _ _ _ _ _ _) ha hs
            clear ha hs a w
            refine St.seq ?_
            obtain ⟨z59, hm, hk62⟩ := bS hm
            refine St.cutI (fun a w => ∃ (F60 : PH), PH.le F57 F60 ∧ Has Try.f28.ntmps a [(0, .pointer (some ⟨pbl0, 0, none⟩)), (4, .int .i64 z1), (5, .int .i64 s53), (90, .bool z59)] ∧ Sat ⟨w0, fun b => m0 b ≠ none, F⟩ F60 [blk pbl0 (.cells #[.string (bs a0), .int .i64 a1, .int .i64 a2] 50 (0, 0))] w) ?_ ?_
            · skip
              refine St.region ?_
              refine St.val (v := (.int .i64 s53)) (Yields.move rfl) trivial rfl rfl ?_
              refine St.val (v := (.pointer (some ⟨pbl0, 0, none⟩))) (Yields.move rfl) trivial rfl rfl ?_
              refine St.val (v := (.pointer (some ⟨pbl0, 0, none⟩))) (Yields.nilCheck rfl) trivial rfl rfl ?_
              refine St.val (v := (.pointer (some ⟨pbl0, 0, none⟩))) (Yields.fieldAddr (v := (.pointer (some ⟨pbl0, 0, none⟩))) rfl (fun _ => by kernel_rfl)) trivial rfl rfl ?_
              refine St.val (v := (.string (bs a0))) (Yields.load rfl (Loads.H1 0 rfl tc9 rfl)) trivial rfl rfl ?_
              refine St.val (v := (.int .i64 ((a0.length : Nat) : Int))) (Yields.lenStr tu9 rfl) trivial rfl rfl ?_
              by_cases q63 : s53 < ((a0.length : Nat) : Int)
              · replace hm := iT hm q63
                refine St.val (v := (.bool true)) (Yields.is q63 (Yields.lt rfl rfl)) trivial rfl rfl ?_
                refine St.val (v := (.bool true)) (Yields.move rfl) trivial rfl rfl ?_
                refine St.val (v := (.pointer (some ⟨pbl0, 0, none⟩))) (Yields.move rfl) rfl rfl rfl ?_
                refine St.val (v := (.pointer (some ⟨pbl0, 0, none⟩))) (Yields.nilCheck rfl) rfl rfl rfl ?_
                refine St.val (v := (.pointer (some ⟨pbl0, 0, none⟩))) (Yields.fieldAddr (v := (.pointer (some ⟨pbl0, 0, none⟩))) rfl (fun _ => by kernel_rfl)) rfl rfl rfl ?_
                refine St.val (v := (.string (bs a0))) (Yields.load rfl (Loads.H1 0 rfl tc9 rfl)) rfl rfl rfl ?_
                refine St.val (v := (.int .i64 s53)) (Yields.move rfl) rfl rfl rfl ?_
                obtain ⟨x64, e65, hm⟩ := bS hm
                refine St.val (v := (.int .u8 ((x64.toNat : Nat) : Int))) (Yields.indexStr e65 tu9 rfl rfl) rfl rfl rfl ?_
                obtain ⟨q66, e67, hm⟩ := bS hm
                refine St.call [blk pbl0 (.cells #[.string (bs a0), .int .i64 a1, .int .i64 a2] 50 (0, 0))] (m_value_isWordByte_sp e67) rfl (fun _ ha => ev1 ha rfl) rfl en63 rfl rfl rfl ?_
                rintro _ F68 _ ⟨rfl, rfl⟩ l69
                refine St.val (v := (.bool q66)) (Yields.pick_t rfl rfl) trivial rfl rfl ?_
                refine St.nil ?_
                obtain rfl := sI hm
                intro a w ha hs
                exact ⟨F68, l69, ha.covers ⟨rfl, rfl, rfl, rfl, trivial⟩, (Among.of (Among.take 0 rfl rfl Among.none) _ hs)⟩
              · replace hm := iF hm q63
                refine St.val (v := (.bool false)) (Yields.isnt q63 (Yields.lt rfl rfl)) trivial rfl rfl ?_
                refine St.val (v := (.bool false)) (Yields.move rfl) trivial rfl rfl ?_
                refine St.unwanted rfl rfl rfl ?_
                refine St.unwanted rfl rfl rfl ?_
                refine St.unwanted rfl rfl rfl ?_
                refine St.unwanted rfl rfl rfl ?_
                refine St.unwanted rfl rfl rfl ?_
                refine St.unwanted rfl rfl rfl ?_
                refine St.unwanted rfl rfl rfl ?_
                refine St.val (v := (.bool false)) (Yields.pick_f rfl rfl) trivial rfl rfl ?_
                refine St.nil ?_
                obtain rfl := sI hm
                intro a w ha hs
                exact ⟨F57, (PH.le_refl _), ha.covers ⟨rfl, rfl, rfl, rfl, trivial⟩, (Among.of (Among.take 0 rfl rfl Among.none) _ hs)⟩
            · rintro a w ⟨F60, l61, ha, hs⟩
              replace hm := hk62
              refine St.use (?_ : St _ _ _ _ _ _) ha hs
              clear ha hs a w
              refine St.cond_b rfl ?_ ?_
              · intro q70
                replace q70 : z59 = true := q70
                replace hm := iT hm q70
                refine St.skip ?_
                refine St.norm ?_
                refine St.block ?_
                refine St.region ?_
                refine St.val (v := (.int .i64 s53)) (Yields.move rfl) trivial rfl rfl ?_
                refine St.val (v := (.int .i64 (Mir.w64 (s53 + 1)))) (Yields.addw rfl rfl) trivial rfl rfl ?_
                refine St.val (v := (.int .i64 (Mir.w64 (s53 + 1)))) (Yields.assign rfl) trivial rfl rfl ?_
                refine St.nil ?_
                refine St.innorm ?_
                refine St.norm ?_
                obtain rfl := sI hm
                intro a w ha hs
                exact ⟨Mir.w64 (s53 + 1), aL ho56, F60, (PH.le_trans l58 l61), ha.covers ⟨rfl, rfl, rfl, trivial⟩, (Among.of (Among.take 0 rfl rfl Among.none) _ hs)⟩
              · intro q71
                replace q71 : ¬ (z59 = true) := bf q71
                replace hm := iF hm q71
                refine St.exit ?_
                refine St.thenexit ?_
                refine St.thenexit ?_
                refine St.inexit ?_
                obtain rfl := sI hm
                obtain rfl := aR ho56
                intro a w ha hs
                exact ⟨F60, (PH.le_trans l58 l61), ha.covers ⟨rfl, rfl, rfl, trivial⟩, (Among.of (Among.take 0 rfl rfl Among.none) _ hs)⟩
        · rintro a w ⟨F48, l49, ha, hs⟩
          replace hm := hk50
          refine St.use (?_ : St _ _ _ _ _ _) ha hs
          clear ha hs a w
          refine St.seq ?_
          refine St.region ?_
          refine St.val (v := (.pointer (some ⟨pbl0, 0, none⟩))) (Yields.move rfl) trivial rfl rfl ?_
          refine St.val (v := (.pointer (some ⟨pbl0, 0, none⟩))) (Yields.nilCheck rfl) trivial rfl rfl ?_
          refine St.val (v := (.pointer (some ⟨pbl0, 0, none⟩))) (Yields.fieldAddr (v := (.pointer (some ⟨pbl0, 0, none⟩))) rfl (fun _ => by kernel_rfl)) trivial rfl rfl ?_
          refine St.val (v := (.string (bs a0))) (Yields.load rfl (Loads.H1 0 rfl tc9 rfl)) trivial rfl rfl ?_
          refine St.val (v := (.int .i64 z1)) (Yields.move rfl) trivial rfl rfl ?_
          refine St.val (v := (.int .i64 z47)) (Yields.move rfl) trivial rfl rfl ?_
          refine St.val (v := (.int .i64 z1)) (Yields.move rfl) trivial rfl rfl ?_
          refine St.val (v := (.int .i64 (Mir.w64 (z1 + 1)))) (Yields.addw rfl rfl) trivial rfl rfl ?_
          refine St.val (v := (.int .i64 (if (Mir.w64 (z1 + 1)) > z47 then Mir.w64 (z1 + 1) else z47))) (Yields.max2 rfl rfl) trivial rfl rfl ?_
          obtain ⟨x72, e73, hm⟩ := bS hm
          refine St.val (v := (.string (bs x72))) (Yields.subS2 e73 tu9 rfl rfl rfl) trivial rfl rfl ?_
          refine St.val (v := (.int .i64 z1)) (Yields.move rfl) trivial rfl rfl ?_
          refine St.val (v := (.string (bs x72))) (Yields.assign rfl) trivial rfl rfl ?_
          refine St.val (v := (.int .i64 z1)) (Yields.assign rfl) trivial rfl rfl ?_
          refine St.nil ?_
          refine St.norm ?_
          refine St.ret ?_
          obtain rfl := sI hm
          exact St.doneR2 rfl rfl rfl ⟨rfl, rfl⟩ (fun w hs => Among.of (Among.take 0 rfl rfl Among.none) w hs)

theorem m_value_isName_sp {F : PH} {g : Nat} {a0 : List UInt8} {a1 : Int} {a2 : Int} {r : Bool} (hm : m_value_isName g a0 a1 a2 = some r) :
    CallSp Try.prog 87 #[.string (bs a0), .int .u8 a1, .int .u8 a2] F [] (fun u F' H' => u = (.bool r) ∧ H' = []) := by
  unfold m_value_isName at hm
  refine CallSp.enter (args := [.string (bs a0), .int .u8 a1, .int .u8 a2]) Try.func87 rfl rfl ?_
  intro w0 m0 hm0
  refine St.seq ?_
  refine St.region ?_
  refine St.val (v := (.bool false)) (Yields.assign rfl) trivial rfl rfl ?_
  refine St.nil ?_
  refine St.norm ?_
  refine St.seq ?_
  obtain ⟨z1, hm, hk2⟩ := bS hm
  refine St.cutI (fun a w => Has Try.f87.ntmps a [(0, .string (bs a0)), (28, .bool z1)] ∧ Sat ⟨w0, fun b => m0 b ≠ none, F⟩ F [] w) ?_ ?_
  · skip
    refine St.region ?_
    refine St.val (v := (.string (bs a0))) (Yields.move rfl) trivial rfl rfl ?_
    refine St.val (v := (.int .i64 ((a0.length : Nat) : Int))) (Yields.lenStr tu9 rfl) trivial rfl rfl ?_
    by_cases q3 : ((a0.length : Nat) : Int) < 1
    · replace hm := iT hm q3
      refine St.val (v := (.bool true)) (Yields.is q3 (Yields.lt rfl rfl)) trivial rfl rfl ?_
      refine St.val (v := (.bool true)) (Yields.move rfl) trivial rfl rfl ?_
      refine St.unwanted rfl rfl rfl ?_
      refine St.unwanted rfl rfl rfl ?_
      refine St.unwanted rfl rfl rfl ?_
      refine St.val (v := (.bool true)) (Yields.pick_t rfl rfl) trivial rfl rfl ?_
      refine St.val (v := (.bool true)) (Yields.move rfl) trivial rfl rfl ?_
      refine St.unwanted rfl rfl rfl ?_
      refine St.unwanted rfl rfl rfl ?_
      refine St.unwanted rfl rfl rfl ?_
      refine St.unwanted rfl rfl rfl ?_
      refine St.val (v := (.bool true)) (Yields.pick_t rfl rfl) trivial rfl rfl ?_
      refine St.val (v := (.bool true)) (Yields.move rfl) trivial rfl rfl ?_
      refine St.unwanted rfl rfl rfl ?_
      refine St.unwanted rfl rfl rfl ?_
      refine St.unwanted rfl rfl rfl ?_
      refine St.unwanted rfl rfl rfl ?_
      refine St.val (v := (.bool true)) (Yields.pick_t rfl rfl) trivial rfl rfl ?_
      refine St.nil ?_
      obtain rfl := sI hm
      intro a w ha hs
      exact ⟨ha.covers ⟨rfl, rfl, trivial⟩, (Among.of Among.none _ hs)⟩
    · replace hm := iF hm q3
      refine St.val (v := (.bool false)) (Yields.isnt q3 (Yields.lt rfl rfl)) trivial rfl rfl ?_
      refine St.val (v := (.bool false)) (Yields.move rfl) trivial rfl rfl ?_
      refine St.val (v := (.string (bs a0))) (Yields.move rfl) rfl rfl rfl ?_
      refine St.val (v := (.int .i64 ((a0.length : Nat) : Int))) (Yields.lenStr tu9 rfl) rfl rfl rfl ?_
      by_cases q4 : ((a0.length : Nat) : Int) > 16
      · replace hm := iT hm q4
        refine St.val (v := (.bool true)) (Yields.is q4 (Yields.gt rfl rfl)) rfl rfl rfl ?_
        refine St.val (v := (.bool true)) (Yields.pick_f rfl rfl) trivial rfl rfl ?_
        refine St.val (v := (.bool true)) (Yields.move rfl) trivial rfl rfl ?_
        refine St.unwanted rfl rfl rfl ?_
        refine St.unwanted rfl rfl rfl ?_
        refine St.unwanted rfl rfl rfl ?_
        refine St.unwanted rfl rfl rfl ?_
        refine St.val (v := (.bool true)) (Yields.pick_t rfl rfl) trivial rfl rfl ?_
        refine St.val (v := (.bool true)) (Yields.move rfl) trivial rfl rfl ?_
        refine St.unwanted rfl rfl rfl ?_
        refine St.unwanted rfl rfl rfl ?_
        refine St.unwanted rfl rfl rfl ?_
        refine St.unwanted rfl rfl rfl ?_
        refine St.val (v := (.bool true)) (Yields.pick_t rfl rfl) trivial rfl rfl ?_
        refine St.nil ?_
        obtain rfl := sI hm
        intro a w ha hs
        exact ⟨ha.covers ⟨rfl, rfl, trivial⟩, (Among.of Among.none _ hs)⟩
      · replace hm := iF hm q4
        refine St.val (v := (.bool false)) (Yields.isnt q4 (Yields.gt rfl rfl)) rfl rfl rfl ?_
        refine St.val (v := (.bool false)) (Yields.pick_f rfl rfl) trivial rfl rfl ?_
        refine St.val (v := (.bool false)) (Yields.move rfl) trivial rfl rfl ?_
        refine St.val (v := (.string (bs a0))) (Yields.move rfl) rfl rfl rfl ?_
        obtain ⟨x5, e6, hm⟩ := bS hm
        refine St.val (v := (.int .u8 ((x5.toNat : Nat) : Int))) (Yields.indexStr (nlit e6) tu9 rfl rfl) rfl rfl rfl ?_
        refine St.val (v := (.int .u8 a1)) (Yields.move rfl) rfl rfl rfl ?_
        by_cases q7 : ((x5.toNat : Nat) : Int) < a1
        · replace hm := iT hm q7
          refine St.val (v := (.bool true)) (Yields.is q7 (Yields.lt rfl rfl)) rfl rfl rfl ?_
          refine St.val (v := (.bool true)) (Yields.pick_f rfl rfl) trivial rfl rfl ?_
          refine St.val (v := (.bool true)) (Yields.move rfl) trivial rfl rfl ?_
          refine St.unwanted rfl rfl rfl ?_
          refine St.unwanted rfl rfl rfl ?_
          refine St.unwanted rfl rfl rfl ?_
          refine St.unwanted rfl rfl rfl ?_
          refine St.val (v := (.bool true)) (Yields.pick_t rfl rfl) trivial rfl rfl ?_
          refine St.nil ?_
          obtain rfl := sI hm
          intro a w ha hs
          exact ⟨ha.covers ⟨rfl, rfl, trivial⟩, (Among.of Among.none _ hs)⟩
        · replace hm := iF hm q7
          refine St.val (v := (.bool false)) (Yields.isnt q7 (Yields.lt rfl rfl)) rfl rfl rfl ?_
          refine St.val (v := (.bool false)) (Yields.pick_f rfl rfl) trivial rfl rfl ?_
          refine St.val (v := (.bool false)) (Yields.move rfl) trivial rfl rfl ?_
          refine St.val (v := (.string (bs a0))) (Yields.move rfl) rfl rfl rfl ?_
          obtain ⟨x8, e9, hm⟩ := bS hm
          refine St.val (v := (.int .u8 ((x8.toNat : Nat) : Int))) (Yields.indexStr (nlit e9) tu9 rfl rfl) rfl rfl rfl ?_
          refine St.val (v := (.int .u8 a2)) (Yields.move rfl) rfl rfl rfl ?_
          refine St.val (v := (.bool (decide (((x8.toNat : Nat) : Int) > a2)))) (Yields.gt rfl rfl) rfl rfl rfl ?_
          refine St.val (v := (.bool (decide (((x8.toNat : Nat) : Int) > a2)))) (Yields.pick_f rfl rfl) trivial rfl rfl ?_
          refine St.nil ?_
          obtain rfl := sI hm
          intro a w ha hs
          exact ⟨ha.covers ⟨rfl, rfl, trivial⟩, (Among.of Among.none _ hs)⟩
  · rintro a w ⟨ha, hs⟩
    replace hm := hk2
    refine St.use (?_ : St _ _ _ _ _ _) ha hs
    clear ha hs a w
    refine St.cond_b rfl ?_ ?_
    · intro q10
      replace q10 : z1 = true := q10
      replace hm := iT hm q10
      refine St.seq ?_
      refine St.region ?_
      refine St.val (v := (.bool false)) (Yields.assign rfl) trivial rfl rfl ?_
      refine St.nil ?_
      refine St.norm ?_
      refine St.ret ?_
      refine St.thenret ?_
      obtain rfl := sI hm
      exact St.doneR1 rfl rfl ⟨rfl, rfl⟩ (fun w hs => Among.of Among.none w hs)
    · intro q11
      replace q11 : ¬ (z1 = true) := bf q11
      replace hm := iF hm q11
      refine St.skip ?_
      refine St.norm ?_
      obtain ⟨o13, hm, ho14⟩ := jS hm
      refine St.cutI (fun a w => ∃ z12 : Unit, o13 = .inl z12 ∧ Has Try.f87.ntmps a [] ∧ Sat ⟨w0, fun b => m0 b ≠ none, F⟩ F [] w) ?_ ?_
      · skip
        refine St.seq ?_
        refine St.region ?_
        refine St.val (v := (.int .i64 1)) (Yields.assign rfl) trivial rfl rfl ?_
        refine St.nil ?_
        refine St.norm ?_
        refine St.block ?_
        refine St.loopM hm (fun s16 a w => Has Try.f87.ntmps a [(0, .string (bs a0)), (7, .int .i64 ((s16 : Nat) : Int))] ∧ Sat ⟨w0, fun b => m0 b ≠ none, F⟩ F [] w) ?_ ?_
        · skip
          intro a w ha hs
          exact ⟨ha.covers ⟨rfl, rfl, trivial⟩, (Among.of Among.none _ hs)⟩
        · rintro s16 o17 co18 hm ho19 a w ⟨ha, hs⟩
          refine St.use (?_ : St _ _ _ _ _ _) ha hs
          clear ha hs a w
          refine St.seq ?_
          refine St.seq ?_
          refine St.region ?_
          refine St.val (v := (.int .i64 ((s16 : Nat) : Int))) (Yields.move rfl) trivial rfl rfl ?_
          refine St.val (v := (.string (bs a0))) (Yields.move rfl) trivial rfl rfl ?_
          refine St.val (v := (.int .i64 ((a0.length : Nat) : Int))) (Yields.lenStr tu9 rfl) trivial rfl rfl ?_
          refine St.val (v := (.bool (decide (((s16 : Nat) : Int) < ((a0.length : Nat) : Int))))) (Yields.lt rfl rfl) trivial rfl rfl ?_
          refine St.nil ?_
          refine St.norm ?_
          refine St.cond_b rfl ?_ ?_
          · intro q20
            replace q20 : ((s16 : Nat) : Int) < ((a0.length : Nat) : Int) := of_decide_eq_true q20
            replace hm := iT hm q20
            refine St.skip ?_
            refine St.norm ?_
            refine St.seq ?_
            refine St.block ?_
            refine St.seq ?_
            refine St.region ?_
            refine St.val (v := (.string (bs a0))) (Yields.move rfl) trivial rfl rfl ?_
            refine St.val (v := (.int .i64 ((s16 : Nat) : Int))) (Yields.move rfl) trivial rfl rfl ?_
            obtain ⟨x21, e22, hm⟩ := bS hm
            refine St.val (v := (.int .u8 ((x21.toNat : Nat) : Int))) (Yields.indexStr (nlit e22) tu9 rfl rfl) trivial rfl rfl ?_
            refine St.val (v := (.int .u8 ((x21.toNat : Nat) : Int))) (Yields.assign rfl) trivial rfl rfl ?_
            refine St.nil ?_
            refine St.norm ?_
            obtain ⟨z23, hm, hk24⟩ := bS hm
            refine St.cutI (fun a w => Has Try.f87.ntmps a [(0, .string (bs a0)), (7, .int .i64 ((s16 : Nat) : Int)), (64, .bool z23)] ∧ Sat ⟨w0, fun b => m0 b ≠ none, F⟩ F [] w) ?_ ?_
            · skip
              refine St.region ?_
              refine St.val (v := (.int .u8 ((x21.toNat : Nat) : Int))) (Yields.move rfl) trivial rfl rfl ?_
              by_cases q25 : ((x21.toNat : Nat) : Int) ≥ 97
              · replace hm := iT hm q25
                refine St.val (v := (.bool true)) (Yields.is q25 (Yields.ge rfl rfl)) trivial rfl rfl ?_
                refine St.val (v := (.bool true)) (Yields.move rfl) trivial rfl rfl ?_
                refine St.val (v := (.int .u8 ((x21.toNat : Nat) : Int))) (Yields.move rfl) rfl rfl rfl ?_
                by_cases q26 : ((x21.toNat : Nat) : Int) ≤ 122
                · replace hm := iT hm q26
                  refine St.val (v := (.bool true)) (Yields.is q26 (Yields.le rfl rfl)) rfl rfl rfl ?_
                  refine St.val (v := (.bool true)) (Yields.pick_t rfl rfl) trivial rfl rfl ?_
                  refine St.val (v := (.bool true)) (Yields.move rfl) trivial rfl rfl ?_
                  refine St.unwanted rfl rfl rfl ?_
                  refine St.unwanted rfl rfl rfl ?_
                  refine St.unwanted rfl rfl rfl ?_
                  refine St.unwanted trivial rfl rfl ?_
                  refine St.unwanted trivial rfl rfl ?_
                  refine St.unwanted rfl rfl rfl ?_
                  refine St.val (v := (.bool true)) (Yields.pick_t rfl rfl) trivial rfl rfl ?_
                  refine St.val (v := (.bool true)) (Yields.move rfl) trivial rfl rfl ?_
                  refine St.unwanted rfl rfl rfl ?_
                  refine St.unwanted rfl rfl rfl ?_
                  refine St.unwanted rfl rfl rfl ?_
                  refine St.unwanted trivial rfl rfl ?_
                  refine St.unwanted trivial rfl rfl ?_
                  refine St.unwanted rfl rfl rfl ?_
                  refine St.val (v := (.bool true)) (Yields.pick_t rfl rfl) trivial rfl rfl ?_
                  refine St.val (v := (.bool true)) (Yields.move rfl) trivial rfl rfl ?_
                  refine St.unwanted rfl rfl rfl ?_
                  refine St.unwanted rfl rfl rfl ?_
                  refine St.val (v := (.bool true)) (Yields.pick_t rfl rfl) trivial rfl rfl ?_
                  refine St.val (v := (.bool false)) (Yields.not_t rfl) trivial rfl rfl ?_
                  refine St.nil ?_
                  obtain rfl := sI hm
                  intro a w ha hs
                  exact ⟨ha.covers ⟨rfl, rfl, rfl, trivial⟩, (Among.of Among.none _ hs)⟩
                · replace hm := iF hm q26
                  refine St.val (v := (.bool false)) (Yields.isnt q26 (Yields.le rfl rfl)) rfl rfl rfl ?_
                  refine St.val (v := (.bool false)) (Yields.pick_t rfl rfl) trivial rfl rfl ?_
                  refine St.val (v := (.bool false)) (Yields.move rfl) trivial rfl rfl ?_
                  refine St.val (v := (.int .u8 ((x21.toNat : Nat) : Int))) (Yields.move rfl) rfl rfl rfl ?_
                  by_cases q27 : ((x21.toNat : Nat) : Int) ≥ 65
                  · replace hm := iT hm q27
                    refine St.val (v := (.bool true)) (Yields.is q27 (Yields.ge rfl rfl)) rfl rfl rfl ?_
                    refine St.val (v := (.bool true)) (Yields.move rfl) rfl rfl rfl ?_
                    refine St.val (v := (.int .u8 ((x21.toNat : Nat) : Int))) (Yields.move rfl) rfl rfl rfl ?_
                    by_cases q28 : ((x21.toNat : Nat) : Int) ≤ 90
                    · replace hm := iT hm q28
                      refine St.val (v := (.bool true)) (Yields.is q28 (Yields.le rfl rfl)) rfl rfl rfl ?_
                      refine St.val (v := (.bool true)) (Yields.pick_t rfl rfl) rfl rfl rfl ?_
                      refine St.val (v := (.bool true)) (Yields.pick_f rfl rfl) trivial rfl rfl ?_
                      refine St.val (v := (.bool true)) (Yields.move rfl) trivial rfl rfl ?_
                      refine St.unwanted rfl rfl rfl ?_
                      refine St.unwanted rfl rfl rfl ?_
                      refine St.unwanted rfl rfl rfl ?_
                      refine St.unwanted trivial rfl rfl ?_
                      refine St.unwanted trivial rfl rfl ?_
                      refine St.unwanted rfl rfl rfl ?_
                      refine St.val (v := (.bool true)) (Yields.pick_t rfl rfl) trivial rfl rfl ?_
                      refine St.val (v := (.bool true)) (Yields.move rfl) trivial rfl rfl ?_
                      refine St.unwanted rfl rfl rfl ?_
                      refine St.unwanted rfl rfl rfl ?_
                      refine St.val (v := (.bool true)) (Yields.pick_t rfl rfl) trivial rfl rfl ?_
                      refine St.val (v := (.bool false)) (Yields.not_t rfl) trivial rfl rfl ?_
                      refine St.nil ?_
                      obtain rfl := sI hm
                      intro a w ha hs
                      exact ⟨ha.covers ⟨rfl, rfl, rfl, trivial⟩, (Among.of Among.none _ hs)⟩
                    · replace hm := iF hm q28
                      refine St.val (v := (.bool false)) (Yields.isnt q28 (Yields.le rfl rfl)) rfl rfl rfl ?_
                      refine St.val (v := (.bool false)) (Yields.pick_t rfl rfl) rfl rfl rfl ?_
                      refine St.val (v := (.bool false)) (Yields.pick_f rfl rfl) trivial rfl rfl ?_
                      refine St.val (v := (.bool false)) (Yields.move rfl) trivial rfl rfl ?_
                      refine St.val (v := (.int .u8 ((x21.toNat : Nat) : Int))) (Yields.move rfl) rfl rfl rfl ?_
                      by_cases q29 : ((x21.toNat : Nat) : Int) ≥ 48
                      · replace hm := iT hm q29
                        refine St.val (v := (.bool true)) (Yields.is q29 (Yields.ge rfl rfl)) rfl rfl rfl ?_
                        refine St.val (v := (.bool true)) (Yields.move rfl) rfl rfl rfl ?_
                        refine St.val (v := (.int .u8 ((x21.toNat : Nat) : Int))) (Yields.move rfl) rfl rfl rfl ?_
                        by_cases q30 : ((x21.toNat : Nat) : Int) ≤ 57
                        · replace hm := iT hm q30
                          refine St.val (v := (.bool true)) (Yields.is q30 (Yields.le rfl rfl)) rfl rfl rfl ?_
                          refine St.val (v := (.bool true)) (Yields.pick_t rfl rfl) rfl rfl rfl ?_
                          refine St.val (v := (.bool true)) (Yields.pick_f rfl rfl) trivial rfl rfl ?_
                          refine St.val (v := (.bool true)) (Yields.move rfl) trivial rfl rfl ?_
                          refine St.unwanted rfl rfl rfl ?_
                          refine St.unwanted rfl rfl rfl ?_
                          refine St.val (v := (.bool true)) (Yields.pick_t rfl rfl) trivial rfl rfl ?_
                          refine St.val (v := (.bool false)) (Yields.not_t rfl) trivial rfl rfl ?_
                          refine St.nil ?_
                          obtain rfl := sI hm
                          intro a w ha hs
                          exact ⟨ha.covers ⟨rfl, rfl, rfl, trivial⟩, (Among.of Among.none _ hs)⟩
                        · replace hm := iF hm q30
                          refine St.val (v := (.bool false)) (Yields.isnt q30 (Yields.le rfl rfl)) rfl rfl rfl ?_
                          refine St.val (v := (.bool false)) (Yields.pick_t rfl rfl) rfl rfl rfl ?_
                          refine St.val (v := (.bool false)) (Yields.pick_f rfl rfl) trivial rfl rfl ?_
                          refine St.val (v := (.bool false)) (Yields.move rfl) trivial rfl rfl ?_
                          refine St.val (v := (.int .u8 ((x21.toNat : Nat) : Int))) (Yields.move rfl) rfl rfl rfl ?_
                          refine St.val (v := (.bool (decide (((x21.toNat : Nat) : Int) = 95)))) (Yields.eq rfl rfl) rfl rfl rfl ?_
                          refine St.val (v := (.bool (decide (((x21.toNat : Nat) : Int) = 95)))) (Yields.pick_f rfl rfl) trivial rfl rfl ?_
                          refine St.val (v := (.bool (!(decide (((x21.toNat : Nat) : Int) = 95))))) (Yields.not rfl) trivial rfl rfl ?_
                          refine St.nil ?_
                          obtain rfl := sI hm
                          intro a w ha hs
                          exact ⟨ha.covers ⟨rfl, rfl, rfl, trivial⟩, (Among.of Among.none _ hs)⟩
                      · replace hm := iF hm q29
                        refine St.val (v := (.bool false)) (Yields.isnt q29 (Yields.ge rfl rfl)) rfl rfl rfl ?_
                        refine St.val (v := (.bool false)) (Yields.move rfl) rfl rfl rfl ?_
                        refine St.unwanted rfl rfl rfl ?_
                        refine St.unwanted rfl rfl rfl ?_
                        refine St.val (v := (.bool false)) (Yields.pick_f rfl rfl) rfl rfl rfl ?_
                        refine St.val (v := (.bool false)) (Yields.pick_f rfl rfl) trivial rfl rfl ?_
                        refine St.val (v := (.bool false)) (Yields.move rfl) trivial rfl rfl ?_
                        refine St.val (v := (.int .u8 ((x21.toNat : Nat) : Int))) (Yields.move rfl) rfl rfl rfl ?_
                        refine St.val (v := (.bool (decide (((x21.toNat : Nat) : Int) = 95)))) (Yields.eq rfl rfl) rfl rfl rfl ?_
                        refine St.val (v := (.bool (decide (((x21.toNat : Nat) : Int) = 95)))) (Yields.pick_f rfl rfl) trivial rfl rfl ?_
                        refine St.val (v := (.bool (!(decide (((x21.toNat : Nat) : Int) = 95))))) (Yields.not rfl) trivial rfl rfl ?_
                        refine St.nil ?_
                        obtain rfl := sI hm
                        intro a w ha hs
                        exact ⟨ha.covers ⟨rfl, rfl, rfl, trivial⟩, (Among.of Among.none _ hs)⟩
                  · replace hm := iF hm q27
                    refine St.val (v := (.bool false)) (Yields.isnt q27 (Yields.ge rfl rfl)) rfl rfl rfl ?_
                    refine St.val (v := (.bool false)) (Yields.move rfl) rfl rfl rfl ?_
                    refine St.unwanted rfl rfl rfl ?_
                    refine St.unwanted rfl rfl rfl ?_
                    refine St.val (v := (.bool false)) (Yields.pick_f rfl rfl) rfl rfl rfl ?_
                    refine St.val (v := (.bool false)) (Yields.pick_f rfl rfl) trivial rfl rfl ?_
                    refine St.val (v := (.bool false)) (Yields.move rfl) trivial rfl rfl ?_
                    refine St.val (v := (.int .u8 ((x21.toNat : Nat) : Int))) (Yields.move rfl) rfl rfl rfl ?_
                    by_cases q31 : ((x21.toNat : Nat) : Int) ≥ 48
                    · replace hm := iT hm q31
                      refine St.val (v := (.bool true)) (Yields.is q31 (Yields.ge rfl rfl)) rfl rfl rfl ?_
                      refine St.val (v := (.bool true)) (Yields.move rfl) rfl rfl rfl ?_
                      refine St.val (v := (.int .u8 ((x21.toNat : Nat) : Int))) (Yields.move rfl) rfl rfl rfl ?_
                      by_cases q32 : ((x21.toNat : Nat) : Int) ≤ 57
                      · replace hm := iT hm q32
                        refine St.val (v := (.bool true)) (Yields.is q32 (Yields.le rfl rfl)) rfl rfl rfl ?_
                        refine St.val (v := (.bool true)) (Yields.pick_t rfl rfl) rfl rfl rfl ?_
                        refine St.val (v := (.bool true)) (Yields.pick_f rfl rfl) trivial rfl rfl ?_
                        refine St.val (v := (.bool true)) (Yields.move rfl) trivial rfl rfl ?_
                        refine St.unwanted rfl rfl rfl ?_
                        refine St.unwanted rfl rfl rfl ?_
                        refine St.val (v := (.bool true)) (Yields.pick_t rfl rfl) trivial rfl rfl ?_
                        refine St.val (v := (.bool false)) (Yields.not_t rfl) trivial rfl rfl ?_
                        refine St.nil ?_
                        obtain rfl := sI hm
                        intro a w ha hs
                        exact ⟨ha.covers ⟨rfl, rfl, rfl, trivial⟩, (Among.of Among.none _ hs)⟩
                      · replace hm := iF hm q32
                        refine St.val (v := (.bool false)) (Yields.isnt q32 (Yields.le rfl rfl)) rfl rfl rfl ?_
                        refine St.val (v := (.bool false)) (Yields.pick_t rfl rfl) rfl rfl rfl ?_
                        refine St.val (v := (.bool false)) (Yields.pick_f rfl rfl) trivial rfl rfl ?_
                        refine St.val (v := (.bool false)) (Yields.move rfl) trivial rfl rfl ?_
                        refine St.val (v := (.int .u8 ((x21.toNat : Nat) : Int))) (Yields.move rfl) rfl rfl rfl ?_
                        refine St.val (v := (.bool (decide (((x21.toNat : Nat) : Int) = 95)))) (Yields.eq rfl rfl) rfl rfl rfl ?_
                        refine St.val (v := (.bool (decide (((x21.toNat : Nat) : Int) = 95)))) (Yields.pick_f rfl rfl) trivial rfl rfl ?_
                        refine St.val (v := (.bool (!(decide (((x21.toNat : Nat) : Int) = 95))))) (Yields.not rfl) trivial rfl rfl ?_
                        refine St.nil ?_
                        obtain rfl := sI hm
                        intro a w ha hs
                        exact ⟨ha.covers ⟨rfl, rfl, rfl, trivial⟩, (Among.of Among.none _ hs)⟩
                    · replace hm := iF hm q31
                      refine St.val (v := (.bool false)) (Yields.isnt q31 (Yields.ge rfl rfl)) rfl rfl rfl ?_
                      refine St.val (v := (.bool false)) (Yields.move rfl) rfl rfl rfl ?_
                      refine St.unwanted rfl rfl rfl ?_
                      refine St.unwanted rfl rfl rfl ?_
                      refine St.val (v := (.bool false)) (Yields.pick_f rfl rfl) rfl rfl rfl ?_
                      refine St.val (v := (.bool false)) (Yields.pick_f rfl rfl) trivial rfl rfl ?_
                      refine St.val (v := (.bool false)) (Yields.move rfl) trivial rfl rfl ?_
                      refine St.val (v := (.int .u8 ((x21.toNat : Nat) : Int))) (Yields.move rfl) rfl rfl rfl ?_
                      refine St.val (v := (.bool (decide (((x21.toNat : Nat) : Int) = 95)))) (Yields.eq rfl rfl) rfl rfl rfl ?_
                      refine St.val (v := (.bool (decide (((x21.toNat : Nat) : Int) = 95)))) (Yields.pick_f rfl rfl) trivial rfl rfl ?_
                      refine St.val (v := (.bool (!(decide (((x21.toNat : Nat) : Int) = 95))))) (Yields.not rfl) trivial rfl rfl ?_
                      refine St.nil ?_
                      obtain rfl := sI hm
                      intro a w ha hs
                      exact ⟨ha.covers ⟨rfl, rfl, rfl, trivial⟩, (Among.of Among.none _ hs)⟩
              · replace hm := iF hm q25
                refine St.val (v := (.bool false)) (Yields.isnt q25 (Yields.ge rfl rfl)) trivial rfl rfl ?_
                refine St.val (v := (.bool false)) (Yields.move rfl) trivial rfl rfl ?_
                refine St.unwanted rfl rfl rfl ?_
                refine St.unwanted rfl rfl rfl ?_
                refine St.val (v := (.bool false)) (Yields.pick_f rfl rfl) trivial rfl rfl ?_
                refine St.val (v := (.bool false)) (Yields.move rfl) trivial rfl rfl ?_
                refine St.val (v := (.int .u8 ((x21.toNat : Nat) : Int))) (Yields.move rfl) rfl rfl rfl ?_
                by_cases q33 : ((x21.toNat : Nat) : Int) ≥ 65
                · replace hm := iT hm q33
                  refine St.val (v := (.bool true)) (Yields.is q33 (Yields.ge rfl rfl)) rfl rfl rfl ?_
                  refine St.val (v := (.bool true)) (Yields.move rfl) rfl rfl rfl ?_
                  refine St.val (v := (.int .u8 ((x21.toNat : Nat) : Int))) (Yields.move rfl) rfl rfl rfl ?_
                  by_cases q34 : ((x21.toNat : Nat) : Int) ≤ 90
                  · replace hm := iT hm q34
                    refine St.val (v := (.bool true)) (Yields.is q34 (Yields.le rfl rfl)) rfl rfl rfl ?_
                    refine St.val (v := (.bool true)) (Yields.pick_t rfl rfl) rfl rfl rfl ?_
                    refine St.val (v := (.bool true)) (Yields.pick_f rfl rfl) trivial rfl rfl ?_
                    refine St.val (v := (.bool true)) (Yields.move rfl) trivial rfl rfl ?_
                    refine St.unwanted rfl rfl rfl ?_
                    refine St.unwanted rfl rfl rfl ?_
                    refine St.unwanted rfl rfl rfl ?_
                    refine St.unwanted trivial rfl rfl ?_
                    refine St.unwanted trivial rfl rfl ?_
                    refine St.unwanted rfl rfl rfl ?_
                    refine St.val (v := (.bool true)) (Yields.pick_t rfl rfl) trivial rfl rfl ?_
                    refine St.val (v := (.bool true)) (Yields.move rfl) trivial rfl rfl ?_
                    refine St.unwanted rfl rfl rfl ?_
                    refine St.unwanted rfl rfl rfl ?_
                    refine St.val (v := (.bool true)) (Yields.pick_t rfl rfl) trivial rfl rfl ?_
                    refine St.val (v := (.bool false)) (Yields.not_t rfl) trivial rfl rfl ?_
                    refine St.nil ?_
                    obtain rfl := sI hm
                    intro a w ha hs
                    exact ⟨ha.covers ⟨rfl, rfl, rfl, trivial⟩, (Among.of Among.none _ hs)⟩
                  · replace hm := iF hm q34
                    refine St.val (v := (.bool false)) (Yields.isnt q34 (Yields.le rfl rfl)) rfl rfl rfl ?_
                    refine St.val (v := (.bool false)) (Yields.pick_t rfl rfl) rfl rfl rfl ?_
                    refine St.val (v := (.bool false)) (Yields.pick_f rfl rfl) trivial rfl rfl ?_
                    refine St.val (v := (.bool false)) (Yields.move rfl) trivial rfl rfl ?_
                    refine St.val (v := (.int .u8 ((x21.toNat : Nat) : Int))) (Yields.move rfl) rfl rfl rfl ?_
                    by_cases q35 : ((x21.toNat : Nat) : Int) ≥ 48
                    · replace hm := iT hm q35
                      refine St.val (v := (.bool true)) (Yields.is q35 (Yields.ge rfl rfl)) rfl rfl rfl ?_
                      refine St.val (v := (.bool true)) (Yields.move rfl) rfl rfl rfl ?_
                      refine St.val (v := (.int .u8 ((x21.toNat : Nat) : Int))) (Yields.move rfl) rfl rfl rfl ?_
                      by_cases q36 : ((x21.toNat : Nat) : Int) ≤ 57
                      · replace hm := iT hm q36
                        refine St.val (v := (.bool true)) (Yields.is q36 (Yields.le rfl rfl)) rfl rfl rfl ?_
                        refine St.val (v := (.bool true)) (Yields.pick_t rfl rfl) rfl rfl rfl ?_
                        refine St.val (v := (.bool true)) (Yields.pick_f rfl rfl) trivial rfl rfl ?_
                        refine St.val (v := (.bool true)) (Yields.move rfl) trivial rfl rfl ?_
                        refine St.unwanted rfl rfl rfl ?_
                        refine St.unwanted rfl rfl rfl ?_
                        refine St.val (v := (.bool true)) (Yields.pick_t rfl rfl) trivial rfl rfl ?_
                        refine St.val (v := (.bool false)) (Yields.not_t rfl) trivial rfl rfl ?_
                        refine St.nil ?_
                        obtain rfl := sI hm
                        intro a w ha hs
                        exact ⟨ha.covers ⟨rfl, rfl, rfl, trivial⟩, (Among.of Among.none _ hs)⟩
                      · replace hm := iF hm q36
                        refine St.val (v := (.bool false)) (Yields.isnt q36 (Yields.le rfl rfl)) rfl rfl rfl ?_
                        refine St.val (v := (.bool false)) (Yields.pick_t rfl rfl) rfl rfl rfl ?_
                        refine St.val (v := (.bool false)) (Yields.pick_f rfl rfl) trivial rfl rfl ?_
                        refine St.val (v := (.bool false)) (Yields.move rfl) trivial rfl rfl ?_
                        refine St.val (v := (.int .u8 ((x21.toNat : Nat) : Int))) (Yields.move rfl) rfl rfl rfl ?_
                        refine St.val (v := (.bool (decide (((x21.toNat : Nat) : Int) = 95)))) (Yields.eq rfl rfl) rfl rfl rfl ?_
                        refine St.val (v := (.bool (decide (((x21.toNat : Nat) : Int) = 95)))) (Yields.pick_f rfl rfl) trivial rfl rfl ?_
                        refine St.val (v := (.bool (!(decide (((x21.toNat : Nat) : Int) = 95))))) (Yields.not rfl) trivial rfl rfl ?_
                        refine St.nil ?_
                        obtain rfl := sI hm
                        intro a w ha hs
                        exact ⟨ha.covers ⟨rfl, rfl, rfl, trivial⟩, (Among.of Among.none _ hs)⟩
                    · replace hm := iF hm q35
                      refine St.val (v := (.bool false)) (Yields.isnt q35 (Yields.ge rfl rfl)) rfl rfl rfl ?_
                      refine St.val (v := (.bool false)) (Yields.move rfl) rfl rfl rfl ?_
                      refine St.unwanted rfl rfl rfl ?_
                      refine St.unwanted rfl rfl rfl ?_
                      refine St.val (v := (.bool false)) (Yields.pick_f rfl rfl) rfl rfl rfl ?_
                      refine St.val (v := (.bool false)) (Yields.pick_f rfl rfl) trivial rfl rfl ?_
                      refine St.val (v := (.bool false)) (Yields.move rfl) trivial rfl rfl ?_
                      refine St.val (v := (.int .u8 ((x21.toNat : Nat) : Int))) (Yields.move rfl) rfl rfl rfl ?_
                      refine St.val (v := (.bool (decide (((x21.toNat : Nat) : Int) = 95)))) (Yields.eq rfl rfl) rfl rfl rfl ?_
                      refine St.val (v := (.bool (decide (((x21.toNat : Nat) : Int) = 95)))) (Yields.pick_f rfl rfl) trivial rfl rfl ?_
                      refine St.val (v := (.bool (!(decide (((x21.toNat : Nat) : Int) = 95))))) (Yields.not rfl) trivial rfl rfl ?_
                      refine St.nil ?_
                      obtain rfl := sI hm
                      intro a w ha hs
                      exact ⟨ha.covers ⟨rfl, rfl, rfl, trivial⟩, (Among.of Among.none _ hs)⟩
                · replace hm := iF hm q33
                  refine St.val (v := (.bool false)) (Yields.isnt q33 (Yields.ge rfl rfl)) rfl rfl rfl ?_
                  refine St.val (v := (.bool false)) (Yields.move rfl) rfl rfl rfl ?_
                  refine St.unwanted rfl rfl rfl ?_
                  refine St.unwanted rfl rfl rfl ?_
                  refine St.val (v := (.bool false)) (Yields.pick_f rfl rfl) rfl rfl rfl ?_
                  refine St.val (v := (.bool false)) (Yields.pick_f rfl rfl) trivial rfl rfl ?_
                  refine St.val (v := (.bool false)) (Yields.move rfl) trivial rfl rfl ?_
                  refine St.val (v := (.int .u8 ((x21.toNat : Nat) : Int))) (Yields.move rfl) rfl rfl rfl ?_
                  by_cases q37 : ((x21.toNat : Nat) : Int) ≥ 48
                  · replace hm := iT hm q37
                    refine St.val (v := (.bool true)) (Yields.is q37 (Yields.ge rfl rfl)) rfl rfl rfl ?_
                    refine St.val (v := (.bool true)) (Yields.move rfl) rfl rfl rfl ?_
                    refine St.val (v := (.int .u8 ((x21.toNat : Nat) : Int))) (Yields.move rfl) rfl rfl rfl ?_
                    by_cases q38 : ((x21.toNat : Nat) : Int) ≤ 57
                    · replace hm := iT hm q38
                      refine St.val (v := (.bool true)) (Yields.is q38 (Yields.le rfl rfl)) rfl rfl rfl ?_
                      refine St.val (v := (.bool true)) (Yields.pick_t rfl rfl) rfl rfl rfl ?_
                      refine St.val (v := (.bool true)) (Yields.pick_f rfl rfl) trivial rfl rfl ?_
                      refine St.val (v := (.bool true)) (Yields.move rfl) trivial rfl rfl ?_
                      refine St.unwanted rfl rfl rfl ?_
                      refine St.unwanted rfl rfl rfl ?_
                      refine St.val (v := (.bool true)) (Yields.pick_t rfl rfl) trivial rfl rfl ?_
                      refine St.val (v := (.bool false)) (Yields.not_t rfl) trivial rfl rfl ?_
                      refine St.nil ?_
                      obtain rfl := sI hm
                      intro a w ha hs
                      exact ⟨ha.covers ⟨rfl, rfl, rfl, trivial⟩, (Among.of Among.none _ hs)⟩
                    · replace hm := iF hm q38
                      refine St.val (v := (.bool false)) (Yields.isnt q38 (Yields.le rfl rfl)) rfl rfl rfl ?_
                      refine St.val (v := (.bool false)) (Yields.pick_t rfl rfl) rfl rfl rfl ?_
                      refine St.val (v := (.bool false)) (Yields.pick_f rfl rfl) trivial rfl rfl ?_
                      refine St.val (v := (.bool false)) (Yields.move rfl) trivial rfl rfl ?_
                      refine St.val (v := (.int .u8 ((x21.toNat : Nat) : Int))) (Yields.move rfl) rfl rfl rfl ?_
                      refine St.val (v := (.bool (decide (((x21.toNat : Nat) : Int) = 95)))) (Yields.eq rfl rfl) rfl rfl rfl ?_
                      refine St.val (v := (.bool (decide (((x21.toNat : Nat) : Int) = 95)))) (Yields.pick_f rfl rfl) trivial rfl rfl ?_
                      refine St.val (v := (.bool (!(decide (((x21.toNat : Nat) : Int) = 95))))) (Yields.not rfl) trivial rfl rfl ?_
                      refine St.nil ?_
                      obtain rfl := sI hm
                      intro a w ha hs
                      exact ⟨ha.covers ⟨rfl, rfl, rfl, trivial⟩, (Among.of Among.none _ hs)⟩
                  · replace hm := iF hm q37
                    refine St.val (v := (.bool false)) (Yields.isnt q37 (Yields.ge rfl rfl)) rfl rfl rfl ?_
                    refine St.val (v := (.bool false)) (Yields.move rfl) rfl rfl rfl ?_
                    refine St.unwanted rfl rfl rfl ?_
                    refine St.unwanted rfl rfl rfl ?_
                    refine St.val (v := (.bool false)) (Yields.pick_f rfl rfl) rfl rfl rfl ?_
                    refine St.val (v := (.bool false)) (Yields.pick_f rfl rfl) trivial rfl rfl ?_
                    refine St.val (v := (.bool false)) (Yields.move rfl) trivial rfl rfl ?_
                    refine St.val (v := (.int .u8 ((x21.toNat : Nat) : Int))) (Yields.move rfl) rfl rfl rfl ?_
                    refine St.val (v := (.bool (decide (((x21.toNat : Nat) : Int) = 95)))) (Yields.eq rfl rfl) rfl rfl rfl ?_
                    refine St.val (v := (.bool (decide (((x21.toNat : Nat) : Int) = 95)))) (Yields.pick_f rfl rfl) trivial rfl rfl ?_
                    refine St.val (v := (.bool (!(decide (((x21.toNat : Nat) : Int) = 95))))) (Yields.not rfl) trivial rfl rfl ?_
                    refine St.nil ?_
                    obtain rfl := sI hm
                    intro a w ha hs
                    exact ⟨ha.covers ⟨rfl, rfl, rfl, trivial⟩, (Among.of Among.none _ hs)⟩
            · rintro a w ⟨ha, hs⟩
              replace hm := hk24
              refine St.use (?_ : St _ _ _ _ _ _) ha hs
              clear ha hs a w
              refine St.cond_b rfl ?_ ?_
              · intro q39
                replace q39 : z23 = true := q39
                replace hm := iT hm q39
                refine St.seq ?_
                refine St.region ?_
                refine St.val (v := (.bool false)) (Yields.assign rfl) trivial rfl rfl ?_
                refine St.nil ?_
                refine St.norm ?_
                refine St.ret ?_
                refine St.inret ?_
                refine St.thenret ?_
                refine St.thenret ?_
                refine St.inret ?_
                refine St.thenret ?_
                obtain rfl := sI hm
                obtain rfl := aR ho19
                obtain rfl := aR ho14
                exact St.doneR1 rfl rfl ⟨rfl, rfl⟩ (fun w hs => Among.of Among.none w hs)
              · intro q40
                replace q40 : ¬ (z23 = true) := bf q40
                replace hm := iF hm q40
                refine St.skip ?_
                refine St.innorm ?_
                refine St.norm ?_
                refine St.region ?_
                refine St.val (v := (.int .i64 ((s16 : Nat) : Int))) (Yields.move rfl) trivial rfl rfl ?_
                obtain ⟨x41, e42, hm⟩ := bS hm
                refine St.val (v := (.int .i64 ((s16 + 1 : Nat) : Int))) (Yields.addn (j := 1) rfl rfl rfl (by have q_0 := q20; have q_1 := (Mir.small_le e42); omega)) trivial rfl rfl ?_
                refine St.val (v := (.int .i64 ((s16 + 1 : Nat) : Int))) (Yields.assign rfl) trivial rfl rfl ?_
                refine St.nil ?_
                refine St.norm ?_
                obtain rfl := sI hm
                intro a w ha hs
                exact ⟨s16 + 1, aL ho19, ha.covers ⟨rfl, rfl, trivial⟩, (Among.of Among.none _ hs)⟩
          · intro q43
            replace q43 : ¬ (((s16 : Nat) : Int) < ((a0.length : Nat) : Int)) := of_decide_eq_false q43
            replace hm := iF hm q43
            refine St.exit ?_
            refine St.thenexit ?_
            refine St.thenexit ?_
            refine St.inexit ?_
            obtain rfl := sI hm
            obtain rfl := aR ho19
            intro a w ha hs
            exact ⟨(), rfl, ha.covers trivial, (Among.of Among.none _ hs)⟩
      · rintro a w ⟨z12, rfl, ha, hs⟩
        replace hm := aL ho14
        refine St.use (?_ : St _ _ _ _ _ _) ha hs
        clear ha hs a w
        refine St.seq ?_
        refine St.region ?_
        refine St.val (v := (.bool true)) (Yields.assign rfl) trivial rfl rfl ?_
        refine St.nil ?_
        refine St.norm ?_
        refine St.ret ?_
        obtain rfl := sI hm
        exact St.doneR1 rfl rfl ⟨rfl, rfl⟩ (fun w hs => Among.of Among.none w hs)

theorem m_slices_Index_string_string_sp {F : PH} {g : Nat} {a0 : List (List UInt8)} {a1 : List UInt8} {pA0 : Option Addr} {pc0 : Nat} (ph0 : Fsl 16 Kind.str F pA0 pc0 a0) {r : Int} (hm : m_slices_Index_string_string g a0 a1 = some r) :
    CallSp Try.prog 105 #[.slice pA0 a0.length pc0, .string (bs a1)] F [] (fun u F' H' => u = (.int .i64 r) ∧ H' = []) := by
  unfold m_slices_Index_string_string at hm
  refine CallSp.enter (args := [.slice pA0 a0.length pc0, .string (bs a1)]) Try.func105 rfl rfl ?_
  intro w0 m0 hm0
  refine St.seq ?_
  refine St.region ?_
  refine St.val (v := (.int .i64 0)) (Yields.assign rfl) trivial rfl rfl ?_
  refine St.nil ?_
  refine St.norm ?_
  obtain ⟨o3, hm, ho4⟩ := jS hm
  refine St.cutI (fun a w => ∃ z2 : Unit, o3 = .inl z2 ∧ Has Try.f105.ntmps a [] ∧ Sat ⟨w0, fun b => m0 b ≠ none, F⟩ F [] w) ?_ ?_
  · skip
    refine St.seq ?_
    refine St.region ?_
    refine St.val (v := (.slice pA0 a0.length pc0)) (Yields.move rfl) trivial rfl rfl ?_
    refine St.val (v := (.int .i64 ((a0.length : Nat) : Int))) (Yields.lenSlice tu123 rfl) trivial rfl rfl ?_
    refine St.val (v := (.int .i64 0)) (Yields.move rfl) trivial rfl rfl ?_
    refine St.nil ?_
    refine St.norm ?_
    refine St.block ?_
    refine St.loopM hm (fun s6 a w => Has Try.f105.ntmps a [(0, .slice pA0 a0.length pc0), (1, .string (bs a1)), (7, .int .i64 ((a0.length : Nat) : Int)), (8, .int .i64 ((s6 : Nat) : Int))] ∧ Sat ⟨w0, fun b => m0 b ≠ none, F⟩ F [] w) ?_ ?_
    · skip
      intro a w ha hs
      exact ⟨ha.covers ⟨rfl, rfl, rfl, rfl, trivial⟩, (Among.of Among.none _ hs)⟩
    · rintro s6 o7 co8 hm ho9 a w ⟨ha, hs⟩
      refine St.use (?_ : St _ _ _ _ _ _) ha hs
      clear ha hs a w
      refine St.seq ?_
      refine St.region ?_
      refine St.val (v := (.bool (decide (((s6 : Nat) : Int) < ((a0.length : Nat) : Int))))) (Yields.lt rfl rfl) trivial rfl rfl ?_
      refine St.nil ?_
      refine St.norm ?_
      refine St.seq ?_
      refine St.cond_b rfl ?_ ?_
      · intro q10
        replace q10 : ((s6 : Nat) : Int) < ((a0.length : Nat) : Int) := of_decide_eq_true q10
        replace hm := iT hm q10
        refine St.skip ?_
        refine St.norm ?_
        refine St.seq ?_
        refine St.block ?_
        refine St.seq ?_
        refine St.region ?_
        refine St.val (v := (.int .i64 ((s6 : Nat) : Int))) (Yields.move rfl) trivial rfl rfl ?_
        refine St.val (v := (.int .i64 ((s6 : Nat) : Int))) (Yields.assign rfl) trivial rfl rfl ?_
        refine St.nil ?_
        refine St.norm ?_
        refine St.seq ?_
        refine St.region ?_
        refine St.val (v := (.string (bs a1))) (Yields.move rfl) trivial rfl rfl ?_
        refine St.val (v := (.slice pA0 a0.length pc0)) (Yields.move rfl) trivial rfl rfl ?_
        refine St.val (v := (.int .i64 ((s6 : Nat) : Int))) (Yields.move rfl) trivial rfl rfl ?_
        obtain ⟨x11, e12, hm⟩ := bS hm
        obtain ⟨p13, cs14, jx15, R16, k17⟩ := ph0.nidx e12
        obtain rfl := R16
        refine St.val (v := (.pointer (some p13))) (Yields.idx jx15 ts123 rfl rfl) trivial rfl rfl ?_
        refine St.val (v := (.string (bs x11))) (Yields.load rfl (Loads.Fat k17 tc9 rfl)) trivial rfl rfl ?_
        refine St.val (v := (.bool (decide (a1 = x11)))) (Yields.eqStr rfl rfl) trivial rfl rfl ?_
        refine St.nil ?_
        refine St.norm ?_
        refine St.cond_b rfl ?_ ?_
        · intro q18
          replace q18 : a1 = x11 := of_decide_eq_true q18
          replace hm := iT hm q18
          refine St.seq ?_
          refine St.region ?_
          refine St.val (v := (.int .i64 ((s6 : Nat) : Int))) (Yields.move rfl) trivial rfl rfl ?_
          refine St.val (v := (.int .i64 ((s6 : Nat) : Int))) (Yields.assign rfl) trivial rfl rfl ?_
          refine St.nil ?_
          refine St.norm ?_
          refine St.ret ?_
          refine St.inret ?_
          refine St.thenret ?_
          refine St.thenret ?_
          refine St.inret ?_
          refine St.thenret ?_
          obtain rfl := sI hm
          obtain rfl := aR ho9
          obtain rfl := aR ho4
          exact St.doneR1 rfl rfl ⟨rfl, rfl⟩ (fun w hs => Among.of Among.none w hs)
        · intro q19
          replace q19 : ¬ (a1 = x11) := of_decide_eq_false q19
          replace hm := iF hm q19
          refine St.skip ?_
          refine St.innorm ?_
          refine St.norm ?_
          refine St.region ?_
          refine St.val (v := (.int .i64 ((s6 + 1 : Nat) : Int))) (Yields.addn (j := 1) rfl rfl rfl (by have q_0 := q10; have q_1 := ph0.bnd.2; omega)) trivial rfl rfl ?_
          refine St.val (v := (.int .i64 ((s6 + 1 : Nat) : Int))) (Yields.move rfl) trivial rfl rfl ?_
          refine St.nil ?_
          refine St.norm ?_
          obtain rfl := sI hm
          intro a w ha hs
          exact ⟨s6 + 1, aL ho9, ha.covers ⟨rfl, rfl, rfl, rfl, trivial⟩, (Among.of Among.none _ hs)⟩
      · intro q20
        replace q20 : ¬ (((s6 : Nat) : Int) < ((a0.length : Nat) : Int)) := of_decide_eq_false q20
        replace hm := iF hm q20
        refine St.exit ?_
        refine St.thenexit ?_
        refine St.thenexit ?_
        refine St.inexit ?_
        obtain rfl := sI hm
        obtain rfl := aR ho9
        intro a w ha hs
        exact ⟨(), rfl, ha.covers trivial, (Among.of Among.none _ hs)⟩
  · rintro a w ⟨z2, rfl, ha, hs⟩
    replace hm := aL ho4
    refine St.use (?_ : St _ _ _ _ _ _) ha hs
    clear ha hs a w
    refine St.seq ?_
    refine St.region ?_
    refine St.val (v := (.int .i64 (-1))) (Yields.assign rfl) trivial rfl rfl ?_
    refine St.nil ?_
    refine St.norm ?_
    refine St.ret ?_
    obtain rfl := sI hm
    exact St.doneR1 rfl rfl ⟨rfl, rfl⟩ (fun w hs => Among.of Among.none w hs)

theorem m_slices_Contains_string_string_sp {F : PH} {g : Nat} {a0 : List (List UInt8)} {a1 : List UInt8} {pA0 : Option Addr} {pc0 : Nat} (ph0 : Fsl 16 Kind.str F pA0 pc0 a0) {r : Bool} (hm : m_slices_Contains_string_string g a0 a1 = some r) :
    CallSp Try.prog 101 #[.slice pA0 a0.length pc0, .string (bs a1)] F [] (fun u F' H' => u = (.bool r) ∧ H' = []) := by
  unfold m_slices_Contains_string_string at hm
  refine CallSp.enter (args := [.slice pA0 a0.length pc0, .string (bs a1)]) Try.func101 rfl rfl ?_
  intro w0 m0 hm0
  refine St.seq ?_
  refine St.region ?_
  refine St.val (v := (.bool false)) (Yields.assign rfl) trivial rfl rfl ?_
  refine St.nil ?_
  refine St.norm ?_
  refine St.seq ?_
  refine St.region ?_
  refine St.val (v := (.slice pA0 a0.length pc0)) (Yields.move rfl) trivial rfl rfl ?_
  refine St.val (v := (.string (bs a1))) (Yields.move rfl) trivial rfl rfl ?_
  obtain ⟨q2, e3, hm⟩ := bS hm
  refine St.call [] (m_slices_Index_string_string_sp ph0 e3) rfl (fun _ ha => ev2 ha rfl rfl) rfl en105 rfl rfl trivial ?_
  rintro _ F4 _ ⟨rfl, rfl⟩ l5
  refine St.val (v := (.bool (decide (q2 ≥ 0)))) (Yields.ge rfl rfl) trivial rfl rfl ?_
  refine St.val (v := (.bool (decide (q2 ≥ 0)))) (Yields.assign rfl) trivial rfl rfl ?_
  refine St.nil ?_
  refine St.norm ?_
  refine St.ret ?_
  obtain rfl := sI hm
  exact St.doneR1 rfl rfl ⟨rfl, rfl⟩ (fun w hs => Among.of Among.none w hs)

theorem m_value_isFunction_sp {F : PH} {g : Nat} {a0 : List UInt8} {r : Bool} (hm : m_value_isFunction g a0 = some r) :
    CallSp Try.prog 88 #[.string (bs a0)] F [] (fun u F' H' => u = (.bool r) ∧ H' = []) := by
  unfold m_value_isFunction at hm
  refine CallSp.enter (args := [.string (bs a0)]) Try.func88 rfl rfl ?_
  intro w0 m0 hm0
  refine St.seq ?_
  refine St.region ?_
  refine St.val (v := (.bool false)) (Yields.assign rfl) trivial rfl rfl ?_
  refine St.nil ?_
  refine St.norm ?_
  refine St.seq ?_
  refine St.region ?_
  refine St.buildSlice (e := 9) (cells := #[.string (bs [100, 97, 116, 97]), .string (bs [99, 108, 97, 115, 115]), .string (bs [105, 110, 115, 116, 97, 110, 99, 101]), .string (bs [111, 112]), .string (bs [101, 110, 100]), .string (bs [119, 104, 101, 114, 101]), .string (bs [108, 101, 116]), .string (bs [105, 110]), .string (bs [102, 114, 101, 101]), .string (bs [99, 97, 115, 101]), .string (bs [114, 105, 103, 105, 100]), .string (bs [111, 102]), .string (bs [102, 97, 105, 108])]) (vs := #[(0, .string (bs [100, 97, 116, 97])), (1, .string (bs [99, 108, 97, 115, 115])), (2, .string (bs [105, 110, 115, 116, 97, 110, 99, 101])), (3, .string (bs [111, 112])), (4, .string (bs [101, 110, 100])), (5, .string (bs [119, 104, 101, 114, 101])), (6, .string (bs [108, 101, 116])), (7, .string (bs [105, 110])), (8, .string (bs [102, 114, 101, 101])), (9, .string (bs [99, 97, 115, 101])), (10, .string (bs [114, 105, 103, 105, 100])), (11, .string (bs [111, 102])), (12, .string (bs [102, 97, 105, 108]))]) (fun a _ => by simp only [List.map_toArray, List.map_cons, List.map_nil, Act.eval] <;> rfl) (fun _ => by kernel_rfl) rfl trivial ?_
  intro b1
  refine St.weak (R := []) (c' := rowo (some ⟨b1, 0, none⟩) ([[100, 97, 116, 97], [99, 108, 97, 115, 115], [105, 110, 115, 116, 97, 110, 99, 101], [111, 112], [101, 110, 100], [119, 104, 101, 114, 101], [108, 101, 116], [105, 110], [102, 114, 101, 101], [99, 97, 115, 101], [114, 105, 103, 105, 100], [111, 102], [102, 97, 105, 108]] : List (List UInt8)).length 13 9 1 [.string (bs [100, 97, 116, 97]), .string (bs [99, 108, 97, 115, 115]), .string (bs [105, 110, 115, 116, 97, 110, 99, 101]), .string (bs [111, 112]), .string (bs [101, 110, 100]), .string (bs [119, 104, 101, 114, 101]), .string (bs [108, 101, 116]), .string (bs [105, 110]), .string (bs [102, 114, 101, 101]), .string (bs [99, 97, 115, 101]), .string (bs [114, 105, 103, 105, 100]), .string (bs [111, 102]), .string (bs [102, 97, 105, 108])]) 0 rfl rfl (fun m hm => rowo_of_row (row_of_blk (k := 13) rfl (by decide) hm)) ?_
  refine St.val (v := (.slice (some ⟨b1, 0, none⟩) ([[100, 97, 116, 97], [99, 108, 97, 115, 115], [105, 110, 115, 116, 97, 110, 99, 101], [111, 112], [101, 110, 100], [119, 104, 101, 114, 101], [108, 101, 116], [105, 110], [102, 114, 101, 101], [99, 97, 115, 101], [114, 105, 103, 105, 100], [111, 102], [102, 97, 105, 108]] : List (List UInt8)).length 13)) (Yields.assign rfl) trivial rfl rfl ?_
  refine St.nil ?_
  refine St.norm ?_
  refine St.seq ?_
  obtain ⟨z3, hm, hk4⟩ := bS hm
  refine St.cutI (fun a w => Has Try.f88.ntmps a [(0, .string (bs a0)), (3, .slice (some ⟨b1, 0, none⟩) ([[100, 97, 116, 97], [99, 108, 97, 115, 115], [105, 110, 115, 116, 97, 110, 99, 101], [111, 112], [101, 110, 100], [119, 104, 101, 114, 101], [108, 101, 116], [105, 110], [102, 114, 101, 101], [99, 97, 115, 101], [114, 105, 103, 105, 100], [111, 102], [102, 97, 105, 108]] : List (List UInt8)).length 13), (12, .bool z3)] ∧ Sat ⟨w0, fun b => m0 b ≠ none, F⟩ F [rowo (some ⟨b1, 0, none⟩) ([[100, 97, 116, 97], [99, 108, 97, 115, 115], [105, 110, 115, 116, 97, 110, 99, 101], [111, 112], [101, 110, 100], [119, 104, 101, 114, 101], [108, 101, 116], [105, 110], [102, 114, 101, 101], [99, 97, 115, 101], [114, 105, 103, 105, 100], [111, 102], [102, 97, 105, 108]] : List (List UInt8)).length 13 9 1 [.string (bs [100, 97, 116, 97]), .string (bs [99, 108, 97, 115, 115]), .string (bs [105, 110, 115, 116, 97, 110, 99, 101]), .string (bs [111, 112]), .string (bs [101, 110, 100]), .string (bs [119, 104, 101, 114, 101]), .string (bs [108, 101, 116]), .string (bs [105, 110]), .string (bs [102, 114, 101, 101]), .string (bs [99, 97, 115, 101]), .string (bs [114, 105, 103, 105, 100]), .string (bs [111, 102]), .string (bs [102, 97, 105, 108])]] w) ?_ ?_
  · skip
    refine St.region ?_
    refine St.val (v := (.string (bs a0))) (Yields.move rfl) trivial rfl rfl ?_
    refine St.val (v := (.int .i64 ((a0.length : Nat) : Int))) (Yields.lenStr tu9 rfl) trivial rfl rfl ?_
    by_cases q5 : ((a0.length : Nat) : Int) > 0
    · replace hm := iT hm q5
      refine St.val (v := (.bool true)) (Yields.is q5 (Yields.gt rfl rfl)) trivial rfl rfl ?_
      refine St.val (v := (.bool true)) (Yields.move rfl) trivial rfl rfl ?_
      refine St.val (v := (.string (bs a0))) (Yields.move rfl) rfl rfl rfl ?_
      obtain ⟨x6, e7, hm⟩ := bS hm
      refine St.val (v := (.int .u8 ((x6.toNat : Nat) : Int))) (Yields.indexStr (nlit e7) tu9 rfl rfl) rfl rfl rfl ?_
      refine St.val (v := (.bool (decide (((x6.toNat : Nat) : Int) = 95)))) (Yields.eq rfl rfl) rfl rfl rfl ?_
      refine St.val (v := (.bool (decide (((x6.toNat : Nat) : Int) = 95)))) (Yields.pick_t rfl rfl) trivial rfl rfl ?_
      refine St.nil ?_
      obtain rfl := sI hm
      intro a w ha hs
      exact ⟨ha.covers ⟨rfl, rfl, rfl, trivial⟩, (Among.of (Among.take 0 rfl rfl Among.none) _ hs)⟩
    · replace hm := iF hm q5
      refine St.val (v := (.bool false)) (Yields.isnt q5 (Yields.gt rfl rfl)) trivial rfl rfl ?_
      refine St.val (v := (.bool false)) (Yields.move rfl) trivial rfl rfl ?_
      refine St.unwanted rfl rfl rfl ?_
      refine St.unwanted rfl rfl rfl ?_
      refine St.unwanted rfl rfl rfl ?_
      refine St.val (v := (.bool false)) (Yields.pick_f rfl rfl) trivial rfl rfl ?_
      refine St.nil ?_
      obtain rfl := sI hm
      intro a w ha hs
      exact ⟨ha.covers ⟨rfl, rfl, rfl, trivial⟩, (Among.of (Among.take 0 rfl rfl Among.none) _ hs)⟩
  · rintro a w ⟨ha, hs⟩
    replace hm := hk4
    refine St.use (?_ : St _ _ _ _ _ _) ha hs
    clear ha hs a w
    refine St.cond_b rfl ?_ ?_
    · intro q8
      replace q8 : z3 = true := q8
      replace hm := iT hm q8
      obtain ⟨z9, hm, hk12⟩ := bS hm
      refine St.cutI (fun a w => ∃ (F10 : PH), PH.le F F10 ∧ Has Try.f88.ntmps a [(2, .bool z9)] ∧ Sat ⟨w0, fun b => m0 b ≠ none, F⟩ F10 [] w) ?_ ?_
      · skip
        refine St.region ?_
        refine St.val (v := (.string (bs a0))) (Yields.move rfl) trivial rfl rfl ?_
        refine St.val (v := (.int .i64 ((a0.length : Nat) : Int))) (Yields.lenStr tu9 rfl) trivial rfl rfl ?_
        by_cases q13 : ((a0.length : Nat) : Int) > 1
        · replace hm := iT hm q13
          refine St.val (v := (.bool true)) (Yields.is q13 (Yields.gt rfl rfl)) trivial rfl rfl ?_
          refine St.val (v := (.bool true)) (Yields.move rfl) trivial rfl rfl ?_
          refine St.val (v := (.string (bs a0))) (Yields.move rfl) rfl rfl rfl ?_
          refine St.val (v := (.int .i64 ((a0.length : Nat) : Int))) (Yields.lenStr tu9 rfl) rfl rfl rfl ?_
          by_cases q14 : ((a0.length : Nat) : Int) ≤ 16
          · replace hm := iT hm q14
            refine St.val (v := (.bool true)) (Yields.is q14 (Yields.le rfl rfl)) rfl rfl rfl ?_
            refine St.val (v := (.bool true)) (Yields.pick_t rfl rfl) trivial rfl rfl ?_
            refine St.val (v := (.bool true)) (Yields.move rfl) trivial rfl rfl ?_
            refine St.val (v := (.string (bs a0))) (Yields.move rfl) rfl rfl rfl ?_
            obtain ⟨x15, e16, hm⟩ := bS hm
            refine St.val (v := (.string (bs x15))) (Yields.subSD e16 tu9 rfl rfl) rfl rfl rfl ?_
            obtain ⟨x17, e18, hm⟩ := bS hm
            refine St.val (v := (.string (bs x17))) (Yields.catStr e18 rfl rfl) rfl rfl rfl ?_
            obtain ⟨q19, e20, hm⟩ := bS hm
            refine St.call [rowo (some ⟨b1, 0, none⟩) ([[100, 97, 116, 97], [99, 108, 97, 115, 115], [105, 110, 115, 116, 97, 110, 99, 101], [111, 112], [101, 110, 100], [119, 104, 101, 114, 101], [108, 101, 116], [105, 110], [102, 114, 101, 101], [99, 97, 115, 101], [114, 105, 103, 105, 100], [111, 102], [102, 97, 105, 108]] : List (List UInt8)).length 13 9 1 [.string (bs [100, 97, 116, 97]), .string (bs [99, 108, 97, 115, 115]), .string (bs [105, 110, 115, 116, 97, 110, 99, 101]), .string (bs [111, 112]), .string (bs [101, 110, 100]), .string (bs [119, 104, 101, 114, 101]), .string (bs [108, 101, 116]), .string (bs [105, 110]), .string (bs [102, 114, 101, 101]), .string (bs [99, 97, 115, 101]), .string (bs [114, 105, 103, 105, 100]), .string (bs [111, 102]), .string (bs [102, 97, 105, 108])]] (m_value_isName_sp e20) rfl (fun _ ha => ev3 ha rfl rfl rfl) rfl en87 rfl rfl rfl ?_
            rintro _ F21 _ ⟨rfl, rfl⟩ l22
            refine St.val (v := (.bool q19)) (Yields.pick_t rfl rfl) trivial rfl rfl ?_
            refine St.val (v := (.bool q19)) (Yields.assign rfl) trivial rfl rfl ?_
            refine St.nil ?_
            obtain rfl := sI hm
            intro a w ha hs
            exact ⟨F21, l22, ha.covers ⟨rfl, trivial⟩, (Among.of Among.none _ hs)⟩
          · replace hm := iF hm q14
            refine St.val (v := (.bool false)) (Yields.isnt q14 (Yields.le rfl rfl)) rfl rfl rfl ?_
            refine St.val (v := (.bool false)) (Yields.pick_t rfl rfl) trivial rfl rfl ?_
            refine St.val (v := (.bool false)) (Yields.move rfl) trivial rfl rfl ?_
            refine St.unwanted rfl rfl rfl ?_
            refine St.unwanted rfl rfl rfl ?_
            refine St.unwanted rfl rfl rfl ?_
            refine St.unwanted rfl rfl rfl ?_
            refine St.val (v := (.bool false)) (Yields.pick_f rfl rfl) trivial rfl rfl ?_
            refine St.val (v := (.bool false)) (Yields.assign rfl) trivial rfl rfl ?_
            refine St.nil ?_
            obtain rfl := sI hm
            intro a w ha hs
            exact ⟨F, (PH.le_refl _), ha.covers ⟨rfl, trivial⟩, (Among.of Among.none _ hs)⟩
        · replace hm := iF hm q13
          refine St.val (v := (.bool false)) (Yields.isnt q13 (Yields.gt rfl rfl)) trivial rfl rfl ?_
          refine St.val (v := (.bool false)) (Yields.move rfl) trivial rfl rfl ?_
          refine St.unwanted rfl rfl rfl ?_
          refine St.unwanted rfl rfl rfl ?_
          refine St.unwanted rfl rfl rfl ?_
          refine St.val (v := (.bool false)) (Yields.pick_f rfl rfl) trivial rfl rfl ?_
          refine St.val (v := (.bool false)) (Yields.move rfl) trivial rfl rfl ?_
          refine St.unwanted rfl rfl rfl ?_
          refine St.unwanted rfl rfl rfl ?_
          refine St.unwanted rfl rfl rfl ?_
          refine St.unwanted rfl rfl rfl ?_
          refine St.val (v := (.bool false)) (Yields.pick_f rfl rfl) trivial rfl rfl ?_
          refine St.val (v := (.bool false)) (Yields.assign rfl) trivial rfl rfl ?_
          refine St.nil ?_
          obtain rfl := sI hm
          intro a w ha hs
          exact ⟨F, (PH.le_refl _), ha.covers ⟨rfl, trivial⟩, (Among.of Among.none _ hs)⟩
      · rintro a w ⟨F10, l11, ha, hs⟩
        replace hm := hk12
        refine St.use (?_ : St _ _ _ _ _ _) ha hs
        clear ha hs a w
        refine St.ret ?_
        refine St.thenret ?_
        obtain rfl := sI hm
        exact St.doneR1 rfl rfl ⟨rfl, rfl⟩ (fun w hs => Among.of Among.none w hs)
    · intro q23
      replace q23 : ¬ (z3 = true) := bf q23
      replace hm := iF hm q23
      refine St.skip ?_
      refine St.norm ?_
      obtain ⟨z24, hm, hk27⟩ := bS hm
      refine St.cutI (fun a w => ∃ (F25 : PH), PH.le F F25 ∧ Has Try.f88.ntmps a [(2, .bool z24)] ∧ Sat ⟨w0, fun b => m0 b ≠ none, F⟩ F25 [] w) ?_ ?_
      · skip
        refine St.region ?_
        refine St.val (v := (.string (bs a0))) (Yields.move rfl) trivial rfl rfl ?_
        obtain ⟨q28, e29, hm⟩ := bS hm
        refine St.call [rowo (some ⟨b1, 0, none⟩) ([[100, 97, 116, 97], [99, 108, 97, 115, 115], [105, 110, 115, 116, 97, 110, 99, 101], [111, 112], [101, 110, 100], [119, 104, 101, 114, 101], [108, 101, 116], [105, 110], [102, 114, 101, 101], [99, 97, 115, 101], [114, 105, 103, 105, 100], [111, 102], [102, 97, 105, 108]] : List (List UInt8)).length 13 9 1 [.string (bs [100, 97, 116, 97]), .string (bs [99, 108, 97, 115, 115]), .string (bs [105, 110, 115, 116, 97, 110, 99, 101]), .string (bs [111, 112]), .string (bs [101, 110, 100]), .string (bs [119, 104, 101, 114, 101]), .string (bs [108, 101, 116]), .string (bs [105, 110]), .string (bs [102, 114, 101, 101]), .string (bs [99, 97, 115, 101]), .string (bs [114, 105, 103, 105, 100]), .string (bs [111, 102]), .string (bs [102, 97, 105, 108])]] (m_value_isName_sp e29) rfl (fun _ ha => ev3 ha rfl rfl rfl) rfl en87 rfl rfl trivial ?_
        rintro _ F30 _ ⟨rfl, rfl⟩ l31
        by_cases q32 : q28 = true
        · replace hm := iT hm q32
          have hb33 : (q28) = true := q32
          try rw [hb33]
          refine St.val (v := (.bool true)) (Yields.move rfl) trivial rfl rfl ?_
          refine St.val (v := (.slice (some ⟨b1, 0, none⟩) ([[100, 97, 116, 97], [99, 108, 97, 115, 115], [105, 110, 115, 116, 97, 110, 99, 101], [111, 112], [101, 110, 100], [119, 104, 101, 114, 101], [108, 101, 116], [105, 110], [102, 114, 101, 101], [99, 97, 115, 101], [114, 105, 103, 105, 100], [111, 102], [102, 97, 105, 108]] : List (List UInt8)).length 13)) (Yields.move rfl) rfl rfl rfl ?_
          refine St.val (v := (.string (bs a0))) (Yields.move rfl) rfl rfl rfl ?_
          refine St.pick (R := []) 0 rfl rfl ?_
          obtain ⟨q34, e35, hm⟩ := bS hm
          refine St.call [] (CallSp.lend (Hl := [rowo (some ⟨b1, 0, none⟩) ([[100, 97, 116, 97], [99, 108, 97, 115, 115], [105, 110, 115, 116, 97, 110, 99, 101], [111, 112], [101, 110, 100], [119, 104, 101, 114, 101], [108, 101, 116], [105, 110], [102, 114, 101, 101], [99, 97, 115, 101], [114, 105, 103, 105, 100], [111, 102], [102, 97, 105, 108]] : List (List UInt8)).length 13 9 1 [.string (bs [100, 97, 116, 97]), .string (bs [99, 108, 97, 115, 115]), .string (bs [105, 110, 115, 116, 97, 110, 99, 101]), .string (bs [111, 112]), .string (bs [101, 110, 100]), .string (bs [119, 104, 101, 114, 101]), .string (bs [108, 101, 116]), .string (bs [105, 110]), .string (bs [102, 114, 101, 101]), .string (bs [99, 97, 115, 101]), .string (bs [114, 105, 103, 105, 100]), .string (bs [111, 102]), .string (bs [102, 97, 105, 108])]]) (fun m_ hm_ hd_ h1_ h2_ => (m_slices_Contains_string_string_sp (lentR hm_ 0 rfl rfl (Cat.mono l31 (show Cat Kind.str F [.string (bs [100, 97, 116, 97]), .string (bs [99, 108, 97, 115, 115]), .string (bs [105, 110, 115, 116, 97, 110, 99, 101]), .string (bs [111, 112]), .string (bs [101, 110, 100]), .string (bs [119, 104, 101, 114, 101]), .string (bs [108, 101, 116]), .string (bs [105, 110]), .string (bs [102, 114, 101, 101]), .string (bs [99, 97, 115, 101]), .string (bs [114, 105, 103, 105, 100]), .string (bs [111, 102]), .string (bs [102, 97, 105, 108])] ([[100, 97, 116, 97], [99, 108, 97, 115, 115], [105, 110, 115, 116, 97, 110, 99, 101], [111, 112], [101, 110, 100], [119, 104, 101, 114, 101], [108, 101, 116], [105, 110], [102, 114, 101, 101], [99, 97, 115, 101], [114, 105, 103, 105, 100], [111, 102], [102, 97, 105, 108]] : List (List UInt8)) from ⟨[.string (bs [100, 97, 116, 97])], _, rfl, rfl, ⟨[.string (bs [99, 108, 97, 115, 115])], _, rfl, rfl, ⟨[.string (bs [105, 110, 115, 116, 97, 110, 99, 101])], _, rfl, rfl, ⟨[.string (bs [111, 112])], _, rfl, rfl, ⟨[.string (bs [101, 110, 100])], _, rfl, rfl, ⟨[.string (bs [119, 104, 101, 114, 101])], _, rfl, rfl, ⟨[.string (bs [108, 101, 116])], _, rfl, rfl, ⟨[.string (bs [105, 110])], _, rfl, rfl, ⟨[.string (bs [102, 114, 101, 101])], _, rfl, rfl, ⟨[.string (bs [99, 97, 115, 101])], _, rfl, rfl, ⟨[.string (bs [114, 105, 103, 105, 100])], _, rfl, rfl, ⟨[.string (bs [111, 102])], _, rfl, rfl, ⟨[.string (bs [102, 97, 105, 108])], _, rfl, rfl, rfl⟩⟩⟩⟩⟩⟩⟩⟩⟩⟩⟩⟩⟩)) (show Bnd 16 ([[100, 97, 116, 97], [99, 108, 97, 115, 115], [105, 110, 115, 116, 97, 110, 99, 101], [111, 112], [101, 110, 100], [119, 104, 101, 114, 101], [108, 101, 116], [105, 110], [102, 114, 101, 101], [99, 97, 115, 101], [114, 105, 103, 105, 100], [111, 102], [102, 97, 105, 108]] : List (List UInt8)) from ⟨by simp, by simp⟩) h1_ h2_) e35).mono (fun _ _ _ h_ _ _ => h_))) rfl (fun _ ha => ev2 ha rfl rfl) rfl en101 rfl rfl rfl ?_
          rintro _ F36 _ ⟨_, rfl, rfl, rfl⟩ l37
          refine St.val (v := (.bool (!q34))) (Yields.not rfl) rfl rfl rfl ?_
          refine St.val (v := (.bool (!q34))) (Yields.pick_t rfl rfl) trivial rfl rfl ?_
          refine St.val (v := (.bool (!q34))) (Yields.assign rfl) trivial rfl rfl ?_
          refine St.nil ?_
          obtain rfl := sI hm
          intro a w ha hs
          exact ⟨F36, (PH.le_trans l31 l37), ha.covers ⟨rfl, trivial⟩, (Among.of Among.none _ hs)⟩
        · replace hm := iF hm q32
          have hb38 : (q28) = false := eq_false_of_ne_true q32
          try rw [hb38]
          refine St.val (v := (.bool false)) (Yields.move rfl) trivial rfl rfl ?_
          refine St.unwanted rfl rfl rfl ?_
          refine St.unwanted rfl rfl rfl ?_
          refine St.unwanted rfl rfl rfl ?_
          refine St.unwanted rfl rfl rfl ?_
          refine St.val (v := (.bool false)) (Yields.pick_f rfl rfl) trivial rfl rfl ?_
          refine St.val (v := (.bool false)) (Yields.assign rfl) trivial rfl rfl ?_
          refine St.nil ?_
          obtain rfl := sI hm
          intro a w ha hs
          exact ⟨F30, l31, ha.covers ⟨rfl, trivial⟩, (Among.of Among.none _ hs)⟩
      · rintro a w ⟨F25, l26, ha, hs⟩
        replace hm := hk27
        refine St.use (?_ : St _ _ _ _ _ _) ha hs
        clear ha hs a w
        refine St.ret ?_
        obtain rfl := sI hm
        exact St.doneR1 rfl rfl ⟨rfl, rfl⟩ (fun w hs => Among.of Among.none w hs)

theorem m_value_numeral_sp {F : PH} {g : Nat} {a0 : List UInt8} {r : Int × Bool} (hm : m_value_numeral g a0 = some r) :
    CallSp Try.prog 89 #[.string (bs a0)] F [] (fun u F' H' => u = (.tuple #[.int .i64 r.1, .bool r.2]) ∧ H' = []) := by
  unfold m_value_numeral at hm
  refine CallSp.enter (args := [.string (bs a0)]) Try.func89 rfl rfl ?_
  intro w0 m0 hm0
  refine St.seq ?_
  refine St.region ?_
  refine St.val (v := (.int .i64 0)) (Yields.assign rfl) trivial rfl rfl ?_
  refine St.val (v := (.bool false)) (Yields.assign rfl) trivial rfl rfl ?_
  refine St.nil ?_
  refine St.norm ?_
  refine St.seq ?_
  obtain ⟨z1, hm, hk2⟩ := bS hm
  refine St.cutI (fun a w => Has Try.f89.ntmps a [(0, .string (bs a0)), (22, .bool z1)] ∧ Sat ⟨w0, fun b => m0 b ≠ none, F⟩ F [] w) ?_ ?_
  · skip
    refine St.region ?_
    refine St.val (v := (.string (bs a0))) (Yields.move rfl) trivial rfl rfl ?_
    by_cases q3 : a0 = ([] : List UInt8)
    · replace hm := iT hm q3
      refine St.val (v := (.bool true)) (Yields.is q3 (Yields.eqStr rfl rfl)) trivial rfl rfl ?_
      refine St.val (v := (.bool true)) (Yields.move rfl) trivial rfl rfl ?_
      refine St.unwanted rfl rfl rfl ?_
      refine St.unwanted rfl rfl rfl ?_
      refine St.unwanted rfl rfl rfl ?_
      refine St.unwanted rfl rfl rfl ?_
      refine St.unwanted trivial rfl rfl ?_
      refine St.unwanted trivial rfl rfl ?_
      refine St.unwanted trivial rfl rfl ?_
      refine St.unwanted rfl rfl rfl ?_
      refine St.val (v := (.bool true)) (Yields.pick_t rfl rfl) trivial rfl rfl ?_
      refine St.val (v := (.bool true)) (Yields.move rfl) trivial rfl rfl ?_
      refine St.unwanted rfl rfl rfl ?_
      refine St.unwanted rfl rfl rfl ?_
      refine St.unwanted rfl rfl rfl ?_
      refine St.val (v := (.bool true)) (Yields.pick_t rfl rfl) trivial rfl rfl ?_
      refine St.nil ?_
      obtain rfl := sI hm
      intro a w ha hs
      exact ⟨ha.covers ⟨rfl, rfl, trivial⟩, (Among.of Among.none _ hs)⟩
    · replace hm := iF hm q3
      refine St.val (v := (.bool false)) (Yields.isnt q3 (Yields.eqStr rfl rfl)) trivial rfl rfl ?_
      refine St.val (v := (.bool false)) (Yields.move rfl) trivial rfl rfl ?_
      refine St.val (v := (.string (bs a0))) (Yields.move rfl) rfl rfl rfl ?_
      refine St.val (v := (.int .i64 ((a0.length : Nat) : Int))) (Yields.lenStr tu9 rfl) rfl rfl rfl ?_
      by_cases q4 : ((a0.length : Nat) : Int) > 1
      · replace hm := iT hm q4
        refine St.val (v := (.bool true)) (Yields.is q4 (Yields.gt rfl rfl)) rfl rfl rfl ?_
        refine St.val (v := (.bool true)) (Yields.move rfl) rfl rfl rfl ?_
        refine St.val (v := (.string (bs a0))) (Yields.move rfl) rfl rfl rfl ?_
        obtain ⟨x5, e6, hm⟩ := bS hm
        refine St.val (v := (.int .u8 ((x5.toNat : Nat) : Int))) (Yields.indexStr (nlit e6) tu9 rfl rfl) rfl rfl rfl ?_
        by_cases q7 : ((x5.toNat : Nat) : Int) = 48
        · replace hm := iT hm q7
          refine St.val (v := (.bool true)) (Yields.is q7 (Yields.eq rfl rfl)) rfl rfl rfl ?_
          refine St.val (v := (.bool true)) (Yields.pick_t rfl rfl) rfl rfl rfl ?_
          refine St.val (v := (.bool true)) (Yields.pick_f rfl rfl) trivial rfl rfl ?_
          refine St.val (v := (.bool true)) (Yields.move rfl) trivial rfl rfl ?_
          refine St.unwanted rfl rfl rfl ?_
          refine St.unwanted rfl rfl rfl ?_
          refine St.unwanted rfl rfl rfl ?_
          refine St.val (v := (.bool true)) (Yields.pick_t rfl rfl) trivial rfl rfl ?_
          refine St.nil ?_
          obtain rfl := sI hm
          intro a w ha hs
          exact ⟨ha.covers ⟨rfl, rfl, trivial⟩, (Among.of Among.none _ hs)⟩
        · replace hm := iF hm q7
          refine St.val (v := (.bool false)) (Yields.isnt q7 (Yields.eq rfl rfl)) rfl rfl rfl ?_
          refine St.val (v := (.bool false)) (Yields.pick_t rfl rfl) rfl rfl rfl ?_
          refine St.val (v := (.bool false)) (Yields.pick_f rfl rfl) trivial rfl rfl ?_
          refine St.val (v := (.bool false)) (Yields.move rfl) trivial rfl rfl ?_
          refine St.val (v := (.string (bs a0))) (Yields.move rfl) rfl rfl rfl ?_
          refine St.val (v := (.int .i64 ((a0.length : Nat) : Int))) (Yields.lenStr tu9 rfl) rfl rfl rfl ?_
          refine St.val (v := (.bool (decide (((a0.length : Nat) : Int) > 10)))) (Yields.gt rfl rfl) rfl rfl rfl ?_
          refine St.val (v := (.bool (decide (((a0.length : Nat) : Int) > 10)))) (Yields.pick_f rfl rfl) trivial rfl rfl ?_
          refine St.nil ?_
          obtain rfl := sI hm
          intro a w ha hs
          exact ⟨ha.covers ⟨rfl, rfl, trivial⟩, (Among.of Among.none _ hs)⟩
      · replace hm := iF hm q4
        refine St.val (v := (.bool false)) (Yields.isnt q4 (Yields.gt rfl rfl)) rfl rfl rfl ?_
        refine St.val (v := (.bool false)) (Yields.move rfl) rfl rfl rfl ?_
        refine St.unwanted rfl rfl rfl ?_
        refine St.unwanted rfl rfl rfl ?_
        refine St.unwanted rfl rfl rfl ?_
        refine St.val (v := (.bool false)) (Yields.pick_f rfl rfl) rfl rfl rfl ?_
        refine St.val (v := (.bool false)) (Yields.pick_f rfl rfl) trivial rfl rfl ?_
        refine St.val (v := (.bool false)) (Yields.move rfl) trivial rfl rfl ?_
        refine St.val (v := (.string (bs a0))) (Yields.move rfl) rfl rfl rfl ?_
        refine St.val (v := (.int .i64 ((a0.length : Nat) : Int))) (Yields.lenStr tu9 rfl) rfl rfl rfl ?_
        refine St.val (v := (.bool (decide (((a0.length : Nat) : Int) > 10)))) (Yields.gt rfl rfl) rfl rfl rfl ?_
        refine St.val (v := (.bool (decide (((a0.length : Nat) : Int) > 10)))) (Yields.pick_f rfl rfl) trivial rfl rfl ?_
        refine St.nil ?_
        obtain rfl := sI hm
        intro a w ha hs
        exact ⟨ha.covers ⟨rfl, rfl, trivial⟩, (Among.of Among.none _ hs)⟩
  · rintro a w ⟨ha, hs⟩
    replace hm := hk2
    refine St.use (?_ : St _ _ _ _ _ _) ha hs
    clear ha hs a w
    refine St.cond_b rfl ?_ ?_
    · intro q8
      replace q8 : z1 = true := q8
      replace hm := iT hm q8
      refine St.seq ?_
      refine St.region ?_
      refine St.val (v := (.int .i64 0)) (Yields.assign rfl) trivial rfl rfl ?_
      refine St.val (v := (.bool false)) (Yields.assign rfl) trivial rfl rfl ?_
      refine St.nil ?_
      refine St.norm ?_
      refine St.ret ?_
      refine St.thenret ?_
      obtain rfl := sI hm
      exact St.doneR2 rfl rfl rfl ⟨rfl, rfl⟩ (fun w hs => Among.of Among.none w hs)
    · intro q9
      replace q9 : ¬ (z1 = true) := bf q9
      replace hm := iF hm q9
      refine St.skip ?_
      refine St.norm ?_
      refine St.seq ?_
      refine St.region ?_
      refine St.val (v := (.int .i64 0)) (Yields.assign rfl) trivial rfl rfl ?_
      refine St.nil ?_
      refine St.norm ?_
      obtain ⟨o11, hm, ho12⟩ := jS hm
      refine St.cutI (fun a w => ∃ z10 : Int, o11 = .inl z10 ∧ Has Try.f89.ntmps a [(4, .int .i64 z10)] ∧ Sat ⟨w0, fun b => m0 b ≠ none, F⟩ F [] w) ?_ ?_
      · skip
        refine St.seq ?_
        refine St.region ?_
        refine St.val (v := (.int .i64 0)) (Yields.assign rfl) trivial rfl rfl ?_
        refine St.nil ?_
        refine St.norm ?_
        refine St.block ?_
        refine St.loopM hm (fun s15 a w => Has Try.f89.ntmps a [(0, .string (bs a0)), (4, .int .i64 s15.1), (5, .int .i64 ((s15.2 : Nat) : Int))] ∧ Sat ⟨w0, fun b => m0 b ≠ none, F⟩ F [] w) ?_ ?_
        · skip
          intro a w ha hs
          exact ⟨ha.covers ⟨rfl, rfl, rfl, trivial⟩, (Among.of Among.none _ hs)⟩
        · rintro s15 o16 co17 hm ho18 a w ⟨ha, hs⟩
          refine St.use (?_ : St _ _ _ _ _ _) ha hs
          clear ha hs a w
          refine St.seq ?_
          refine St.seq ?_
          refine St.region ?_
          refine St.val (v := (.int .i64 ((s15.2 : Nat) : Int))) (Yields.move rfl) trivial rfl rfl ?_
          refine St.val (v := (.string (bs a0))) (Yields.move rfl) trivial rfl rfl ?_
          refine St.val (v := (.int .i64 ((a0.length : Nat) : Int))) (Yields.lenStr tu9 rfl) trivial rfl rfl ?_
          refine St.val (v := (.bool (decide (((s15.2 : Nat) : Int) < ((a0.length : Nat) : Int))))) (Yields.lt rfl rfl) trivial rfl rfl ?_
          refine St.nil ?_
          refine St.norm ?_
          refine St.cond_b rfl ?_ ?_
          · intro q19
            replace q19 : ((s15.2 : Nat) : Int) < ((a0.length : Nat) : Int) := of_decide_eq_true q19
            replace hm := iT hm q19
            refine St.skip ?_
            refine St.norm ?_
            refine St.seq ?_
            refine St.block ?_
            refine St.seq ?_
            obtain ⟨z20, hm, hk21⟩ := bS hm
            refine St.cutI (fun a w => Has Try.f89.ntmps a [(0, .string (bs a0)), (4, .int .i64 s15.1), (5, .int .i64 ((s15.2 : Nat) : Int)), (38, .bool z20)] ∧ Sat ⟨w0, fun b => m0 b ≠ none, F⟩ F [] w) ?_ ?_
            · skip
              refine St.region ?_
              refine St.val (v := (.string (bs a0))) (Yields.move rfl) trivial rfl rfl ?_
              refine St.val (v := (.int .i64 ((s15.2 : Nat) : Int))) (Yields.move rfl) trivial rfl rfl ?_
              obtain ⟨x22, e23, hm⟩ := bS hm
              refine St.val (v := (.int .u8 ((x22.toNat : Nat) : Int))) (Yields.indexStr (nlit e23) tu9 rfl rfl) trivial rfl rfl ?_
              by_cases q24 : ((x22.toNat : Nat) : Int) < 48
              · replace hm := iT hm q24
                refine St.val (v := (.bool true)) (Yields.is q24 (Yields.lt rfl rfl)) trivial rfl rfl ?_
                refine St.val (v := (.bool true)) (Yields.move rfl) trivial rfl rfl ?_
                refine St.unwanted rfl rfl rfl ?_
                refine St.unwanted rfl rfl rfl ?_
                refine St.unwanted rfl rfl rfl ?_
                refine St.unwanted rfl rfl rfl ?_
                refine St.val (v := (.bool true)) (Yields.pick_t rfl rfl) trivial rfl rfl ?_
                refine St.nil ?_
                obtain rfl := sI hm
                intro a w ha hs
                exact ⟨ha.covers ⟨rfl, rfl, rfl, rfl, trivial⟩, (Among.of Among.none _ hs)⟩
              · replace hm := iF hm q24
                refine St.val (v := (.bool false)) (Yields.isnt q24 (Yields.lt rfl rfl)) trivial rfl rfl ?_
                refine St.val (v := (.bool false)) (Yields.move rfl) trivial rfl rfl ?_
                refine St.val (v := (.string (bs a0))) (Yields.move rfl) rfl rfl rfl ?_
                refine St.val (v := (.int .i64 ((s15.2 : Nat) : Int))) (Yields.move rfl) rfl rfl rfl ?_
                obtain ⟨x25, e26, hm⟩ := bS hm
                refine St.val (v := (.int .u8 ((x25.toNat : Nat) : Int))) (Yields.indexStr (nlit e26) tu9 rfl rfl) rfl rfl rfl ?_
                refine St.val (v := (.bool (decide (((x25.toNat : Nat) : Int) > 57)))) (Yields.gt rfl rfl) rfl rfl rfl ?_
                refine St.val (v := (.bool (decide (((x25.toNat : Nat) : Int) > 57)))) (Yields.pick_f rfl rfl) trivial rfl rfl ?_
                refine St.nil ?_
                obtain rfl := sI hm
                intro a w ha hs
                exact ⟨ha.covers ⟨rfl, rfl, rfl, rfl, trivial⟩, (Among.of Among.none _ hs)⟩
            · rintro a w ⟨ha, hs⟩
              replace hm := hk21
              refine St.use (?_ : St _ _ _ _ _ _) ha hs
              clear ha hs a w
              refine St.cond_b rfl ?_ ?_
              · intro q27
                replace q27 : z20 = true := q27
                replace hm := iT hm q27
                refine St.seq ?_
                refine St.region ?_
                refine St.val (v := (.int .i64 0)) (Yields.assign rfl) trivial rfl rfl ?_
                refine St.val (v := (.bool false)) (Yields.assign rfl) trivial rfl rfl ?_
                refine St.nil ?_
                refine St.norm ?_
                refine St.ret ?_
                refine St.thenret ?_
                refine St.inret ?_
                refine St.thenret ?_
                refine St.thenret ?_
                refine St.inret ?_
                refine St.thenret ?_
                obtain rfl := sI hm
                obtain rfl := aR ho18
                obtain rfl := aR ho12
                exact St.doneR2 rfl rfl rfl ⟨rfl, rfl⟩ (fun w hs => Among.of Among.none w hs)
              · intro q28
                replace q28 : ¬ (z20 = true) := bf q28
                replace hm := iF hm q28
                refine St.skip ?_
                refine St.norm ?_
                refine St.region ?_
                refine St.val (v := (.int .i64 s15.1)) (Yields.move rfl) trivial rfl rfl ?_
                refine St.val (v := (.int .i64 (Mir.w64 (s15.1 * 10)))) (Yields.mulw rfl rfl) trivial rfl rfl ?_
                refine St.val (v := (.string (bs a0))) (Yields.move rfl) trivial rfl rfl ?_
                refine St.val (v := (.int .i64 ((s15.2 : Nat) : Int))) (Yields.move rfl) trivial rfl rfl ?_
                obtain ⟨x29, e30, hm⟩ := bS hm
                refine St.val (v := (.int .u8 ((x29.toNat : Nat) : Int))) (Yields.indexStr (nlit e30) tu9 rfl rfl) trivial rfl rfl ?_
                refine St.val (v := (.int .u8 (IntKind.wrap .u8 (((x29.toNat : Nat) : Int) - 48)))) (Yields.subw rfl rfl) trivial rfl rfl ?_
                refine St.val (v := (.int .i64 (Mir.w64 (IntKind.wrap .u8 (((x29.toNat : Nat) : Int) - 48))))) (Yields.convInt ti3 ⟨_, ti5⟩ rfl) trivial rfl rfl ?_
                refine St.val (v := (.int .i64 (Mir.w64 ((Mir.w64 (s15.1 * 10)) + (Mir.w64 (IntKind.wrap .u8 (((x29.toNat : Nat) : Int) - 48))))))) (Yields.addw rfl rfl) trivial rfl rfl ?_
                refine St.val (v := (.int .i64 (Mir.w64 ((Mir.w64 (s15.1 * 10)) + (Mir.w64 (IntKind.wrap .u8 (((x29.toNat : Nat) : Int) - 48))))))) (Yields.assign rfl) trivial rfl rfl ?_
                refine St.nil ?_
                refine St.innorm ?_
                refine St.norm ?_
                refine St.region ?_
                refine St.val (v := (.int .i64 ((s15.2 : Nat) : Int))) (Yields.move rfl) trivial rfl rfl ?_
                obtain ⟨x31, e32, hm⟩ := bS hm
                refine St.val (v := (.int .i64 ((s15.2 + 1 : Nat) : Int))) (Yields.addn (j := 1) rfl rfl rfl (by have q_0 := q19; have q_1 := (Mir.small_le e32); omega)) trivial rfl rfl ?_
                refine St.val (v := (.int .i64 ((s15.2 + 1 : Nat) : Int))) (Yields.assign rfl) trivial rfl rfl ?_
                refine St.nil ?_
                refine St.norm ?_
                obtain rfl := sI hm
                intro a w ha hs
                exact ⟨(Mir.w64 ((Mir.w64 (s15.1 * 10)) + (Mir.w64 (IntKind.wrap .u8 (((x29.toNat : Nat) : Int) - 48)))), s15.2 + 1), aL ho18, ha.covers ⟨rfl, rfl, rfl, trivial⟩, (Among.of Among.none _ hs)⟩
          · intro q33
            replace q33 : ¬ (((s15.2 : Nat) : Int) < ((a0.length : Nat) : Int)) := of_decide_eq_false q33
            replace hm := iF hm q33
            refine St.exit ?_
            refine St.thenexit ?_
            refine St.thenexit ?_
            refine St.inexit ?_
            obtain rfl := sI hm
            obtain rfl := aR ho18
            intro a w ha hs
            exact ⟨s15.1, rfl, ha.covers ⟨rfl, trivial⟩, (Among.of Among.none _ hs)⟩
      · rintro a w ⟨z10, rfl, ha, hs⟩
        replace hm := aL ho12
        refine St.use (?_ : St _ _ _ _ _ _) ha hs
        clear ha hs a w
        refine St.seq ?_
        refine St.region ?_
        refine St.val (v := (.int .i64 z10)) (Yields.move rfl) trivial rfl rfl ?_
        refine St.val (v := (.int .i64 z10)) (Yields.assign rfl) trivial rfl rfl ?_
        refine St.val (v := (.bool true)) (Yields.assign rfl) trivial rfl rfl ?_
        refine St.nil ?_
        refine St.norm ?_
        refine St.ret ?_
        obtain rfl := sI hm
        exact St.doneR2 rfl rfl rfl ⟨rfl, rfl⟩ (fun w hs => Among.of Among.none w hs)

theorem m_value_atom_sp {F : PH} {g : Nat} {a0 : List UInt8} {r : Int × List UInt8 × Int × Bool} (hm : m_value_atom g a0 = some r) :
    CallSp Try.prog 62 #[.string (bs a0)] F [] (fun u F' H' => u = (.tuple #[.agg #[.int .i64 r.1, .string (bs r.2.1), .int .i64 r.2.2.1, .slice none 0 0], .bool r.2.2.2]) ∧ H' = []) := by
  unfold m_value_atom at hm
  refine CallSp.enter (args := [.string (bs a0)]) Try.func62 rfl rfl ?_
  intro w0 m0 hm0
  refine St.seq ?_
  refine St.region ?_
  refine St.alloc tz24 trivial rfl ?_
  intro b1
  refine St.val (v := (.bool false)) (Yields.assign rfl) trivial rfl rfl ?_
  refine St.nil ?_
  refine St.norm ?_
  refine St.seq ?_
  refine St.seq ?_
  refine St.region ?_
  refine St.val (v := (.string (bs a0))) (Yields.move rfl) trivial rfl rfl ?_
  obtain ⟨x2, e3, hm⟩ := bS hm
  refine St.val (v := (.int .u8 ((x2.toNat : Nat) : Int))) (Yields.indexStr (nlit e3) tu9 rfl rfl) trivial rfl rfl ?_
  refine St.val (v := (.int .u8 ((x2.toNat : Nat) : Int))) (Yields.assign rfl) trivial rfl rfl ?_
  refine St.nil ?_
  refine St.norm ?_
  refine St.block ?_
  obtain ⟨z4, hm, hk5⟩ := bS hm
  refine St.cutI (fun a w => Has Try.f62.ntmps a [(0, .string (bs a0)), (2, .pointer (some ⟨b1, 0, none⟩)), (4, .int .u8 ((x2.toNat : Nat) : Int)), (13, .bool z4)] ∧ Sat ⟨w0, fun b => m0 b ≠ none, F⟩ F [blk b1 (.cells #[.int .i64 0, .string (bs []), .int .i64 0, .slice none 0 0] 24 (0, 0))] w) ?_ ?_
  · skip
    refine St.region ?_
    refine St.val (v := (.int .u8 ((x2.toNat : Nat) : Int))) (Yields.move rfl) trivial rfl rfl ?_
    by_cases q6 : ((x2.toNat : Nat) : Int) ≥ 65
    · replace hm := iT hm q6
      refine St.val (v := (.bool true)) (Yields.is q6 (Yields.ge rfl rfl)) trivial rfl rfl ?_
      refine St.val (v := (.bool true)) (Yields.move rfl) trivial rfl rfl ?_
      refine St.val (v := (.int .u8 ((x2.toNat : Nat) : Int))) (Yields.move rfl) rfl rfl rfl ?_
      refine St.val (v := (.bool (decide (((x2.toNat : Nat) : Int) ≤ 90)))) (Yields.le rfl rfl) rfl rfl rfl ?_
      refine St.val (v := (.bool (decide (((x2.toNat : Nat) : Int) ≤ 90)))) (Yields.pick_t rfl rfl) trivial rfl rfl ?_
      refine St.val (v := (.bool (decide (((x2.toNat : Nat) : Int) ≤ 90)))) (Yields.assign rfl) trivial rfl rfl ?_
      refine St.nil ?_
      obtain rfl := sI hm
      intro a w ha hs
      exact ⟨ha.covers ⟨rfl, rfl, rfl, rfl, trivial⟩, (Among.of (Among.take 0 rfl rfl Among.none) _ hs)⟩
    · replace hm := iF hm q6
      refine St.val (v := (.bool false)) (Yields.isnt q6 (Yields.ge rfl rfl)) trivial rfl rfl ?_
      refine St.val (v := (.bool false)) (Yields.move rfl) trivial rfl rfl ?_
      refine St.unwanted rfl rfl rfl ?_
      refine St.unwanted rfl rfl rfl ?_
      refine St.val (v := (.bool false)) (Yields.pick_f rfl rfl) trivial rfl rfl ?_
      refine St.val (v := (.bool false)) (Yields.assign rfl) trivial rfl rfl ?_
      refine St.nil ?_
      obtain rfl := sI hm
      intro a w ha hs
      exact ⟨ha.covers ⟨rfl, rfl, rfl, rfl, trivial⟩, (Among.of (Among.take 0 rfl rfl Among.none) _ hs)⟩
  · rintro a w ⟨ha, hs⟩
    replace hm := hk5
    refine St.use (?_ : St _ _ _ _ _ _) ha hs
    clear ha hs a w
    refine St.cond_b rfl ?_ ?_
    · intro q7
      replace q7 : z4 = true := q7
      replace hm := iT hm q7
      refine St.seq ?_
      refine St.region ?_
      refine St.val (v := (.string (bs a0))) (Yields.move rfl) trivial rfl rfl ?_
      refine St.val (v := (.agg #[.int .i64 1, .string (bs a0), .int .i64 0, .slice none 0 0])) (Yields.build (v := (.agg #[.int .i64 1, .string (bs a0), .int .i64 0, .slice none 0 0])) (vs := #[(0, .int .i64 1), (1, .string (bs a0))]) (fun _ ha => evp2 ha rfl rfl) (fun _ => by kernel_rfl)) trivial rfl rfl ?_
      refine St.val (v := (.string (bs a0))) (Yields.move rfl) trivial rfl rfl ?_
      obtain ⟨q8, e9, hm⟩ := bS hm
      refine St.call [blk b1 (.cells #[.int .i64 0, .string (bs []), .int .i64 0, .slice none 0 0] 24 (0, 0))] (m_value_isName_sp e9) rfl (fun _ ha => ev3 ha rfl rfl rfl) rfl en87 rfl rfl trivial ?_
      rintro _ F10 _ ⟨rfl, rfl⟩ l11
      refine St.storen (R := []) rfl rfl 0 rfl rfl ta24 rfl rfl rfl trivial (cs' := #[.int .i64 1, .string (bs a0), .int .i64 0, .slice none 0 0]) rfl ?_
      refine St.val (v := (.bool q8)) (Yields.assign rfl) trivial rfl rfl ?_
      refine St.nil ?_
      refine St.norm ?_
      refine St.ret ?_
      refine St.inret ?_
      refine St.thenret ?_
      obtain rfl := sI hm
      exact St.doneR2 rfl (ResOk.cell rfl (Loads.Hk (vs := [.int .i64 1, .string (bs a0), .int .i64 0, .slice none 0 0]) 0 rfl ta24 rfl rfl)) rfl ⟨rfl, rfl⟩ (fun w hs => Among.of Among.none w hs)
    · intro q12
      replace q12 : ¬ (z4 = true) := bf q12
      replace hm := iF hm q12
      refine St.seq ?_
      refine St.region ?_
      refine St.val (v := (.int .u8 ((x2.toNat : Nat) : Int))) (Yields.move rfl) trivial rfl rfl ?_
      refine St.val (v := (.bool (decide (((x2.toNat : Nat) : Int) = 39)))) (Yields.eq rfl rfl) trivial rfl rfl ?_
      refine St.val (v := (.bool (decide (((x2.toNat : Nat) : Int) = 39)))) (Yields.assign rfl) trivial rfl rfl ?_
      refine St.nil ?_
      refine St.norm ?_
      refine St.cond_b rfl ?_ ?_
      · intro q13
        replace q13 : ((x2.toNat : Nat) : Int) = 39 := of_decide_eq_true q13
        replace hm := iT hm q13
        refine St.seq ?_
        refine StD.start [5, 6] [blk b1 (.cells #[.int .i64 0, .string (bs []), .int .i64 0, .slice none 0 0] 24 (0, 0))] hmix ?_
        refine StD.takeP (i := 0) (v := (.string (bs a0))) rfl (fun _ => Yields.move rfl) rfl rfl trivial (by rintro _ _ _ ⟨_, _, _, _, h, _⟩; cases h) (by kernel_rfl) (listed' := #[true, false, false, false, false, false, false, false]) rfl ?_
        obtain ⟨x14, e15, hm⟩ := bS hm
        refine StD.takeP (i := 1) (v := (.string (bs x14))) rfl (fun _ => Yields.subSD e15 tu9 rfl rfl) rfl rfl trivial (by rintro _ _ _ ⟨_, _, _, _, h, _⟩; cases h) (by kernel_rfl) (listed' := #[true, true, false, false, false, false, false, false]) rfl ?_
        refine StD.takeP (i := 2) (v := (.agg #[.int .i64 4, .string (bs x14), .int .i64 0, .slice none 0 0])) rfl (fun _ => Yields.build (v := (.agg #[.int .i64 4, .string (bs x14), .int .i64 0, .slice none 0 0])) (vs := #[(0, .int .i64 4), (1, .string (bs x14))]) (fun _ ha => evp2 ha rfl rfl) (fun _ => by kernel_rfl)) rfl rfl trivial (by rintro _ _ _ ⟨_, _, _, _, h, _⟩; cases h) (by kernel_rfl) (listed' := #[true, true, true, false, false, false, false, false]) rfl ?_
        refine StD.takeP (i := 3) (v := (.string (bs a0))) rfl (fun _ => Yields.move rfl) rfl rfl trivial (by rintro _ _ _ ⟨_, _, _, _, h, _⟩; cases h) (by kernel_rfl) (listed' := #[true, true, true, true, false, false, false, false]) rfl ?_
        obtain ⟨x16, e17, hm⟩ := bS hm
        refine StD.takeP (i := 4) (v := (.string (bs x16))) rfl (fun _ => Yields.subSD e17 tu9 rfl rfl) rfl rfl trivial (by rintro _ _ _ ⟨_, _, _, _, h, _⟩; cases h) (by kernel_rfl) (listed' := #[true, true, true, true, true, false, false, false]) rfl ?_
        refine StD.only (i := 5) rfl (by kernel_rfl) (listed' := #[true, true, true, true, true, true, false, false]) rfl ?_
        intro hcl18
        obtain ⟨q19, e20, hm⟩ := bS hm
        refine St.call [blk b1 (.cells #[.int .i64 0, .string (bs []), .int .i64 0, .slice none 0 0] 24 (0, 0))] (m_value_isFunction_sp e20) rfl (fun _ ha => ev1 ha rfl) rfl en88 rfl rfl trivial ?_
        rintro _ F21 _ ⟨rfl, rfl⟩ l22
        refine StD.next hcl18 (fun h => by cases h) ?_
        refine StD.only (i := 6) rfl (by kernel_rfl) (listed' := #[true, true, true, true, true, true, true, false]) rfl ?_
        intro hcl23
        refine St.storen (R := []) rfl rfl 0 rfl rfl ta24 rfl rfl rfl trivial (cs' := #[.int .i64 4, .string (bs x14), .int .i64 0, .slice none 0 0]) rfl ?_
        refine StD.next hcl23 (fun h => by cases h) ?_
        refine StD.takeP (i := 7) (v := (.bool q19)) rfl (fun _ => Yields.assign rfl) rfl rfl trivial (by rintro _ _ _ ⟨_, _, _, _, h, _⟩; cases h) (by kernel_rfl) (listed' := #[true, true, true, true, true, true, true, true]) rfl ?_
        refine StD.done (by kernel_rfl) ?_
        refine St.norm ?_
        refine St.ret ?_
        refine St.inret ?_
        refine St.thenret ?_
        obtain rfl := sI hm
        exact St.doneR2 rfl (ResOk.cell rfl (Loads.Hk (vs := [.int .i64 4, .string (bs x14), .int .i64 0, .slice none 0 0]) 0 rfl ta24 rfl rfl)) rfl ⟨rfl, rfl⟩ (fun w hs => Among.of Among.none w hs)
      · intro q24
        replace q24 : ¬ (((x2.toNat : Nat) : Int) = 39) := of_decide_eq_false q24
        replace hm := iF hm q24
        refine St.seq ?_
        refine St.region ?_
        refine St.val (v := (.int .u8 ((x2.toNat : Nat) : Int))) (Yields.move rfl) trivial rfl rfl ?_
        refine St.val (v := (.bool (decide (((x2.toNat : Nat) : Int) = 95)))) (Yields.eq rfl rfl) trivial rfl rfl ?_
        refine St.val (v := (.bool (decide (((x2.toNat : Nat) : Int) = 95)))) (Yields.assign rfl) trivial rfl rfl ?_
        refine St.nil ?_
        refine St.norm ?_
        refine St.cond_b rfl ?_ ?_
        · intro q25
          replace q25 : ((x2.toNat : Nat) : Int) = 95 := of_decide_eq_true q25
          replace hm := iT hm q25
          refine St.seq ?_
          refine St.region ?_
          refine St.val (v := (.string (bs a0))) (Yields.move rfl) trivial rfl rfl ?_
          obtain ⟨x26, e27, hm⟩ := bS hm
          refine St.val (v := (.string (bs x26))) (Yields.subSD e27 tu9 rfl rfl) trivial rfl rfl ?_
          obtain ⟨q28, e29, hm⟩ := bS hm
          refine St.call [blk b1 (.cells #[.int .i64 0, .string (bs []), .int .i64 0, .slice none 0 0] 24 (0, 0))] (m_value_numeral_sp e29) rfl (fun _ ha => ev1 ha rfl) rfl en89 rfl rfl trivial ?_
          rintro _ F30 _ ⟨rfl, rfl⟩ l31
          refine St.val (v := (.tuple #[.int .i64 q28.1, .bool q28.2])) (Yields.move rfl) trivial rfl rfl ?_
          refine St.val (v := (.int .i64 q28.1)) (Yields.extract rfl rfl) trivial rfl rfl ?_
          refine St.val (v := (.bool q28.2)) (Yields.extract rfl rfl) trivial rfl rfl ?_
          refine St.val (v := (.int .i64 q28.1)) (Yields.assign rfl) trivial rfl rfl ?_
          refine St.val (v := (.bool q28.2)) (Yields.assign rfl) trivial rfl rfl ?_
          refine St.nil ?_
          refine St.norm ?_
          obtain ⟨z32, hm, hk33⟩ := bS hm
          refine St.cutI (fun a w => Has Try.f62.ntmps a [(2, .pointer (some ⟨b1, 0, none⟩)), (3, .bool z32)] ∧ Sat ⟨w0, fun b => m0 b ≠ none, F⟩ F30 [blk b1 (.cells #[.int .i64 3, .string (bs []), .int .i64 q28.1, .slice none 0 0] 24 (0, 0))] w) ?_ ?_
          · skip
            refine St.region ?_
            refine St.val (v := (.int .i64 q28.1)) (Yields.move rfl) trivial rfl rfl ?_
            refine St.val (v := (.agg #[.int .i64 3, .string (bs []), .int .i64 q28.1, .slice none 0 0])) (Yields.build (v := (.agg #[.int .i64 3, .string (bs []), .int .i64 q28.1, .slice none 0 0])) (vs := #[(0, .int .i64 3), (2, .int .i64 q28.1)]) (fun _ ha => evp2 ha rfl rfl) (fun _ => by kernel_rfl)) trivial rfl rfl ?_
            by_cases q34 : q28.2 = true
            · replace hm := iT hm q34
              have hb35 : (q28.2) = true := q34
              try rw [hb35]
              refine St.val (v := (.bool true)) (Yields.move rfl) trivial rfl rfl ?_
              refine St.val (v := (.bool true)) (Yields.move rfl) trivial rfl rfl ?_
              refine St.val (v := (.int .i64 q28.1)) (Yields.move rfl) rfl rfl rfl ?_
              refine St.val (v := (.bool (decide (q28.1 ≤ 300)))) (Yields.le rfl rfl) rfl rfl rfl ?_
              refine St.val (v := (.bool (decide (q28.1 ≤ 300)))) (Yields.pick_t rfl rfl) trivial rfl rfl ?_
              refine St.storen (R := []) rfl rfl 0 rfl rfl ta24 rfl rfl rfl trivial (cs' := #[.int .i64 3, .string (bs []), .int .i64 q28.1, .slice none 0 0]) rfl ?_
              refine St.val (v := (.bool (decide (q28.1 ≤ 300)))) (Yields.assign rfl) trivial rfl rfl ?_
              refine St.nil ?_
              obtain rfl := sI hm
              intro a w ha hs
              exact ⟨ha.covers ⟨rfl, rfl, trivial⟩, (Among.of (Among.take 0 rfl rfl Among.none) _ hs)⟩
            · replace hm := iF hm q34
              have hb36 : (q28.2) = false := eq_false_of_ne_true q34
              try rw [hb36]
              refine St.val (v := (.bool false)) (Yields.move rfl) trivial rfl rfl ?_
              refine St.val (v := (.bool false)) (Yields.move rfl) trivial rfl rfl ?_
              refine St.unwanted rfl rfl rfl ?_
              refine St.unwanted rfl rfl rfl ?_
              refine St.val (v := (.bool false)) (Yields.pick_f rfl rfl) trivial rfl rfl ?_
              refine St.storen (R := []) rfl rfl 0 rfl rfl ta24 rfl rfl rfl trivial (cs' := #[.int .i64 3, .string (bs []), .int .i64 q28.1, .slice none 0 0]) rfl ?_
              refine St.val (v := (.bool false)) (Yields.assign rfl) trivial rfl rfl ?_
              refine St.nil ?_
              obtain rfl := sI hm
              intro a w ha hs
              exact ⟨ha.covers ⟨rfl, rfl, trivial⟩, (Among.of (Among.take 0 rfl rfl Among.none) _ hs)⟩
          · rintro a w ⟨ha, hs⟩
            replace hm := hk33
            refine St.use (?_ : St _ _ _ _ _ _) ha hs
            clear ha hs a w
            refine St.ret ?_
            refine St.inret ?_
            refine St.thenret ?_
            obtain rfl := sI hm
            exact St.doneR2 rfl (ResOk.cell rfl (Loads.Hk (vs := [.int .i64 3, .string (bs []), .int .i64 q28.1, .slice none 0 0]) 0 rfl ta24 rfl rfl)) rfl ⟨rfl, rfl⟩ (fun w hs => Among.of Among.none w hs)
        · intro q37
          replace q37 : ¬ (((x2.toNat : Nat) : Int) = 95) := of_decide_eq_false q37
          replace hm := iF hm q37
          refine St.seq ?_
          refine St.region ?_
          refine St.val (v := (.int .u8 ((x2.toNat : Nat) : Int))) (Yields.move rfl) trivial rfl rfl ?_
          refine St.val (v := (.bool (decide (((x2.toNat : Nat) : Int) = 45)))) (Yields.eq rfl rfl) trivial rfl rfl ?_
          refine St.val (v := (.bool (decide (((x2.toNat : Nat) : Int) = 45)))) (Yields.assign rfl) trivial rfl rfl ?_
          refine St.nil ?_
          refine St.norm ?_
          refine St.cond_b rfl ?_ ?_
          · intro q38
            replace q38 : ((x2.toNat : Nat) : Int) = 45 := of_decide_eq_true q38
            replace hm := iT hm q38
            refine St.seq ?_
            refine St.region ?_
            refine St.val (v := (.string (bs a0))) (Yields.move rfl) trivial rfl rfl ?_
            obtain ⟨x39, e40, hm⟩ := bS hm
            refine St.val (v := (.string (bs x39))) (Yields.subSD e40 tu9 rfl rfl) trivial rfl rfl ?_
            obtain ⟨q41, e42, hm⟩ := bS hm
            refine St.call [blk b1 (.cells #[.int .i64 0, .string (bs []), .int .i64 0, .slice none 0 0] 24 (0, 0))] (m_value_numeral_sp e42) rfl (fun _ ha => ev1 ha rfl) rfl en89 rfl rfl trivial ?_
            rintro _ F43 _ ⟨rfl, rfl⟩ l44
            refine St.val (v := (.tuple #[.int .i64 q41.1, .bool q41.2])) (Yields.move rfl) trivial rfl rfl ?_
            refine St.val (v := (.int .i64 q41.1)) (Yields.extract rfl rfl) trivial rfl rfl ?_
            refine St.val (v := (.bool q41.2)) (Yields.extract rfl rfl) trivial rfl rfl ?_
            refine St.val (v := (.int .i64 q41.1)) (Yields.assign rfl) trivial rfl rfl ?_
            refine St.val (v := (.bool q41.2)) (Yields.assign rfl) trivial rfl rfl ?_
            refine St.nil ?_
            refine St.norm ?_
            obtain ⟨z45, hm, hk46⟩ := bS hm
            refine St.cutI (fun a w => Has Try.f62.ntmps a [(2, .pointer (some ⟨b1, 0, none⟩)), (3, .bool z45)] ∧ Sat ⟨w0, fun b => m0 b ≠ none, F⟩ F43 [blk b1 (.cells #[.int .i64 2, .string (bs []), .int .i64 (Mir.w64 (-q41.1)), .slice none 0 0] 24 (0, 0))] w) ?_ ?_
            · skip
              refine St.region ?_
              refine St.val (v := (.int .i64 q41.1)) (Yields.move rfl) trivial rfl rfl ?_
              refine St.val (v := (.int .i64 (Mir.w64 (-q41.1)))) (Yields.neg rfl) trivial rfl rfl ?_
              refine St.val (v := (.agg #[.int .i64 2, .string (bs []), .int .i64 (Mir.w64 (-q41.1)), .slice none 0 0])) (Yields.build (v := (.agg #[.int .i64 2, .string (bs []), .int .i64 (Mir.w64 (-q41.1)), .slice none 0 0])) (vs := #[(0, .int .i64 2), (2, .int .i64 (Mir.w64 (-q41.1)))]) (fun _ ha => evp2 ha rfl rfl) (fun _ => by kernel_rfl)) trivial rfl rfl ?_
              by_cases q47 : q41.2 = true
              · replace hm := iT hm q47
                have hb48 : (q41.2) = true := q47
                try rw [hb48]
                refine St.val (v := (.bool true)) (Yields.move rfl) trivial rfl rfl ?_
                refine St.val (v := (.bool true)) (Yields.move rfl) trivial rfl rfl ?_
                refine St.val (v := (.int .i64 q41.1)) (Yields.move rfl) rfl rfl rfl ?_
                by_cases q49 : q41.1 > 0
                · replace hm := iT hm q49
                  refine St.val (v := (.bool true)) (Yields.is q49 (Yields.gt rfl rfl)) rfl rfl rfl ?_
                  refine St.val (v := (.bool true)) (Yields.pick_t rfl rfl) trivial rfl rfl ?_
                  refine St.val (v := (.bool true)) (Yields.move rfl) trivial rfl rfl ?_
                  refine St.val (v := (.int .i64 q41.1)) (Yields.move rfl) rfl rfl rfl ?_
                  refine St.val (v := (.bool (decide (q41.1 ≤ 1000000000)))) (Yields.le rfl rfl) rfl rfl rfl ?_
                  refine St.val (v := (.bool (decide (q41.1 ≤ 1000000000)))) (Yields.pick_t rfl rfl) trivial rfl rfl ?_
                  refine St.storen (R := []) rfl rfl 0 rfl rfl ta24 rfl rfl rfl trivial (cs' := #[.int .i64 2, .string (bs []), .int .i64 (Mir.w64 (-q41.1)), .slice none 0 0]) rfl ?_
                  refine St.val (v := (.bool (decide (q41.1 ≤ 1000000000)))) (Yields.assign rfl) trivial rfl rfl ?_
                  refine St.nil ?_
                  obtain rfl := sI hm
                  intro a w ha hs
                  exact ⟨ha.covers ⟨rfl, rfl, trivial⟩, (Among.of (Among.take 0 rfl rfl Among.none) _ hs)⟩
                · replace hm := iF hm q49
                  refine St.val (v := (.bool false)) (Yields.isnt q49 (Yields.gt rfl rfl)) rfl rfl rfl ?_
                  refine St.val (v := (.bool false)) (Yields.pick_t rfl rfl) trivial rfl rfl ?_
                  refine St.val (v := (.bool false)) (Yields.move rfl) trivial rfl rfl ?_
                  refine St.unwanted rfl rfl rfl ?_
                  refine St.unwanted rfl rfl rfl ?_
                  refine St.val (v := (.bool false)) (Yields.pick_f rfl rfl) trivial rfl rfl ?_
                  refine St.storen (R := []) rfl rfl 0 rfl rfl ta24 rfl rfl rfl trivial (cs' := #[.int .i64 2, .string (bs []), .int .i64 (Mir.w64 (-q41.1)), .slice none 0 0]) rfl ?_
                  refine St.val (v := (.bool false)) (Yields.assign rfl) trivial rfl rfl ?_
                  refine St.nil ?_
                  obtain rfl := sI hm
                  intro a w ha hs
                  exact ⟨ha.covers ⟨rfl, rfl, trivial⟩, (Among.of (Among.take 0 rfl rfl Among.none) _ hs)⟩
              · replace hm := iF hm q47
                have hb50 : (q41.2) = false := eq_false_of_ne_true q47
                try rw [hb50]
                refine St.val (v := (.bool false)) (Yields.move rfl) trivial rfl rfl ?_
                refine St.val (v := (.bool false)) (Yields.move rfl) trivial rfl rfl ?_
                refine St.unwanted rfl rfl rfl ?_
                refine St.unwanted rfl rfl rfl ?_
                refine St.val (v := (.bool false)) (Yields.pick_f rfl rfl) trivial rfl rfl ?_
                refine St.val (v := (.bool false)) (Yields.move rfl) trivial rfl rfl ?_
                refine St.unwanted rfl rfl rfl ?_
                refine St.unwanted rfl rfl rfl ?_
                refine St.val (v := (.bool false)) (Yields.pick_f rfl rfl) trivial rfl rfl ?_
                refine St.storen (R := []) rfl rfl 0 rfl rfl ta24 rfl rfl rfl trivial (cs' := #[.int .i64 2, .string (bs []), .int .i64 (Mir.w64 (-q41.1)), .slice none 0 0]) rfl ?_
                refine St.val (v := (.bool false)) (Yields.assign rfl) trivial rfl rfl ?_
                refine St.nil ?_
                obtain rfl := sI hm
                intro a w ha hs
                exact ⟨ha.covers ⟨rfl, rfl, trivial⟩, (Among.of (Among.take 0 rfl rfl Among.none) _ hs)⟩
            · rintro a w ⟨ha, hs⟩
              replace hm := hk46
              refine St.use (?_ : St _ _ _ _ _ _) ha hs
              clear ha hs a w
              refine St.ret ?_
              refine St.inret ?_
              refine St.thenret ?_
              obtain rfl := sI hm
              exact St.doneR2 rfl (ResOk.cell rfl (Loads.Hk (vs := [.int .i64 2, .string (bs []), .int .i64 (Mir.w64 (-q41.1)), .slice none 0 0]) 0 rfl ta24 rfl rfl)) rfl ⟨rfl, rfl⟩ (fun w hs => Among.of Among.none w hs)
          · intro q51
            replace q51 : ¬ (((x2.toNat : Nat) : Int) = 45) := of_decide_eq_false q51
            replace hm := iF hm q51
            refine St.skip ?_
            refine St.innorm ?_
            refine St.norm ?_
            refine St.seq ?_
            refine St.region ?_
            refine St.val (v := (.string (bs a0))) (Yields.move rfl) trivial rfl rfl ?_
            obtain ⟨q52, e53, hm⟩ := bS hm
            refine St.call [blk b1 (.cells #[.int .i64 0, .string (bs []), .int .i64 0, .slice none 0 0] 24 (0, 0))] (m_value_numeral_sp e53) rfl (fun _ ha => ev1 ha rfl) rfl en89 rfl rfl trivial ?_
            rintro _ F54 _ ⟨rfl, rfl⟩ l55
            refine St.val (v := (.tuple #[.int .i64 q52.1, .bool q52.2])) (Yields.move rfl) trivial rfl rfl ?_
            refine St.val (v := (.int .i64 q52.1)) (Yields.extract rfl rfl) trivial rfl rfl ?_
            refine St.val (v := (.bool q52.2)) (Yields.extract rfl rfl) trivial rfl rfl ?_
            refine St.val (v := (.int .i64 q52.1)) (Yields.assign rfl) trivial rfl rfl ?_
            refine St.val (v := (.bool q52.2)) (Yields.assign rfl) trivial rfl rfl ?_
            refine St.nil ?_
            refine St.norm ?_
            obtain ⟨z56, hm, hk57⟩ := bS hm
            refine St.cutI (fun a w => Has Try.f62.ntmps a [(2, .pointer (some ⟨b1, 0, none⟩)), (3, .bool z56)] ∧ Sat ⟨w0, fun b => m0 b ≠ none, F⟩ F54 [blk b1 (.cells #[.int .i64 2, .string (bs []), .int .i64 q52.1, .slice none 0 0] 24 (0, 0))] w) ?_ ?_
            · skip
              refine St.region ?_
              refine St.val (v := (.int .i64 q52.1)) (Yields.move rfl) trivial rfl rfl ?_
              refine St.val (v := (.agg #[.int .i64 2, .string (bs []), .int .i64 q52.1, .slice none 0 0])) (Yields.build (v := (.agg #[.int .i64 2, .string (bs []), .int .i64 q52.1, .slice none 0 0])) (vs := #[(0, .int .i64 2), (2, .int .i64 q52.1)]) (fun _ ha => evp2 ha rfl rfl) (fun _ => by kernel_rfl)) trivial rfl rfl ?_
              by_cases q58 : q52.2 = true
              · replace hm := iT hm q58
                have hb59 : (q52.2) = true := q58
                try rw [hb59]
                refine St.val (v := (.bool true)) (Yields.move rfl) trivial rfl rfl ?_
                refine St.val (v := (.bool true)) (Yields.move rfl) trivial rfl rfl ?_
                refine St.val (v := (.int .i64 q52.1)) (Yields.move rfl) rfl rfl rfl ?_
                refine St.val (v := (.bool (decide (q52.1 ≤ 1000000000)))) (Yields.le rfl rfl) rfl rfl rfl ?_
                refine St.val (v := (.bool (decide (q52.1 ≤ 1000000000)))) (Yields.pick_t rfl rfl) trivial rfl rfl ?_
                refine St.storen (R := []) rfl rfl 0 rfl rfl ta24 rfl rfl rfl trivial (cs' := #[.int .i64 2, .string (bs []), .int .i64 q52.1, .slice none 0 0]) rfl ?_
                refine St.val (v := (.bool (decide (q52.1 ≤ 1000000000)))) (Yields.assign rfl) trivial rfl rfl ?_
                refine St.nil ?_
                obtain rfl := sI hm
                intro a w ha hs
                exact ⟨ha.covers ⟨rfl, rfl, trivial⟩, (Among.of (Among.take 0 rfl rfl Among.none) _ hs)⟩
              · replace hm := iF hm q58
                have hb60 : (q52.2) = false := eq_false_of_ne_true q58
                try rw [hb60]
                refine St.val (v := (.bool false)) (Yields.move rfl) trivial rfl rfl ?_
                refine St.val (v := (.bool false)) (Yields.move rfl) trivial rfl rfl ?_
                refine St.unwanted rfl rfl rfl ?_
                refine St.unwanted rfl rfl rfl ?_
                refine St.val (v := (.bool false)) (Yields.pick_f rfl rfl) trivial rfl rfl ?_
                refine St.storen (R := []) rfl rfl 0 rfl rfl ta24 rfl rfl rfl trivial (cs' := #[.int .i64 2, .string (bs []), .int .i64 q52.1, .slice none 0 0]) rfl ?_
                refine St.val (v := (.bool false)) (Yields.assign rfl) trivial rfl rfl ?_
                refine St.nil ?_
                obtain rfl := sI hm
                intro a w ha hs
                exact ⟨ha.covers ⟨rfl, rfl, trivial⟩, (Among.of (Among.take 0 rfl rfl Among.none) _ hs)⟩
            · rintro a w ⟨ha, hs⟩
              replace hm := hk57
              refine St.use (?_ : St _ _ _ _ _ _) ha hs
              clear ha hs a w
              refine St.ret ?_
              obtain rfl := sI hm
              exact St.doneR2 rfl (ResOk.cell rfl (Loads.Hk (vs := [.int .i64 2, .string (bs []), .int .i64 q52.1, .slice none 0 0]) 0 rfl ta24 rfl rfl)) rfl ⟨rfl, rfl⟩ (fun w hs => Among.of Among.none w hs)

theorem m_value_isAtom_sp {F : PH} {g : Nat} {a0 : List UInt8} {r : Bool} (hm : m_value_isAtom g a0 = some r) :
    CallSp Try.prog 60 #[.string (bs a0)] F [] (fun u F' H' => u = (.bool r) ∧ H' = []) := by
  unfold m_value_isAtom at hm
  refine CallSp.enter (args := [.string (bs a0)]) Try.func60 rfl rfl ?_
  intro w0 m0 hm0
  refine St.seq ?_
  refine St.region ?_
  refine St.val (v := (.bool false)) (Yields.assign rfl) trivial rfl rfl ?_
  refine St.nil ?_
  refine St.norm ?_
  refine St.seq ?_
  refine St.region ?_
  refine St.val (v := (.string (bs a0))) (Yields.move rfl) trivial rfl rfl ?_
  obtain ⟨q1, e2, hm⟩ := bS hm
  refine St.call [] (m_value_atom_sp e2) rfl (fun _ ha => ev1 ha rfl) rfl en62 rfl rfl trivial ?_
  rintro _ F3 _ ⟨rfl, rfl⟩ l4
  refine St.val (v := (.tuple #[.agg #[.int .i64 q1.1, .string (bs q1.2.1), .int .i64 q1.2.2.1, .slice none 0 0], .bool q1.2.2.2])) (Yields.move rfl) trivial rfl rfl ?_
  refine St.val (v := (.agg #[.int .i64 q1.1, .string (bs q1.2.1), .int .i64 q1.2.2.1, .slice none 0 0])) (Yields.extract rfl rfl) trivial rfl rfl ?_
  refine St.val (v := (.bool q1.2.2.2)) (Yields.extract rfl rfl) trivial rfl rfl ?_
  refine St.alloc tz24 trivial rfl ?_
  intro b5
  refine St.storen (R := []) rfl rfl 0 rfl rfl ta24 rfl rfl rfl trivial (cs' := #[.int .i64 q1.1, .string (bs q1.2.1), .int .i64 q1.2.2.1, .slice none 0 0]) rfl ?_
  refine St.val (v := (.bool q1.2.2.2)) (Yields.assign rfl) trivial rfl rfl ?_
  refine St.nil ?_
  refine St.norm ?_
  refine St.seq ?_
  refine St.region ?_
  refine St.val (v := (.bool q1.2.2.2)) (Yields.move rfl) trivial rfl rfl ?_
  refine St.val (v := (.bool q1.2.2.2)) (Yields.assign rfl) trivial rfl rfl ?_
  refine St.nil ?_
  refine St.norm ?_
  refine St.ret ?_
  obtain rfl := sI hm
  exact St.doneR1 rfl rfl ⟨rfl, rfl⟩ (fun w hs => Among.of Among.none w hs)

theorem m_value_reader_fail_sp {F : PH} {g : Nat} {a0 : Int} {a1 : List UInt8} {a2 : Int} {a3 : Int} {pbl0 : Nat} {r : Int} (hm : m_value_reader_fail g a0 a1 a2 a3 = some r) :
    CallSp Try.prog 29 #[.pointer (some ⟨pbl0, 0, none⟩), .int .i64 a0] F [blk pbl0 (.cells #[.string (bs a1), .int .i64 a2, .int .i64 a3] 50 (0, 0))] (fun u F' H' => u = (.tuple #[]) ∧ H' = [blk pbl0 (.cells #[.string (bs a1), .int .i64 a2, .int .i64 r] 50 (0, 0))]) := by
  unfold m_value_reader_fail at hm
  refine CallSp.enter (args := [.pointer (some ⟨pbl0, 0, none⟩), .int .i64 a0]) Try.func29 rfl rfl ?_
  intro w0 m0 hm0
  refine St.seq ?_
  refine St.region ?_
  refine St.val (v := (.pointer (some ⟨pbl0, 0, none⟩))) (Yields.move rfl) trivial rfl rfl ?_
  refine St.val (v := (.pointer (some ⟨pbl0, 0, none⟩))) (Yields.nilCheck rfl) trivial rfl rfl ?_
  refine St.val (v := (.pointer (some ⟨pbl0, 2, none⟩))) (Yields.fieldAddr (v := (.pointer (some ⟨pbl0, 2, none⟩))) rfl (fun _ => by kernel_rfl)) trivial rfl rfl ?_
  refine St.val (v := (.int .i64 a3)) (Yields.load rfl (Loads.H1 0 rfl tc3 rfl)) trivial rfl rfl ?_
  refine St.val (v := (.bool (decide (a3 < 0)))) (Yields.lt rfl rfl) trivial rfl rfl ?_
  refine St.nil ?_
  refine St.norm ?_
  refine St.cond_b rfl ?_ ?_
  · intro q1
    replace q1 : a3 < 0 := of_decide_eq_true q1
    replace hm := iT hm q1
    refine St.region ?_
    refine St.val (v := (.pointer (some ⟨pbl0, 0, none⟩))) (Yields.move rfl) trivial rfl rfl ?_
    refine St.val (v := (.int .i64 a0)) (Yields.move rfl) trivial rfl rfl ?_
    refine St.val (v := (.pointer (some ⟨pbl0, 0, none⟩))) (Yields.nilCheck rfl) trivial rfl rfl ?_
    refine St.val (v := (.pointer (some ⟨pbl0, 2, none⟩))) (Yields.fieldAddr (v := (.pointer (some ⟨pbl0, 2, none⟩))) rfl (fun _ => by kernel_rfl)) trivial rfl rfl ?_
    refine St.store (R := []) rfl rfl 0 rfl rfl tc3 rfl rfl trivial (cs' := #[.string (bs a1), .int .i64 a2, .int .i64 a0]) rfl ?_
    refine St.nil ?_
    obtain rfl := sI hm
    exact St.endR0 rfl ⟨rfl, rfl⟩ (fun w hs => Among.of (Among.take 0 rfl rfl Among.none) w hs)
  · intro q2
    replace q2 : ¬ (a3 < 0) := of_decide_eq_false q2
    replace hm := iF hm q2
    refine St.skip ?_
    obtain rfl := sI hm
    exact St.endR0 rfl ⟨rfl, rfl⟩ (fun w hs => Among.of (Among.take 0 rfl rfl Among.none) w hs)

abbrev m_value_reader_group_S (g : Nat) : Prop := ∀ {F : PH} {a0 : Int} {a1 : List UInt8} {a2 : Int} {a3 : Int} {pbl0 : Nat} {r : DValue × Int × Int} (_ : m_value_reader_group g a0 a1 a2 a3 = some r),
    CallSp Try.prog 61 #[.pointer (some ⟨pbl0, 0, none⟩), .int .i64 a0] F [blk pbl0 (.cells #[.string (bs a1), .int .i64 a2, .int .i64 a3] 50 (0, 0))] (fun u F' H' => ∃ (B0_0 : Option Addr) (d0_0 : Nat), u = (.agg #[.int .i64 r.1.Op, .string (bs r.1.Name), .int .i64 r.1.N, .slice B0_0 r.1.Kids.length d0_0]) ∧ Fsl 56 KDValue F' B0_0 d0_0 r.1.Kids ∧ H' = [blk pbl0 (.cells #[.string (bs a1), .int .i64 r.2.1, .int .i64 r.2.2] 50 (0, 0))])
abbrev m_value_reader_any_S (g : Nat) : Prop := ∀ {F : PH} {a0 : Int} {a1 : List UInt8} {a2 : Int} {a3 : Int} {pbl0 : Nat} {r : DValue × Int × Int} (_ : m_value_reader_any g a0 a1 a2 a3 = some r),
    CallSp Try.prog 27 #[.pointer (some ⟨pbl0, 0, none⟩), .int .i64 a0] F [blk pbl0 (.cells #[.string (bs a1), .int .i64 a2, .int .i64 a3] 50 (0, 0))] (fun u F' H' => ∃ (B0_0 : Option Addr) (d0_0 : Nat), u = (.agg #[.int .i64 r.1.Op, .string (bs r.1.Name), .int .i64 r.1.N, .slice B0_0 r.1.Kids.length d0_0]) ∧ Fsl 56 KDValue F' B0_0 d0_0 r.1.Kids ∧ H' = [blk pbl0 (.cells #[.string (bs a1), .int .i64 r.2.1, .int .i64 r.2.2] 50 (0, 0))])
theorem m_value_reader_group_st {g : Nat} (ih_m_value_reader_group : m_value_reader_group_S g) (ih_m_value_reader_any : m_value_reader_any_S g) : m_value_reader_group_S (g + 1) := by
  intro F a0 a1 a2 a3 pbl0 r hm
  rw [m_value_reader_group] at hm
  refine CallSp.enter (args := [.pointer (some ⟨pbl0, 0, none⟩), .int .i64 a0]) Try.func61 rfl rfl ?_
  intro w0 m0 hm0
  refine St.seq ?_
  refine St.region ?_
  refine St.alloc tz24 trivial rfl ?_
  intro b1
  refine St.nil ?_
  refine St.norm ?_
  refine St.seq ?_
  refine St.region ?_
  refine St.val (v := (.pointer (some ⟨pbl0, 0, none⟩))) (Yields.move rfl) trivial rfl rfl ?_
  refine St.pick (R := [blk b1 (.cells #[.int .i64 0, .string (bs []), .int .i64 0, .slice none 0 0] 24 (0, 0))]) 1 rfl rfl ?_
  obtain ⟨q2, e3, hm⟩ := bS hm
  refine St.call [blk b1 (.cells #[.int .i64 0, .string (bs []), .int .i64 0, .slice none 0 0] 24 (0, 0))] (m_value_reader_token_sp e3) rfl (fun _ ha => ev1 ha rfl) rfl en28 rfl rfl trivial ?_
  rintro _ F4 _ ⟨rfl, rfl⟩ l5
  refine St.val (v := (.tuple #[.string (bs q2.1), .int .i64 q2.2])) (Yields.move rfl) trivial rfl rfl ?_
  refine St.val (v := (.string (bs q2.1))) (Yields.extract rfl rfl) trivial rfl rfl ?_
  refine St.val (v := (.int .i64 q2.2)) (Yields.extract rfl rfl) trivial rfl rfl ?_
  refine St.val (v := (.string (bs q2.1))) (Yields.assign rfl) trivial rfl rfl ?_
  refine St.val (v := (.int .i64 q2.2)) (Yields.assign rfl) trivial rfl rfl ?_
  refine St.nil ?_
  refine St.norm ?_
  refine St.seq ?_
  refine St.region ?_
  refine St.val (v := (.pointer (some ⟨pbl0, 0, none⟩))) (Yields.move rfl) trivial rfl rfl ?_
  refine St.val (v := (.int .i64 q2.2)) (Yields.move rfl) trivial rfl rfl ?_
  refine St.val (v := (.int .i64 (Mir.w64 (q2.2 + 1)))) (Yields.addw rfl rfl) trivial rfl rfl ?_
  refine St.val (v := (.pointer (some ⟨pbl0, 0, none⟩))) (Yields.nilCheck rfl) trivial rfl rfl ?_
  refine St.val (v := (.pointer (some ⟨pbl0, 1, none⟩))) (Yields.fieldAddr (v := (.pointer (some ⟨pbl0, 1, none⟩))) rfl (fun _ => by kernel_rfl)) trivial rfl rfl ?_
  refine St.store (R := [blk b1 (.cells #[.int .i64 0, .string (bs []), .int .i64 0, .slice none 0 0] 24 (0, 0))]) rfl rfl 0 rfl rfl tc3 rfl rfl trivial (cs' := #[.string (bs a1), .int .i64 (Mir.w64 (q2.2 + 1)), .int .i64 a3]) rfl ?_
  refine St.nil ?_
  refine St.norm ?_
  refine St.seq ?_
  refine St.region ?_
  refine St.val (v := (.pointer (some ⟨pbl0, 0, none⟩))) (Yields.move rfl) trivial rfl rfl ?_
  refine St.val (v := (.int .i64 a0)) (Yields.move rfl) trivial rfl rfl ?_
  refine St.pick (R := [blk b1 (.cells #[.int .i64 0, .string (bs []), .int .i64 0, .slice none 0 0] 24 (0, 0))]) 0 rfl rfl ?_
  obtain ⟨q6, e7, hm⟩ := bS hm
  refine St.call [blk b1 (.cells #[.int .i64 0, .string (bs []), .int .i64 0, .slice none 0 0] 24 (0, 0))] (ih_m_value_reader_any e7) rfl (fun _ ha => ev2 ha rfl rfl) rfl en27 rfl rfl trivial ?_
  rintro _ F8 _ ⟨A10, c11, rfl, h12, rfl⟩ l9
  refine St.alloc tz24 trivial rfl ?_
  intro b14
  refine St.storen (R := [blk pbl0 (.cells #[.string (bs a1), .int .i64 q6.2.1, .int .i64 q6.2.2] 50 (0, 0)), blk b1 (.cells #[.int .i64 0, .string (bs []), .int .i64 0, .slice none 0 0] 24 (0, 0))]) rfl rfl 0 rfl rfl ta24 rfl rfl rfl trivial (cs' := #[.int .i64 q6.1.Op, .string (bs q6.1.Name), .int .i64 q6.1.N, .slice A10 q6.1.Kids.length c11]) rfl ?_
  refine St.nil ?_
  refine St.norm ?_
  refine St.seq ?_
  refine St.seq ?_
  refine St.region ?_
  refine St.val (v := (.pointer (some ⟨pbl0, 0, none⟩))) (Yields.move rfl) trivial rfl rfl ?_
  refine St.val (v := (.pointer (some ⟨pbl0, 0, none⟩))) (Yields.nilCheck rfl) trivial rfl rfl ?_
  refine St.val (v := (.pointer (some ⟨pbl0, 2, none⟩))) (Yields.fieldAddr (v := (.pointer (some ⟨pbl0, 2, none⟩))) rfl (fun _ => by kernel_rfl)) trivial rfl rfl ?_
  refine St.val (v := (.int .i64 q6.2.2)) (Yields.load rfl (Loads.H1 1 rfl tc3 rfl)) trivial rfl rfl ?_
  refine St.val (v := (.bool (decide (q6.2.2 ≥ 0)))) (Yields.ge rfl rfl) trivial rfl rfl ?_
  refine St.nil ?_
  refine St.norm ?_
  refine St.cond_b rfl ?_ ?_
  · intro q15
    replace q15 : q6.2.2 ≥ 0 := of_decide_eq_true q15
    replace hm := iT hm q15
    refine St.seq ?_
    refine St.region ?_
    refine St.val (v := (.agg #[.int .i64 q6.1.Op, .string (bs q6.1.Name), .int .i64 q6.1.N, .slice A10 q6.1.Kids.length c11])) (Yields.load rfl (Loads.Hk (vs := [.int .i64 q6.1.Op, .string (bs q6.1.Name), .int .i64 q6.1.N, .slice A10 q6.1.Kids.length c11]) 0 rfl ta24 rfl rfl)) trivial rfl rfl ?_
    refine St.storen (R := [blk b14 (.cells #[.int .i64 q6.1.Op, .string (bs q6.1.Name), .int .i64 q6.1.N, .slice A10 q6.1.Kids.length c11] 24 (0, 0)), blk pbl0 (.cells #[.string (bs a1), .int .i64 q6.2.1, .int .i64 q6.2.2] 50 (0, 0))]) rfl rfl 2 rfl rfl ta24 rfl rfl rfl trivial (cs' := #[.int .i64 q6.1.Op, .string (bs q6.1.Name), .int .i64 q6.1.N, .slice A10 q6.1.Kids.length c11]) rfl ?_
    refine St.nil ?_
    refine St.norm ?_
    refine St.ret ?_
    refine St.thenret ?_
    obtain rfl := sI hm
    exact St.doneR1 rfl (ResOk.cell rfl (Loads.Hk (vs := [.int .i64 q6.1.Op, .string (bs q6.1.Name), .int .i64 q6.1.N, .slice A10 q6.1.Kids.length c11]) 0 rfl ta24 rfl rfl)) ⟨A10, c11, rfl, h12, rfl⟩ (fun w hs => Among.of (Among.take 2 rfl rfl Among.none) w hs)
  · intro q16
    replace q16 : ¬ (q6.2.2 ≥ 0) := of_decide_eq_false q16
    replace hm := iF hm q16
    refine St.skip ?_
    refine St.norm ?_
    refine St.seq ?_
    refine St.region ?_
    refine St.val (v := (.pointer (some ⟨pbl0, 0, none⟩))) (Yields.move rfl) trivial rfl rfl ?_
    refine St.pick (R := [blk b14 (.cells #[.int .i64 q6.1.Op, .string (bs q6.1.Name), .int .i64 q6.1.N, .slice A10 q6.1.Kids.length c11] 24 (0, 0)), blk b1 (.cells #[.int .i64 0, .string (bs []), .int .i64 0, .slice none 0 0] 24 (0, 0))]) 1 rfl rfl ?_
    obtain ⟨q17, e18, hm⟩ := bS hm
    refine St.call [blk b14 (.cells #[.int .i64 q6.1.Op, .string (bs q6.1.Name), .int .i64 q6.1.N, .slice A10 q6.1.Kids.length c11] 24 (0, 0)), blk b1 (.cells #[.int .i64 0, .string (bs []), .int .i64 0, .slice none 0 0] 24 (0, 0))] (m_value_reader_token_sp e18) rfl (fun _ ha => ev1 ha rfl) rfl en28 rfl rfl trivial ?_
    rintro _ F19 _ ⟨rfl, rfl⟩ l20
    refine St.val (v := (.tuple #[.string (bs q17.1), .int .i64 q17.2])) (Yields.move rfl) trivial rfl rfl ?_
    refine St.val (v := (.string (bs q17.1))) (Yields.extract rfl rfl) trivial rfl rfl ?_
    refine St.val (v := (.int .i64 q17.2)) (Yields.extract rfl rfl) trivial rfl rfl ?_
    refine St.val (v := (.string (bs q17.1))) (Yields.assign rfl) trivial rfl rfl ?_
    refine St.val (v := (.int .i64 q17.2)) (Yields.assign rfl) trivial rfl rfl ?_
    refine St.nil ?_
    refine St.norm ?_
    refine St.seq ?_
    refine St.seq ?_
    refine St.region ?_
    refine St.val (v := (.string (bs q17.1))) (Yields.move rfl) trivial rfl rfl ?_
    refine St.val (v := (.bool (!decide (q17.1 = ([41] : List UInt8))))) (Yields.neStr rfl rfl) trivial rfl rfl ?_
    refine St.nil ?_
    refine St.norm ?_
    refine St.cond_b rfl ?_ ?_
    · intro q21
      replace q21 : ¬ (q17.1 = ([41] : List UInt8)) := nd_t q21
      replace hm := iF hm q21
      refine St.seq ?_
      refine St.region ?_
      refine St.val (v := (.pointer (some ⟨pbl0, 0, none⟩))) (Yields.move rfl) trivial rfl rfl ?_
      refine St.val (v := (.int .i64 q17.2)) (Yields.move rfl) trivial rfl rfl ?_
      refine St.pick (R := [blk b14 (.cells #[.int .i64 q6.1.Op, .string (bs q6.1.Name), .int .i64 q6.1.N, .slice A10 q6.1.Kids.length c11] 24 (0, 0)), blk b1 (.cells #[.int .i64 0, .string (bs []), .int .i64 0, .slice none 0 0] 24 (0, 0))]) 0 rfl rfl ?_
      obtain ⟨q22, e23, hm⟩ := bS hm
      refine St.call [blk b14 (.cells #[.int .i64 q6.1.Op, .string (bs q6.1.Name), .int .i64 q6.1.N, .slice A10 q6.1.Kids.length c11] 24 (0, 0)), blk b1 (.cells #[.int .i64 0, .string (bs []), .int .i64 0, .slice none 0 0] 24 (0, 0))] (m_value_reader_fail_sp e23) rfl (fun _ ha => ev2 ha rfl rfl) rfl en29 rfl rfl trivial ?_
      rintro _ F24 _ ⟨rfl, rfl⟩ l25
      refine St.nil ?_
      refine St.norm ?_
      refine St.seq ?_
      refine St.region ?_
      refine St.val (v := (.agg #[.int .i64 q6.1.Op, .string (bs q6.1.Name), .int .i64 q6.1.N, .slice A10 q6.1.Kids.length c11])) (Yields.load rfl (Loads.Hk (vs := [.int .i64 q6.1.Op, .string (bs q6.1.Name), .int .i64 q6.1.N, .slice A10 q6.1.Kids.length c11]) 1 rfl ta24 rfl rfl)) trivial rfl rfl ?_
      refine St.storen (R := [blk pbl0 (.cells #[.string (bs a1), .int .i64 q6.2.1, .int .i64 q22] 50 (0, 0)), blk b14 (.cells #[.int .i64 q6.1.Op, .string (bs q6.1.Name), .int .i64 q6.1.N, .slice A10 q6.1.Kids.length c11] 24 (0, 0))]) rfl rfl 2 rfl rfl ta24 rfl rfl rfl trivial (cs' := #[.int .i64 q6.1.Op, .string (bs q6.1.Name), .int .i64 q6.1.N, .slice A10 q6.1.Kids.length c11]) rfl ?_
      refine St.nil ?_
      refine St.norm ?_
      refine St.ret ?_
      refine St.thenret ?_
      obtain rfl := sI hm
      exact St.doneR1 rfl (ResOk.cell rfl (Loads.Hk (vs := [.int .i64 q6.1.Op, .string (bs q6.1.Name), .int .i64 q6.1.N, .slice A10 q6.1.Kids.length c11]) 0 rfl ta24 rfl rfl)) ⟨A10, c11, rfl, (Fsl.mono (PH.le_trans l20 l25) h12), rfl⟩ (fun w hs => Among.of (Among.take 1 rfl rfl Among.none) w hs)
    · intro q26
      replace q26 : q17.1 = ([41] : List UInt8) := nd_f q26
      replace hm := iT hm q26
      refine St.skip ?_
      refine St.norm ?_
      refine St.seq ?_
      refine St.region ?_
      refine St.val (v := (.pointer (some ⟨pbl0, 0, none⟩))) (Yields.move rfl) trivial rfl rfl ?_
      refine St.val (v := (.int .i64 q17.2)) (Yields.move rfl) trivial rfl rfl ?_
      refine St.val (v := (.int .i64 (Mir.w64 (q17.2 + 1)))) (Yields.addw rfl rfl) trivial rfl rfl ?_
      refine St.val (v := (.pointer (some ⟨pbl0, 0, none⟩))) (Yields.nilCheck rfl) trivial rfl rfl ?_
      refine St.val (v := (.pointer (some ⟨pbl0, 1, none⟩))) (Yields.fieldAddr (v := (.pointer (some ⟨pbl0, 1, none⟩))) rfl (fun _ => by kernel_rfl)) trivial rfl rfl ?_
      refine St.store (R := [blk b14 (.cells #[.int .i64 q6.1.Op, .string (bs q6.1.Name), .int .i64 q6.1.N, .slice A10 q6.1.Kids.length c11] 24 (0, 0)), blk b1 (.cells #[.int .i64 0, .string (bs []), .int .i64 0, .slice none 0 0] 24 (0, 0))]) rfl rfl 0 rfl rfl tc3 rfl rfl trivial (cs' := #[.string (bs a1), .int .i64 (Mir.w64 (q17.2 + 1)), .int .i64 q6.2.2]) rfl ?_
      refine St.nil ?_
      refine St.norm ?_
      refine St.seq ?_
      refine St.region ?_
      refine St.val (v := (.agg #[.int .i64 q6.1.Op, .string (bs q6.1.Name), .int .i64 q6.1.N, .slice A10 q6.1.Kids.length c11])) (Yields.load rfl (Loads.Hk (vs := [.int .i64 q6.1.Op, .string (bs q6.1.Name), .int .i64 q6.1.N, .slice A10 q6.1.Kids.length c11]) 1 rfl ta24 rfl rfl)) trivial rfl rfl ?_
      refine St.storen (R := [blk pbl0 (.cells #[.string (bs a1), .int .i64 (Mir.w64 (q17.2 + 1)), .int .i64 q6.2.2] 50 (0, 0)), blk b14 (.cells #[.int .i64 q6.1.Op, .string (bs q6.1.Name), .int .i64 q6.1.N, .slice A10 q6.1.Kids.length c11] 24 (0, 0))]) rfl rfl 2 rfl rfl ta24 rfl rfl rfl trivial (cs' := #[.int .i64 q6.1.Op, .string (bs q6.1.Name), .int .i64 q6.1.N, .slice A10 q6.1.Kids.length c11]) rfl ?_
      refine St.nil ?_
      refine St.norm ?_
      refine St.ret ?_
      obtain rfl := sI hm
      exact St.doneR1 rfl (ResOk.cell rfl (Loads.Hk (vs := [.int .i64 q6.1.Op, .string (bs q6.1.Name), .int .i64 q6.1.N, .slice A10 q6.1.Kids.length c11]) 0 rfl ta24 rfl rfl)) ⟨A10, c11, rfl, (Fsl.mono l20 h12), rfl⟩ (fun w hs => Among.of (Among.take 1 rfl rfl Among.none) w hs)

theorem m_value_reader_any_st {g : Nat} (ih_m_value_reader_group : m_value_reader_group_S g) (ih_m_value_reader_any : m_value_reader_any_S g) : m_value_reader_any_S (g + 1) := by
  intro F a0 a1 a2 a3 pbl0 r hm
  rw [m_value_reader_any] at hm
  refine CallSp.enter (args := [.pointer (some ⟨pbl0, 0, none⟩), .int .i64 a0]) Try.func27 rfl rfl ?_
  intro w0 m0 hm0
  refine St.seq ?_
  refine St.region ?_
  refine St.alloc tz24 trivial rfl ?_
  intro b1
  refine St.nil ?_
  refine St.norm ?_
  refine St.seq ?_
  refine St.region ?_
  refine St.val (v := (.pointer (some ⟨pbl0, 0, none⟩))) (Yields.move rfl) trivial rfl rfl ?_
  refine St.pick (R := [blk b1 (.cells #[.int .i64 0, .string (bs []), .int .i64 0, .slice none 0 0] 24 (0, 0))]) 1 rfl rfl ?_
  obtain ⟨q2, e3, hm⟩ := bS hm
  refine St.call [blk b1 (.cells #[.int .i64 0, .string (bs []), .int .i64 0, .slice none 0 0] 24 (0, 0))] (m_value_reader_token_sp e3) rfl (fun _ ha => ev1 ha rfl) rfl en28 rfl rfl trivial ?_
  rintro _ F4 _ ⟨rfl, rfl⟩ l5
  refine St.val (v := (.tuple #[.string (bs q2.1), .int .i64 q2.2])) (Yields.move rfl) trivial rfl rfl ?_
  refine St.val (v := (.string (bs q2.1))) (Yields.extract rfl rfl) trivial rfl rfl ?_
  refine St.val (v := (.int .i64 q2.2)) (Yields.extract rfl rfl) trivial rfl rfl ?_
  refine St.val (v := (.string (bs q2.1))) (Yields.assign rfl) trivial rfl rfl ?_
  refine St.val (v := (.int .i64 q2.2)) (Yields.assign rfl) trivial rfl rfl ?_
  refine St.nil ?_
  refine St.norm ?_
  refine St.seq ?_
  obtain ⟨z6, hm, hk9⟩ := bS hm
  refine St.cutI (fun a w => ∃ (F7 : PH), PH.le F4 F7 ∧ Has Try.f27.ntmps a [(0, .pointer (some ⟨pbl0, 0, none⟩)), (1, .int .i64 a0), (4, .pointer (some ⟨b1, 0, none⟩)), (5, .string (bs q2.1)), (6, .int .i64 q2.2), (32, .bool z6)] ∧ Sat ⟨w0, fun b => m0 b ≠ none, F⟩ F7 [blk pbl0 (.cells #[.string (bs a1), .int .i64 a2, .int .i64 a3] 50 (0, 0)), blk b1 (.cells #[.int .i64 0, .string (bs []), .int .i64 0, .slice none 0 0] 24 (0, 0))] w) ?_ ?_
  · skip
    refine St.region ?_
    refine St.val (v := (.string (bs q2.1))) (Yields.move rfl) trivial rfl rfl ?_
    by_cases q10 : q2.1 = ([] : List UInt8)
    · replace hm := iT hm q10
      refine St.val (v := (.bool true)) (Yields.is q10 (Yields.eqStr rfl rfl)) trivial rfl rfl ?_
      refine St.val (v := (.bool true)) (Yields.move rfl) trivial rfl rfl ?_
      refine St.unwanted rfl rfl rfl ?_
      refine St.unwanted rfl rfl rfl ?_
      refine St.unwanted rfl rfl rfl ?_
      refine St.unwanted trivial rfl rfl ?_
      refine St.unwanted trivial rfl rfl ?_
      refine St.unwanted trivial rfl rfl ?_
      refine St.unwanted trivial rfl rfl ?_
      refine St.unwanted trivial rfl rfl ?_
      refine St.unwanted trivial rfl rfl ?_
      refine St.unwanted trivial rfl rfl ?_
      refine St.unwanted rfl rfl rfl ?_
      refine St.val (v := (.bool true)) (Yields.pick_t rfl rfl) trivial rfl rfl ?_
      refine St.nil ?_
      obtain rfl := sI hm
      intro a w ha hs
      exact ⟨F4, (PH.le_refl _), ha.covers ⟨rfl, rfl, rfl, rfl, rfl, rfl, trivial⟩, (Among.of (Among.take 0 rfl rfl (Among.take 0 rfl rfl Among.none)) _ hs)⟩
    · replace hm := iF hm q10
      refine St.val (v := (.bool false)) (Yields.isnt q10 (Yields.eqStr rfl rfl)) trivial rfl rfl ?_
      refine St.val (v := (.bool false)) (Yields.move rfl) trivial rfl rfl ?_
      refine St.val (v := (.string (bs q2.1))) (Yields.move rfl) rfl rfl rfl ?_
      by_cases q11 : q2.1 = ([40] : List UInt8)
      · replace hm := iT hm q11
        refine St.val (v := (.bool false)) (Yields.nis q11 (Yields.neStr rfl rfl)) rfl rfl rfl ?_
        refine St.val (v := (.bool false)) (Yields.move rfl) rfl rfl rfl ?_
        refine St.unwanted rfl rfl rfl ?_
        refine St.unwanted rfl rfl rfl ?_
        refine St.unwanted rfl rfl rfl ?_
        refine St.unwanted trivial rfl rfl ?_
        refine St.unwanted trivial rfl rfl ?_
        refine St.unwanted trivial rfl rfl ?_
        refine St.unwanted rfl rfl rfl ?_
        refine St.val (v := (.bool false)) (Yields.pick_f rfl rfl) rfl rfl rfl ?_
        refine St.val (v := (.bool false)) (Yields.pick_f rfl rfl) trivial rfl rfl ?_
        refine St.nil ?_
        obtain rfl := sI hm
        intro a w ha hs
        exact ⟨F4, (PH.le_refl _), ha.covers ⟨rfl, rfl, rfl, rfl, rfl, rfl, trivial⟩, (Among.of (Among.take 0 rfl rfl (Among.take 0 rfl rfl Among.none)) _ hs)⟩
      · replace hm := iF hm q11
        refine St.val (v := (.bool true)) (Yields.nisnt q11 (Yields.neStr rfl rfl)) rfl rfl rfl ?_
        refine St.val (v := (.bool true)) (Yields.move rfl) rfl rfl rfl ?_
        refine St.val (v := (.string (bs q2.1))) (Yields.move rfl) rfl rfl rfl ?_
        by_cases q12 : q2.1 = ([41] : List UInt8)
        · replace hm := iT hm q12
          refine St.val (v := (.bool true)) (Yields.is q12 (Yields.eqStr rfl rfl)) rfl rfl rfl ?_
          refine St.val (v := (.bool true)) (Yields.move rfl) rfl rfl rfl ?_
          refine St.unwanted rfl rfl rfl ?_
          refine St.unwanted rfl rfl rfl ?_
          refine St.unwanted rfl rfl rfl ?_
          refine St.val (v := (.bool true)) (Yields.pick_t rfl rfl) rfl rfl rfl ?_
          refine St.val (v := (.bool true)) (Yields.pick_t rfl rfl) rfl rfl rfl ?_
          refine St.val (v := (.bool true)) (Yields.pick_f rfl rfl) trivial rfl rfl ?_
          refine St.nil ?_
          obtain rfl := sI hm
          intro a w ha hs
          exact ⟨F4, (PH.le_refl _), ha.covers ⟨rfl, rfl, rfl, rfl, rfl, rfl, trivial⟩, (Among.of (Among.take 0 rfl rfl (Among.take 0 rfl rfl Among.none)) _ hs)⟩
        · replace hm := iF hm q12
          refine St.val (v := (.bool false)) (Yields.isnt q12 (Yields.eqStr rfl rfl)) rfl rfl rfl ?_
          refine St.val (v := (.bool false)) (Yields.move rfl) rfl rfl rfl ?_
          refine St.val (v := (.string (bs q2.1))) (Yields.move rfl) rfl rfl rfl ?_
          obtain ⟨q13, e14, hm⟩ := bS hm
          refine St.call [blk pbl0 (.cells #[.string (bs a1), .int .i64 a2, .int .i64 a3] 50 (0, 0)), blk b1 (.cells #[.int .i64 0, .string (bs []), .int .i64 0, .slice none 0 0] 24 (0, 0))] (m_value_isAtom_sp e14) rfl (fun _ ha => ev1 ha rfl) rfl en60 rfl rfl rfl ?_
          rintro _ F15 _ ⟨rfl, rfl⟩ l16
          refine St.val (v := (.bool (!q13))) (Yields.not rfl) rfl rfl rfl ?_
          refine St.val (v := (.bool (!q13))) (Yields.pick_f rfl rfl) rfl rfl rfl ?_
          refine St.val (v := (.bool (!q13))) (Yields.pick_t rfl rfl) rfl rfl rfl ?_
          refine St.val (v := (.bool (!q13))) (Yields.pick_f rfl rfl) trivial rfl rfl ?_
          refine St.nil ?_
          obtain rfl := sI hm
          intro a w ha hs
          exact ⟨F15, l16, ha.covers ⟨rfl, rfl, rfl, rfl, rfl, rfl, trivial⟩, (Among.of (Among.take 0 rfl rfl (Among.take 0 rfl rfl Among.none)) _ hs)⟩
  · rintro a w ⟨F7, l8, ha, hs⟩
    replace hm := hk9
    refine St.use (?_ : St _ _ _ _ _ _) ha hs
    clear ha hs a w
    refine St.cond_b rfl ?_ ?_
    · intro q17
      replace q17 : z6 = true := q17
      replace hm := iT hm q17
      refine St.seq ?_
      refine St.region ?_
      refine St.val (v := (.pointer (some ⟨pbl0, 0, none⟩))) (Yields.move rfl) trivial rfl rfl ?_
      refine St.val (v := (.int .i64 q2.2)) (Yields.move rfl) trivial rfl rfl ?_
      refine St.pick (R := [blk b1 (.cells #[.int .i64 0, .string (bs []), .int .i64 0, .slice none 0 0] 24 (0, 0))]) 0 rfl rfl ?_
      obtain ⟨q18, e19, hm⟩ := bS hm
      refine St.call [blk b1 (.cells #[.int .i64 0, .string (bs []), .int .i64 0, .slice none 0 0] 24 (0, 0))] (m_value_reader_fail_sp e19) rfl (fun _ ha => ev2 ha rfl rfl) rfl en29 rfl rfl trivial ?_
      rintro _ F20 _ ⟨rfl, rfl⟩ l21
      refine St.nil ?_
      refine St.norm ?_
      refine St.seq ?_
      refine St.region ?_
      refine St.val (v := (.agg #[.int .i64 0, .string (bs []), .int .i64 0, .slice none 0 0])) (Yields.build (v := (.agg #[.int .i64 0, .string (bs []), .int .i64 0, .slice none 0 0])) (vs := #[]) (fun a _ => by simp) (fun _ => by kernel_rfl)) trivial rfl rfl ?_
      refine St.storen (R := [blk pbl0 (.cells #[.string (bs a1), .int .i64 a2, .int .i64 q18] 50 (0, 0))]) rfl rfl 1 rfl rfl ta24 rfl rfl rfl trivial (cs' := #[.int .i64 0, .string (bs []), .int .i64 0, .slice none 0 0]) rfl ?_
      refine St.nil ?_
      refine St.norm ?_
      refine St.ret ?_
      refine St.thenret ?_
      obtain rfl := sI hm
      exact St.doneR1 rfl (ResOk.cell rfl (Loads.Hk (vs := [.int .i64 0, .string (bs []), .int .i64 0, .slice none 0 0]) 0 rfl ta24 rfl rfl)) ⟨none, 0, rfl, Fsl.nil, rfl⟩ (fun w hs => Among.of (Among.take 1 rfl rfl Among.none) w hs)
    · intro q22
      replace q22 : ¬ (z6 = true) := bf q22
      replace hm := iF hm q22
      refine St.skip ?_
      refine St.norm ?_
      refine St.seq ?_
      refine St.seq ?_
      refine St.region ?_
      refine St.val (v := (.string (bs q2.1))) (Yields.move rfl) trivial rfl rfl ?_
      refine St.val (v := (.bool (decide (q2.1 = ([40] : List UInt8))))) (Yields.eqStr rfl rfl) trivial rfl rfl ?_
      refine St.nil ?_
      refine St.norm ?_
      refine St.cond_b rfl ?_ ?_
      · intro q23
        replace q23 : q2.1 = ([40] : List UInt8) := of_decide_eq_true q23
        replace hm := iT hm q23
        refine St.seq ?_
        refine St.region ?_
        refine St.val (v := (.pointer (some ⟨pbl0, 0, none⟩))) (Yields.move rfl) trivial rfl rfl ?_
        refine St.val (v := (.int .i64 a0)) (Yields.move rfl) trivial rfl rfl ?_
        refine St.pick (R := [blk b1 (.cells #[.int .i64 0, .string (bs []), .int .i64 0, .slice none 0 0] 24 (0, 0))]) 0 rfl rfl ?_
        obtain ⟨q24, e25, hm⟩ := bS hm
        refine St.call [blk b1 (.cells #[.int .i64 0, .string (bs []), .int .i64 0, .slice none 0 0] 24 (0, 0))] (ih_m_value_reader_group e25) rfl (fun _ ha => ev2 ha rfl rfl) rfl en61 rfl rfl trivial ?_
        rintro _ F26 _ ⟨A28, c29, rfl, h30, rfl⟩ l27
        refine St.storen (R := [blk pbl0 (.cells #[.string (bs a1), .int .i64 q24.2.1, .int .i64 q24.2.2] 50 (0, 0))]) rfl rfl 1 rfl rfl ta24 rfl rfl rfl trivial (cs' := #[.int .i64 q24.1.Op, .string (bs q24.1.Name), .int .i64 q24.1.N, .slice A28 q24.1.Kids.length c29]) rfl ?_
        refine St.nil ?_
        refine St.norm ?_
        refine St.ret ?_
        refine St.thenret ?_
        obtain rfl := sI hm
        exact St.doneR1 rfl (ResOk.cell rfl (Loads.Hk (vs := [.int .i64 q24.1.Op, .string (bs q24.1.Name), .int .i64 q24.1.N, .slice A28 q24.1.Kids.length c29]) 0 rfl ta24 rfl rfl)) ⟨A28, c29, rfl, h30, rfl⟩ (fun w hs => Among.of (Among.take 1 rfl rfl Among.none) w hs)
      · intro q32
        replace q32 : ¬ (q2.1 = ([40] : List UInt8)) := of_decide_eq_false q32
        replace hm := iF hm q32
        refine St.skip ?_
        refine St.norm ?_
        refine St.seq ?_
        refine St.region ?_
        refine St.val (v := (.pointer (some ⟨pbl0, 0, none⟩))) (Yields.move rfl) trivial rfl rfl ?_
        refine St.val (v := (.int .i64 q2.2)) (Yields.move rfl) trivial rfl rfl ?_
        refine St.val (v := (.string (bs q2.1))) (Yields.move rfl) trivial rfl rfl ?_
        refine St.val (v := (.int .i64 ((q2.1.length : Nat) : Int))) (Yields.lenStr tu9 rfl) trivial rfl rfl ?_
        obtain ⟨x33, e34, hm⟩ := bS hm
        refine St.val (v := (.int .i64 (Mir.w64 (q2.2 + ((q2.1.length : Nat) : Int))))) (Yields.addw rfl rfl) trivial rfl rfl ?_
        refine St.val (v := (.pointer (some ⟨pbl0, 0, none⟩))) (Yields.nilCheck rfl) trivial rfl rfl ?_
        refine St.val (v := (.pointer (some ⟨pbl0, 1, none⟩))) (Yields.fieldAddr (v := (.pointer (some ⟨pbl0, 1, none⟩))) rfl (fun _ => by kernel_rfl)) trivial rfl rfl ?_
        refine St.store (R := [blk b1 (.cells #[.int .i64 0, .string (bs []), .int .i64 0, .slice none 0 0] 24 (0, 0))]) rfl rfl 0 rfl rfl tc3 rfl rfl trivial (cs' := #[.string (bs a1), .int .i64 (Mir.w64 (q2.2 + ((q2.1.length : Nat) : Int))), .int .i64 a3]) rfl ?_
        refine St.nil ?_
        refine St.norm ?_
        refine St.seq ?_
        refine St.region ?_
        refine St.val (v := (.string (bs q2.1))) (Yields.move rfl) trivial rfl rfl ?_
        obtain ⟨q35, e36, hm⟩ := bS hm
        refine St.call [blk pbl0 (.cells #[.string (bs a1), .int .i64 (Mir.w64 (q2.2 + ((q2.1.length : Nat) : Int))), .int .i64 a3] 50 (0, 0)), blk b1 (.cells #[.int .i64 0, .string (bs []), .int .i64 0, .slice none 0 0] 24 (0, 0))] (m_value_atom_sp e36) rfl (fun _ ha => ev1 ha rfl) rfl en62 rfl rfl trivial ?_
        rintro _ F37 _ ⟨rfl, rfl⟩ l38
        refine St.val (v := (.tuple #[.agg #[.int .i64 q35.1, .string (bs q35.2.1), .int .i64 q35.2.2.1, .slice none 0 0], .bool q35.2.2.2])) (Yields.move rfl) trivial rfl rfl ?_
        refine St.val (v := (.agg #[.int .i64 q35.1, .string (bs q35.2.1), .int .i64 q35.2.2.1, .slice none 0 0])) (Yields.extract rfl rfl) trivial rfl rfl ?_
        refine St.val (v := (.bool q35.2.2.2)) (Yields.extract rfl rfl) trivial rfl rfl ?_
        refine St.alloc tz24 trivial rfl ?_
        intro b39
        refine St.storen (R := [blk pbl0 (.cells #[.string (bs a1), .int .i64 (Mir.w64 (q2.2 + ((q2.1.length : Nat) : Int))), .int .i64 a3] 50 (0, 0)), blk b1 (.cells #[.int .i64 0, .string (bs []), .int .i64 0, .slice none 0 0] 24 (0, 0))]) rfl rfl 0 rfl rfl ta24 rfl rfl rfl trivial (cs' := #[.int .i64 q35.1, .string (bs q35.2.1), .int .i64 q35.2.2.1, .slice none 0 0]) rfl ?_
        refine St.val (v := (.bool q35.2.2.2)) (Yields.assign rfl) trivial rfl rfl ?_
        refine St.nil ?_
        refine St.norm ?_
        obtain ⟨z40, hm, hk49⟩ := bS hm
        refine St.cutI (fun a w => ∃ (A44 : Option Addr) (c45 : Nat) (cells47 : List Value) (F41 : PH), PH.le F37 F41 ∧ Cat KDValue F41 cells47 z40.2.2 ∧ Bnd 56 z40.2.2 ∧ Has Try.f27.ntmps a [(4, .pointer (some ⟨b1, 0, none⟩)), (7, .pointer (some ⟨b39, 0, none⟩))] ∧ Sat ⟨w0, fun b => m0 b ≠ none, F⟩ F41 [blk pbl0 (.cells #[.string (bs a1), .int .i64 z40.1, .int .i64 z40.2.1] 50 (0, 0)), blk b1 (.cells #[.int .i64 0, .string (bs []), .int .i64 0, .slice none 0 0] 24 (0, 0)), blk b39 (.cells #[.int .i64 q35.1, .string (bs q35.2.1), .int .i64 q35.2.2.1, .slice A44 z40.2.2.length c45] 24 (0, 0)), rowo A44 z40.2.2.length c45 24 4 cells47] w) ?_ ?_
        · skip
          refine St.block ?_
          refine St.loopM hm (fun s60 a w => ∃ (A65 : Option Addr) (c66 : Nat) (cells68 : List Value) (F70 : PH), PH.le F37 F70 ∧ Cat KDValue F70 cells68 s60.2.2 ∧ Bnd 56 s60.2.2 ∧ Has Try.f27.ntmps a [(0, .pointer (some ⟨pbl0, 0, none⟩)), (1, .int .i64 a0), (4, .pointer (some ⟨b1, 0, none⟩)), (7, .pointer (some ⟨b39, 0, none⟩))] ∧ Sat ⟨w0, fun b => m0 b ≠ none, F⟩ F70 [blk pbl0 (.cells #[.string (bs a1), .int .i64 s60.1, .int .i64 s60.2.1] 50 (0, 0)), blk b1 (.cells #[.int .i64 0, .string (bs []), .int .i64 0, .slice none 0 0] 24 (0, 0)), blk b39 (.cells #[.int .i64 q35.1, .string (bs q35.2.1), .int .i64 q35.2.2.1, .slice A65 s60.2.2.length c66] 24 (0, 0)), rowo A65 s60.2.2.length c66 24 4 cells68] w) ?_ ?_
          · skip
            refine St.rowo_new 24 4 ?_
            intro a w ha hs
            exact ⟨none, 0, [], F37, (PH.le_refl _), (show Cat KDValue _ [] [] from rfl), Bnd.of_nil, ha.covers ⟨rfl, rfl, rfl, rfl, trivial⟩, (Among.of (Among.take 2 rfl rfl (Among.take 2 rfl rfl (Among.take 1 rfl rfl (Among.take 0 rfl rfl Among.none)))) _ hs)⟩
          · rintro s60 o61 co62 hm ho63 a w ⟨A65, c66, cells68, F70, l71, h67, b69, ha, hs⟩
            refine St.use (?_ : St _ _ _ _ _ _) ha hs
            clear ha hs a w
            refine St.seq ?_
            obtain ⟨z73, hm, hk74⟩ := bS hm
            refine St.cutI (fun a w => Has Try.f27.ntmps a [(0, .pointer (some ⟨pbl0, 0, none⟩)), (1, .int .i64 a0), (4, .pointer (some ⟨b1, 0, none⟩)), (7, .pointer (some ⟨b39, 0, none⟩)), (68, .bool z73)] ∧ Sat ⟨w0, fun b => m0 b ≠ none, F⟩ F70 [blk pbl0 (.cells #[.string (bs a1), .int .i64 s60.1, .int .i64 s60.2.1] 50 (0, 0)), blk b1 (.cells #[.int .i64 0, .string (bs []), .int .i64 0, .slice none 0 0] 24 (0, 0)), blk b39 (.cells #[.int .i64 q35.1, .string (bs q35.2.1), .int .i64 q35.2.2.1, .slice A65 s60.2.2.length c66] 24 (0, 0)), rowo A65 s60.2.2.length c66 24 4 cells68] w) ?_ ?_
            · skip
              refine St.region ?_
              refine St.val (v := (.pointer (some ⟨pbl0, 0, none⟩))) (Yields.move rfl) trivial rfl rfl ?_
              refine St.val (v := (.pointer (some ⟨pbl0, 0, none⟩))) (Yields.nilCheck rfl) trivial rfl rfl ?_
              refine St.val (v := (.pointer (some ⟨pbl0, 2, none⟩))) (Yields.fieldAddr (v := (.pointer (some ⟨pbl0, 2, none⟩))) rfl (fun _ => by kernel_rfl)) trivial rfl rfl ?_
              refine St.val (v := (.int .i64 s60.2.1)) (Yields.load rfl (Loads.H1 0 rfl tc3 rfl)) trivial rfl rfl ?_
              by_cases q75 : s60.2.1 < 0
              · replace hm := iT hm q75
                refine St.val (v := (.bool true)) (Yields.is q75 (Yields.lt rfl rfl)) trivial rfl rfl ?_
                refine St.val (v := (.bool true)) (Yields.move rfl) trivial rfl rfl ?_
                refine St.val (v := (.pointer (some ⟨b39, 0, none⟩))) (Yields.fieldAddr (v := (.pointer (some ⟨b39, 0, none⟩))) rfl (fun _ => by kernel_rfl)) rfl rfl rfl ?_
                refine St.val (v := (.int .i64 q35.1)) (Yields.load rfl (Loads.H1 2 rfl tc3 rfl)) rfl rfl rfl ?_
                by_cases q76 : q35.1 = 1
                · replace hm := iT hm q76
                  refine St.val (v := (.bool true)) (Yields.is q76 (Yields.eq rfl rfl)) rfl rfl rfl ?_
                  refine St.val (v := (.bool true)) (Yields.move rfl) rfl rfl rfl ?_
                  refine St.unwanted rfl rfl rfl ?_
                  refine St.unwanted rfl rfl rfl ?_
                  refine St.unwanted rfl rfl rfl ?_
                  refine St.val (v := (.bool true)) (Yields.pick_t rfl rfl) rfl rfl rfl ?_
                  refine St.val (v := (.bool true)) (Yields.pick_t rfl rfl) trivial rfl rfl ?_
                  refine St.nil ?_
                  obtain rfl := sI hm
                  intro a w ha hs
                  exact ⟨ha.covers ⟨rfl, rfl, rfl, rfl, rfl, trivial⟩, (Among.of (Among.take 0 rfl rfl (Among.take 0 rfl rfl (Among.take 0 rfl rfl (Among.take 0 rfl rfl Among.none)))) _ hs)⟩
                · replace hm := iF hm q76
                  refine St.val (v := (.bool false)) (Yields.isnt q76 (Yields.eq rfl rfl)) rfl rfl rfl ?_
                  refine St.val (v := (.bool false)) (Yields.move rfl) rfl rfl rfl ?_
                  refine St.val (v := (.pointer (some ⟨b39, 0, none⟩))) (Yields.fieldAddr (v := (.pointer (some ⟨b39, 0, none⟩))) rfl (fun _ => by kernel_rfl)) rfl rfl rfl ?_
                  refine St.val (v := (.int .i64 q35.1)) (Yields.load rfl (Loads.H1 2 rfl tc3 rfl)) rfl rfl rfl ?_
                  refine St.val (v := (.bool (decide (q35.1 = 4)))) (Yields.eq rfl rfl) rfl rfl rfl ?_
                  refine St.val (v := (.bool (decide (q35.1 = 4)))) (Yields.pick_f rfl rfl) rfl rfl rfl ?_
                  refine St.val (v := (.bool (decide (q35.1 = 4)))) (Yields.pick_t rfl rfl) trivial rfl rfl ?_
                  refine St.nil ?_
                  obtain rfl := sI hm
                  intro a w ha hs
                  exact ⟨ha.covers ⟨rfl, rfl, rfl, rfl, rfl, trivial⟩, (Among.of (Among.take 0 rfl rfl (Among.take 0 rfl rfl (Among.take 0 rfl rfl (Among.take 0 rfl rfl Among.none)))) _ hs)⟩
              · replace hm := iF hm q75
                refine St.val (v := (.bool false)) (Yields.isnt q75 (Yields.lt rfl rfl)) trivial rfl rfl ?_
                refine St.val (v := (.bool false)) (Yields.move rfl) trivial rfl rfl ?_
                refine St.unwanted rfl rfl rfl ?_
                refine St.unwanted rfl rfl rfl ?_
                refine St.unwanted rfl rfl rfl ?_
                refine St.unwanted rfl rfl rfl ?_
                refine St.unwanted trivial rfl rfl ?_
                refine St.unwanted trivial rfl rfl ?_
                refine St.unwanted trivial rfl rfl ?_
                refine St.unwanted rfl rfl rfl ?_
                refine St.val (v := (.bool false)) (Yields.pick_f rfl rfl) trivial rfl rfl ?_
                refine St.nil ?_
                obtain rfl := sI hm
                intro a w ha hs
                exact ⟨ha.covers ⟨rfl, rfl, rfl, rfl, rfl, trivial⟩, (Among.of (Among.take 0 rfl rfl (Among.take 0 rfl rfl (Among.take 0 rfl rfl (Among.take 0 rfl rfl Among.none)))) _ hs)⟩
            · rintro a w ⟨ha, hs⟩
              replace hm := hk74
              refine St.use (?_ : St _ _ _ _ _ _) ha hs
              clear ha hs a w
              refine St.cond_b rfl ?_ ?_
              · intro q77
                replace q77 : z73 = true := q77
                replace hm := iT hm q77
                refine St.skip ?_
                refine St.norm ?_
                refine St.block ?_
                refine St.seq ?_
                refine St.region ?_
                refine St.val (v := (.pointer (some ⟨pbl0, 0, none⟩))) (Yields.move rfl) trivial rfl rfl ?_
                refine St.pick (R := [blk b1 (.cells #[.int .i64 0, .string (bs []), .int .i64 0, .slice none 0 0] 24 (0, 0)), blk b39 (.cells #[.int .i64 q35.1, .string (bs q35.2.1), .int .i64 q35.2.2.1, .slice A65 s60.2.2.length c66] 24 (0, 0)), rowo A65 s60.2.2.length c66 24 4 cells68]) 0 rfl rfl ?_
                obtain ⟨q78, e79, hm⟩ := bS hm
                refine St.call [blk b1 (.cells #[.int .i64 0, .string (bs []), .int .i64 0, .slice none 0 0] 24 (0, 0)), blk b39 (.cells #[.int .i64 q35.1, .string (bs q35.2.1), .int .i64 q35.2.2.1, .slice A65 s60.2.2.length c66] 24 (0, 0)), rowo A65 s60.2.2.length c66 24 4 cells68] (m_value_reader_token_sp e79) rfl (fun _ ha => ev1 ha rfl) rfl en28 rfl rfl trivial ?_
                rintro _ F80 _ ⟨rfl, rfl⟩ l81
                refine St.val (v := (.tuple #[.string (bs q78.1), .int .i64 q78.2])) (Yields.move rfl) trivial rfl rfl ?_
                refine St.val (v := (.string (bs q78.1))) (Yields.extract rfl rfl) trivial rfl rfl ?_
                refine St.val (v := (.int .i64 q78.2)) (Yields.extract rfl rfl) trivial rfl rfl ?_
                refine St.val (v := (.string (bs q78.1))) (Yields.assign rfl) trivial rfl rfl ?_
                refine St.val (v := (.int .i64 q78.2)) (Yields.assign rfl) trivial rfl rfl ?_
                refine St.nil ?_
                refine St.norm ?_
                refine St.seq ?_
                obtain ⟨z82, hm, hk83⟩ := bS hm
                refine St.cutI (fun a w => Has Try.f27.ntmps a [(0, .pointer (some ⟨pbl0, 0, none⟩)), (1, .int .i64 a0), (4, .pointer (some ⟨b1, 0, none⟩)), (7, .pointer (some ⟨b39, 0, none⟩)), (9, .string (bs q78.1)), (10, .int .i64 q78.2), (79, .bool z82)] ∧ Sat ⟨w0, fun b => m0 b ≠ none, F⟩ F80 [blk pbl0 (.cells #[.string (bs a1), .int .i64 s60.1, .int .i64 s60.2.1] 50 (0, 0)), blk b1 (.cells #[.int .i64 0, .string (bs []), .int .i64 0, .slice none 0 0] 24 (0, 0)), blk b39 (.cells #[.int .i64 q35.1, .string (bs q35.2.1), .int .i64 q35.2.2.1, .slice A65 s60.2.2.length c66] 24 (0, 0)), rowo A65 s60.2.2.length c66 24 4 cells68] w) ?_ ?_
                · skip
                  refine St.region ?_
                  refine St.val (v := (.string (bs q78.1))) (Yields.move rfl) trivial rfl rfl ?_
                  by_cases q84 : q78.1 = ([] : List UInt8)
                  · replace hm := iT hm q84
                    refine St.val (v := (.bool true)) (Yields.is q84 (Yields.eqStr rfl rfl)) trivial rfl rfl ?_
                    refine St.val (v := (.bool true)) (Yields.move rfl) trivial rfl rfl ?_
                    refine St.unwanted rfl rfl rfl ?_
                    refine St.unwanted rfl rfl rfl ?_
                    refine St.val (v := (.bool true)) (Yields.pick_t rfl rfl) trivial rfl rfl ?_
                    refine St.nil ?_
                    obtain rfl := sI hm
                    intro a w ha hs
                    exact ⟨ha.covers ⟨rfl, rfl, rfl, rfl, rfl, rfl, rfl, trivial⟩, (Among.of (Among.take 0 rfl rfl (Among.take 0 rfl rfl (Among.take 0 rfl rfl (Among.take 0 rfl rfl Among.none)))) _ hs)⟩
                  · replace hm := iF hm q84
                    refine St.val (v := (.bool false)) (Yields.isnt q84 (Yields.eqStr rfl rfl)) trivial rfl rfl ?_
                    refine St.val (v := (.bool false)) (Yields.move rfl) trivial rfl rfl ?_
                    refine St.val (v := (.string (bs q78.1))) (Yields.move rfl) rfl rfl rfl ?_
                    refine St.val (v := (.bool (decide (q78.1 = ([41] : List UInt8))))) (Yields.eqStr rfl rfl) rfl rfl rfl ?_
                    refine St.val (v := (.bool (decide (q78.1 = ([41] : List UInt8))))) (Yields.pick_f rfl rfl) trivial rfl rfl ?_
                    refine St.nil ?_
                    obtain rfl := sI hm
                    intro a w ha hs
                    exact ⟨ha.covers ⟨rfl, rfl, rfl, rfl, rfl, rfl, rfl, trivial⟩, (Among.of (Among.take 0 rfl rfl (Among.take 0 rfl rfl (Among.take 0 rfl rfl (Among.take 0 rfl rfl Among.none)))) _ hs)⟩
                · rintro a w ⟨ha, hs⟩
                  replace hm := hk83
                  refine St.use (?_ : St _ _ _ _ _ _) ha hs
                  clear ha hs a w
                  refine St.cond_b rfl ?_ ?_
                  · intro q85
                    replace q85 : z82 = true := q85
                    replace hm := iT hm q85
                    refine St.exit ?_
                    refine St.thenexit ?_
                    refine St.inpass rfl ?_
                    refine St.thenexit ?_
                    refine St.inexit ?_
                    obtain rfl := sI hm
                    obtain rfl := aR ho63
                    intro a w ha hs
                    exact ⟨A65, c66, cells68, F80, (PH.le_trans l71 l81), (Cat.mono l81 h67), b69, ha.covers ⟨rfl, rfl, trivial⟩, (Among.of (Among.take 0 rfl rfl (Among.take 0 rfl rfl (Among.take 0 rfl rfl (Among.take 0 rfl rfl Among.none)))) _ hs)⟩
                  · intro q86
                    replace q86 : ¬ (z82 = true) := bf q86
                    replace hm := iF hm q86
                    refine St.skip ?_
                    refine St.norm ?_
                    refine St.seq ?_
                    refine St.seq ?_
                    refine St.region ?_
                    refine St.val (v := (.string (bs q78.1))) (Yields.move rfl) trivial rfl rfl ?_
                    refine St.val (v := (.bool (decide (q78.1 = ([40] : List UInt8))))) (Yields.eqStr rfl rfl) trivial rfl rfl ?_
                    refine St.nil ?_
                    refine St.norm ?_
                    refine St.cond_b rfl ?_ ?_
                    · intro q87
                      replace q87 : q78.1 = ([40] : List UInt8) := of_decide_eq_true q87
                      replace hm := iT hm q87
                      refine St.seq ?_
                      refine StD.start [6, 8] [blk b1 (.cells #[.int .i64 0, .string (bs []), .int .i64 0, .slice none 0 0] 24 (0, 0)), blk b39 (.cells #[.int .i64 q35.1, .string (bs q35.2.1), .int .i64 q35.2.2.1, .slice A65 s60.2.2.length c66] 24 (0, 0)), rowo A65 s60.2.2.length c66 24 4 cells68] hmix ?_
                      refine StD.takeP (i := 0) (v := (.pointer (some ⟨b39, 3, none⟩))) rfl (fun _ => Yields.fieldAddr (v := (.pointer (some ⟨b39, 3, none⟩))) rfl (fun _ => by kernel_rfl)) rfl rfl trivial (by rintro _ _ _ ⟨_, _, _, _, h, _⟩; cases h) (by kernel_rfl) (listed' := #[true, false, false, false, false, false, false, false, false]) rfl ?_
                      refine StD.take [0, 2, 3, 7] (i := 1) (v := (.slice A65 s60.2.2.length c66)) rfl (Yields.load rfl (Loads.H1 1 rfl tc22 rfl)) rfl rfl trivial (Among.of (Among.take 1 rfl rfl (Among.take 1 rfl rfl (Among.take 1 rfl rfl Among.none)))) (by rintro _ _ _ ⟨_, _, _, _, h, _⟩; cases h) (by kernel_rfl) (listed' := #[true, true, false, false, false, false, false, false, false]) rfl ?_
                      refine StD.takeP (i := 2) (v := (.pointer (some ⟨pbl0, 0, none⟩))) rfl (fun _ => Yields.move rfl) rfl rfl trivial (by rintro _ _ _ ⟨_, _, _, _, h, _⟩; cases h) (by kernel_rfl) (listed' := #[true, true, true, false, false, false, false, false, false]) rfl ?_
                      refine StD.takeP (i := 3) (v := (.int .i64 a0)) rfl (fun _ => Yields.move rfl) rfl rfl trivial (by rintro _ _ _ ⟨_, _, _, _, h, _⟩; cases h) (by kernel_rfl) (listed' := #[true, true, true, true, false, false, false, false, false]) rfl ?_
                      refine StD.only (i := 4) rfl (by kernel_rfl) (listed' := #[true, true, true, true, true, false, false, false, false]) rfl ?_
                      intro hcl88
                      refine St.pick (R := [blk b1 (.cells #[.int .i64 0, .string (bs []), .int .i64 0, .slice none 0 0] 24 (0, 0)), blk b39 (.cells #[.int .i64 q35.1, .string (bs q35.2.1), .int .i64 q35.2.2.1, .slice A65 s60.2.2.length c66] 24 (0, 0)), rowo A65 s60.2.2.length c66 24 4 cells68]) 0 rfl rfl ?_
                      obtain ⟨q89, e90, hm⟩ := bS hm
                      refine St.call [blk b1 (.cells #[.int .i64 0, .string (bs []), .int .i64 0, .slice none 0 0] 24 (0, 0)), blk b39 (.cells #[.int .i64 q35.1, .string (bs q35.2.1), .int .i64 q35.2.2.1, .slice A65 s60.2.2.length c66] 24 (0, 0)), rowo A65 s60.2.2.length c66 24 4 cells68] (ih_m_value_reader_group e90) rfl (fun _ ha => ev2 ha rfl rfl) rfl en61 rfl rfl trivial ?_
                      rintro _ F91 _ ⟨A93, c94, rfl, h95, rfl⟩ l92
                      refine StD.next hcl88 (fun _ => (Among.of_le l92 (PH.le_trans l5 (PH.le_trans l8 (PH.le_trans l38 (PH.le_trans l71 l81)))) (Among.take 1 rfl rfl (Among.take 1 rfl rfl (Among.take 1 rfl rfl Among.none))))) ?_
                      refine StD.only (i := 5) rfl (by kernel_rfl) (listed' := #[true, true, true, true, true, true, false, false, false]) rfl ?_
                      intro hcl97
                      refine St.buildSlice (e := 24) (cells := #[.int .i64 q89.1.Op, .string (bs q89.1.Name), .int .i64 q89.1.N, .slice A93 q89.1.Kids.length c94]) (vs := #[(0, .agg #[.int .i64 q89.1.Op, .string (bs q89.1.Name), .int .i64 q89.1.N, .slice A93 q89.1.Kids.length c94])]) (fun _ ha => evp1 ha rfl) (fun _ => by kernel_rfl) rfl trivial ?_
                      intro b98
                      refine StD.next hcl97 (fun _ => (Among.of_le l92 (PH.le_trans l5 (PH.le_trans l8 (PH.le_trans l38 (PH.le_trans l71 l81)))) (Among.take 2 rfl rfl (Among.take 2 rfl rfl (Among.take 2 rfl rfl Among.none))))) ?_
                      refine StD.only (i := 6) rfl (by kernel_rfl) (listed' := #[true, true, true, true, true, true, true, false, false]) rfl ?_
                      intro hcl99
                      obtain ⟨x104, e105, hm⟩ := bS hm
                      refine St.pushL (R := [blk b98 (.cells #[.int .i64 q89.1.Op, .string (bs q89.1.Name), .int .i64 q89.1.N, .slice A93 q89.1.Kids.length c94] 24 (0, 0)), blk pbl0 (.cells #[.string (bs a1), .int .i64 q89.2.1, .int .i64 q89.2.2] 50 (0, 0)), blk b1 (.cells #[.int .i64 0, .string (bs []), .int .i64 0, .slice none 0 0] 24 (0, 0)), blk b39 (.cells #[.int .i64 q35.1, .string (bs q35.2.1), .int .i64 q35.2.2.1, .slice A65 s60.2.2.length c66] 24 (0, 0))]) (R3 := [blk pbl0 (.cells #[.string (bs a1), .int .i64 q89.2.1, .int .i64 q89.2.2] 50 (0, 0)), blk b1 (.cells #[.int .i64 0, .string (bs []), .int .i64 0, .slice none 0 0] 24 (0, 0)), blk b39 (.cells #[.int .i64 q35.1, .string (bs q35.2.1), .int .i64 q35.2.2.1, .slice A65 s60.2.2.length c66] 24 (0, 0))]) e105 ts22 rfl rfl rfl rfl rfl 4 rfl rfl 0 rfl 0 rfl rfl (Cat.mono (PH.le_trans l81 l92) h67) ⟨[.int .i64 q89.1.Op, .string (bs q89.1.Name), .int .i64 q89.1.N, .slice A93 q89.1.Kids.length c94], _, rfl, (DValue.of h95), rfl⟩ rfl trivial ?_
                      intro A100 c101 cells102 h103
                      refine StD.next hcl99 (fun h => by cases h) ?_
                      refine StD.takeP (i := 7) (v := (.pointer (some ⟨b39, 3, none⟩))) rfl (fun _ => Yields.fieldAddr (v := (.pointer (some ⟨b39, 3, none⟩))) rfl (fun _ => by kernel_rfl)) rfl rfl trivial (by rintro _ _ _ ⟨_, _, _, _, h, _⟩; cases h) (by kernel_rfl) (listed' := #[true, true, true, true, true, true, true, true, false]) rfl ?_
                      refine StD.only (i := 8) rfl (by kernel_rfl) (listed' := #[true, true, true, true, true, true, true, true, true]) rfl ?_
                      intro hcl107
                      refine St.store (R := [rowo A100 x104.length c101 24 4 cells102, blk pbl0 (.cells #[.string (bs a1), .int .i64 q89.2.1, .int .i64 q89.2.2] 50 (0, 0)), blk b1 (.cells #[.int .i64 0, .string (bs []), .int .i64 0, .slice none 0 0] 24 (0, 0))]) rfl rfl 3 rfl rfl tc22 rfl rfl trivial (cs' := #[.int .i64 q35.1, .string (bs q35.2.1), .int .i64 q35.2.2.1, .slice A100 x104.length c101]) rfl ?_
                      refine StD.next hcl107 (fun h => by cases h) ?_
                      refine StD.done (by kernel_rfl) ?_
                      refine St.norm ?_
                      refine St.exit ?_
                      refine St.thenexit ?_
                      refine St.inexit ?_
                      refine St.norm ?_
                      obtain rfl := sI hm
                      intro a w ha hs
                      exact ⟨(q89.2.1, q89.2.2, x104), aL ho63, A100, c101, cells102, F91, (PH.le_trans l71 (PH.le_trans l81 l92)), h103, (Bnd.of_push e105), ha.covers ⟨rfl, rfl, rfl, rfl, trivial⟩, (Among.of (Among.take 2 rfl rfl (Among.take 2 rfl rfl (Among.take 0 rfl rfl (Among.take 0 rfl rfl Among.none)))) _ hs)⟩
                    · intro q108
                      replace q108 : ¬ (q78.1 = ([40] : List UInt8)) := of_decide_eq_false q108
                      replace hm := iF hm q108
                      refine St.skip ?_
                      refine St.norm ?_
                      refine St.seq ?_
                      refine St.seq ?_
                      refine St.region ?_
                      refine St.val (v := (.string (bs q78.1))) (Yields.move rfl) trivial rfl rfl ?_
                      obtain ⟨q109, e110, hm⟩ := bS hm
                      refine St.call [blk pbl0 (.cells #[.string (bs a1), .int .i64 s60.1, .int .i64 s60.2.1] 50 (0, 0)), blk b1 (.cells #[.int .i64 0, .string (bs []), .int .i64 0, .slice none 0 0] 24 (0, 0)), blk b39 (.cells #[.int .i64 q35.1, .string (bs q35.2.1), .int .i64 q35.2.2.1, .slice A65 s60.2.2.length c66] 24 (0, 0)), rowo A65 s60.2.2.length c66 24 4 cells68] (m_value_isAtom_sp e110) rfl (fun _ ha => ev1 ha rfl) rfl en60 rfl rfl trivial ?_
                      rintro _ F111 _ ⟨rfl, rfl⟩ l112
                      refine St.val (v := (.bool (!q109))) (Yields.not rfl) trivial rfl rfl ?_
                      refine St.nil ?_
                      refine St.norm ?_
                      refine St.cond_b rfl ?_ ?_
                      · intro q113
                        replace q113 : ¬ (q109 = true) := nb_t q113
                        replace hm := iF hm q113
                        refine St.seq ?_
                        refine St.region ?_
                        refine St.val (v := (.pointer (some ⟨pbl0, 0, none⟩))) (Yields.move rfl) trivial rfl rfl ?_
                        refine St.val (v := (.int .i64 q78.2)) (Yields.move rfl) trivial rfl rfl ?_
                        refine St.pick (R := [blk b1 (.cells #[.int .i64 0, .string (bs []), .int .i64 0, .slice none 0 0] 24 (0, 0)), blk b39 (.cells #[.int .i64 q35.1, .string (bs q35.2.1), .int .i64 q35.2.2.1, .slice A65 s60.2.2.length c66] 24 (0, 0)), rowo A65 s60.2.2.length c66 24 4 cells68]) 0 rfl rfl ?_
                        obtain ⟨q114, e115, hm⟩ := bS hm
                        refine St.call [blk b1 (.cells #[.int .i64 0, .string (bs []), .int .i64 0, .slice none 0 0] 24 (0, 0)), blk b39 (.cells #[.int .i64 q35.1, .string (bs q35.2.1), .int .i64 q35.2.2.1, .slice A65 s60.2.2.length c66] 24 (0, 0)), rowo A65 s60.2.2.length c66 24 4 cells68] (m_value_reader_fail_sp e115) rfl (fun _ ha => ev2 ha rfl rfl) rfl en29 rfl rfl trivial ?_
                        rintro _ F116 _ ⟨rfl, rfl⟩ l117
                        refine St.nil ?_
                        refine St.norm ?_
                        refine St.exit ?_
                        refine St.thenexit ?_
                        refine St.inpass rfl ?_
                        refine St.thenexit ?_
                        refine St.inexit ?_
                        obtain rfl := sI hm
                        obtain rfl := aR ho63
                        intro a w ha hs
                        exact ⟨A65, c66, cells68, F116, (PH.le_trans l71 (PH.le_trans l81 (PH.le_trans l112 l117))), (Cat.mono (PH.le_trans l81 (PH.le_trans l112 l117)) h67), b69, ha.covers ⟨rfl, rfl, trivial⟩, (Among.of (Among.take 0 rfl rfl (Among.take 0 rfl rfl (Among.take 0 rfl rfl (Among.take 0 rfl rfl Among.none)))) _ hs)⟩
                      · intro q118
                        replace q118 : q109 = true := nb_f q118
                        replace hm := iT hm q118
                        refine St.skip ?_
                        refine St.norm ?_
                        refine St.seq ?_
                        refine St.region ?_
                        refine St.val (v := (.string (bs q78.1))) (Yields.move rfl) trivial rfl rfl ?_
                        obtain ⟨q119, e120, hm⟩ := bS hm
                        refine St.call [blk pbl0 (.cells #[.string (bs a1), .int .i64 s60.1, .int .i64 s60.2.1] 50 (0, 0)), blk b1 (.cells #[.int .i64 0, .string (bs []), .int .i64 0, .slice none 0 0] 24 (0, 0)), blk b39 (.cells #[.int .i64 q35.1, .string (bs q35.2.1), .int .i64 q35.2.2.1, .slice A65 s60.2.2.length c66] 24 (0, 0)), rowo A65 s60.2.2.length c66 24 4 cells68] (m_value_atom_sp e120) rfl (fun _ ha => ev1 ha rfl) rfl en62 rfl rfl trivial ?_
                        rintro _ F121 _ ⟨rfl, rfl⟩ l122
                        refine St.val (v := (.tuple #[.agg #[.int .i64 q119.1, .string (bs q119.2.1), .int .i64 q119.2.2.1, .slice none 0 0], .bool q119.2.2.2])) (Yields.move rfl) trivial rfl rfl ?_
                        refine St.val (v := (.agg #[.int .i64 q119.1, .string (bs q119.2.1), .int .i64 q119.2.2.1, .slice none 0 0])) (Yields.extract rfl rfl) trivial rfl rfl ?_
                        refine St.val (v := (.bool q119.2.2.2)) (Yields.extract rfl rfl) trivial rfl rfl ?_
                        refine St.alloc tz24 trivial rfl ?_
                        intro b123
                        refine St.storen (R := [blk pbl0 (.cells #[.string (bs a1), .int .i64 s60.1, .int .i64 s60.2.1] 50 (0, 0)), blk b1 (.cells #[.int .i64 0, .string (bs []), .int .i64 0, .slice none 0 0] 24 (0, 0)), blk b39 (.cells #[.int .i64 q35.1, .string (bs q35.2.1), .int .i64 q35.2.2.1, .slice A65 s60.2.2.length c66] 24 (0, 0)), rowo A65 s60.2.2.length c66 24 4 cells68]) rfl rfl 0 rfl rfl ta24 rfl rfl rfl trivial (cs' := #[.int .i64 q119.1, .string (bs q119.2.1), .int .i64 q119.2.2.1, .slice none 0 0]) rfl ?_
                        refine St.val (v := (.bool q119.2.2.2)) (Yields.assign rfl) trivial rfl rfl ?_
                        refine St.nil ?_
                        refine St.norm ?_
                        refine St.seq ?_
                        refine St.region ?_
                        refine St.val (v := (.pointer (some ⟨pbl0, 0, none⟩))) (Yields.move rfl) trivial rfl rfl ?_
                        refine St.val (v := (.int .i64 q78.2)) (Yields.move rfl) trivial rfl rfl ?_
                        refine St.val (v := (.string (bs q78.1))) (Yields.move rfl) trivial rfl rfl ?_
                        refine St.val (v := (.int .i64 ((q78.1.length : Nat) : Int))) (Yields.lenStr tu9 rfl) trivial rfl rfl ?_
                        obtain ⟨x124, e125, hm⟩ := bS hm
                        refine St.val (v := (.int .i64 (Mir.w64 (q78.2 + ((q78.1.length : Nat) : Int))))) (Yields.addw rfl rfl) trivial rfl rfl ?_
                        refine St.val (v := (.pointer (some ⟨pbl0, 0, none⟩))) (Yields.nilCheck rfl) trivial rfl rfl ?_
                        refine St.val (v := (.pointer (some ⟨pbl0, 1, none⟩))) (Yields.fieldAddr (v := (.pointer (some ⟨pbl0, 1, none⟩))) rfl (fun _ => by kernel_rfl)) trivial rfl rfl ?_
                        refine St.store (R := [blk b123 (.cells #[.int .i64 q119.1, .string (bs q119.2.1), .int .i64 q119.2.2.1, .slice none 0 0] 24 (0, 0)), blk b1 (.cells #[.int .i64 0, .string (bs []), .int .i64 0, .slice none 0 0] 24 (0, 0)), blk b39 (.cells #[.int .i64 q35.1, .string (bs q35.2.1), .int .i64 q35.2.2.1, .slice A65 s60.2.2.length c66] 24 (0, 0)), rowo A65 s60.2.2.length c66 24 4 cells68]) rfl rfl 1 rfl rfl tc3 rfl rfl trivial (cs' := #[.string (bs a1), .int .i64 (Mir.w64 (q78.2 + ((q78.1.length : Nat) : Int))), .int .i64 s60.2.1]) rfl ?_
                        refine St.nil ?_
                        refine St.norm ?_
                        refine St.region ?_
                        refine St.val (v := (.pointer (some ⟨b39, 3, none⟩))) (Yields.fieldAddr (v := (.pointer (some ⟨b39, 3, none⟩))) rfl (fun _ => by kernel_rfl)) trivial rfl rfl ?_
                        refine St.val (v := (.slice A65 s60.2.2.length c66)) (Yields.load rfl (Loads.H1 3 rfl tc22 rfl)) trivial rfl rfl ?_
                        refine St.val (v := (.agg #[.int .i64 q119.1, .string (bs q119.2.1), .int .i64 q119.2.2.1, .slice none 0 0])) (Yields.load rfl (Loads.Hk (vs := [.int .i64 q119.1, .string (bs q119.2.1), .int .i64 q119.2.2.1, .slice none 0 0]) 1 rfl ta24 rfl rfl)) trivial rfl rfl ?_
                        refine St.buildSlice (e := 24) (cells := #[.int .i64 q119.1, .string (bs q119.2.1), .int .i64 q119.2.2.1, .slice none 0 0]) (vs := #[(0, .agg #[.int .i64 q119.1, .string (bs q119.2.1), .int .i64 q119.2.2.1, .slice none 0 0])]) (fun _ ha => evp1 ha rfl) (fun _ => by kernel_rfl) rfl trivial ?_
                        intro b126
                        obtain ⟨x131, e132, hm⟩ := bS hm
                        refine St.pushL (R := [blk b126 (.cells #[.int .i64 q119.1, .string (bs q119.2.1), .int .i64 q119.2.2.1, .slice none 0 0] 24 (0, 0)), blk pbl0 (.cells #[.string (bs a1), .int .i64 (Mir.w64 (q78.2 + ((q78.1.length : Nat) : Int))), .int .i64 s60.2.1] 50 (0, 0)), blk b123 (.cells #[.int .i64 q119.1, .string (bs q119.2.1), .int .i64 q119.2.2.1, .slice none 0 0] 24 (0, 0)), blk b1 (.cells #[.int .i64 0, .string (bs []), .int .i64 0, .slice none 0 0] 24 (0, 0)), blk b39 (.cells #[.int .i64 q35.1, .string (bs q35.2.1), .int .i64 q35.2.2.1, .slice A65 s60.2.2.length c66] 24 (0, 0))]) (R3 := [blk pbl0 (.cells #[.string (bs a1), .int .i64 (Mir.w64 (q78.2 + ((q78.1.length : Nat) : Int))), .int .i64 s60.2.1] 50 (0, 0)), blk b123 (.cells #[.int .i64 q119.1, .string (bs q119.2.1), .int .i64 q119.2.2.1, .slice none 0 0] 24 (0, 0)), blk b1 (.cells #[.int .i64 0, .string (bs []), .int .i64 0, .slice none 0 0] 24 (0, 0)), blk b39 (.cells #[.int .i64 q35.1, .string (bs q35.2.1), .int .i64 q35.2.2.1, .slice A65 s60.2.2.length c66] 24 (0, 0))]) e132 ts22 rfl rfl rfl rfl rfl 5 rfl rfl 0 rfl 0 rfl rfl (Cat.mono (PH.le_trans l81 (PH.le_trans l112 l122)) h67) ⟨[.int .i64 q119.1, .string (bs q119.2.1), .int .i64 q119.2.2.1, .slice none 0 0], _, rfl, (DValue.shut Fsl.nil), rfl⟩ rfl trivial ?_
                        intro A127 c128 cells129 h130
                        refine St.val (v := (.pointer (some ⟨b39, 3, none⟩))) (Yields.fieldAddr (v := (.pointer (some ⟨b39, 3, none⟩))) rfl (fun _ => by kernel_rfl)) trivial rfl rfl ?_
                        refine St.store (R := [rowo A127 x131.length c128 24 4 cells129, blk pbl0 (.cells #[.string (bs a1), .int .i64 (Mir.w64 (q78.2 + ((q78.1.length : Nat) : Int))), .int .i64 s60.2.1] 50 (0, 0)), blk b123 (.cells #[.int .i64 q119.1, .string (bs q119.2.1), .int .i64 q119.2.2.1, .slice none 0 0] 24 (0, 0)), blk b1 (.cells #[.int .i64 0, .string (bs []), .int .i64 0, .slice none 0 0] 24 (0, 0))]) rfl rfl 4 rfl rfl tc22 rfl rfl trivial (cs' := #[.int .i64 q35.1, .string (bs q35.2.1), .int .i64 q35.2.2.1, .slice A127 x131.length c128]) rfl ?_
                        refine St.nil ?_
                        refine St.innorm ?_
                        refine St.norm ?_
                        obtain rfl := sI hm
                        intro a w ha hs
                        exact ⟨(Mir.w64 (q78.2 + ((q78.1.length : Nat) : Int)), s60.2.1, x131), aL ho63, A127, c128, cells129, F121, (PH.le_trans l71 (PH.le_trans l81 (PH.le_trans l112 l122))), h130, (Bnd.of_push e132), ha.covers ⟨rfl, rfl, rfl, rfl, trivial⟩, (Among.of (Among.take 2 rfl rfl (Among.take 3 rfl rfl (Among.take 0 rfl rfl (Among.take 0 rfl rfl Among.none)))) _ hs)⟩
              · intro q134
                replace q134 : ¬ (z73 = true) := bf q134
                replace hm := iF hm q134
                refine St.exit ?_
                refine St.thenexit ?_
                refine St.thenexit ?_
                refine St.inexit ?_
                obtain rfl := sI hm
                obtain rfl := aR ho63
                intro a w ha hs
                exact ⟨A65, c66, cells68, F70, l71, h67, b69, ha.covers ⟨rfl, rfl, trivial⟩, (Among.of (Among.take 0 rfl rfl (Among.take 0 rfl rfl (Among.take 0 rfl rfl (Among.take 0 rfl rfl Among.none)))) _ hs)⟩
        · rintro a w ⟨A44, c45, cells47, F41, l42, h46, b48, ha, hs⟩
          replace hm := hk49
          refine St.use (?_ : St _ _ _ _ _ _) ha hs
          clear ha hs a w
          refine St.seq ?_
          refine St.region ?_
          refine St.val (v := (.agg #[.int .i64 q35.1, .string (bs q35.2.1), .int .i64 q35.2.2.1, .slice A44 z40.2.2.length c45])) (Yields.load rfl (Loads.Hk (vs := [.int .i64 q35.1, .string (bs q35.2.1), .int .i64 q35.2.2.1, .slice A44 z40.2.2.length c45]) 2 rfl ta24 rfl rfl)) trivial rfl rfl ?_
          refine St.storen (R := [blk pbl0 (.cells #[.string (bs a1), .int .i64 z40.1, .int .i64 z40.2.1] 50 (0, 0)), blk b39 (.cells #[.int .i64 q35.1, .string (bs q35.2.1), .int .i64 q35.2.2.1, .slice A44 z40.2.2.length c45] 24 (0, 0)), rowo A44 z40.2.2.length c45 24 4 cells47]) rfl rfl 1 rfl rfl ta24 rfl rfl rfl trivial (cs' := #[.int .i64 q35.1, .string (bs q35.2.1), .int .i64 q35.2.2.1, .slice A44 z40.2.2.length c45]) rfl ?_
          refine St.nil ?_
          refine St.norm ?_
          refine St.ret ?_
          refine St.frz 3 rfl rfl rfl h46 b48 ?_
          intro F135 l136 h137
          obtain rfl := sI hm
          exact St.doneR1 rfl (ResOk.cell rfl (Loads.Hk (vs := [.int .i64 q35.1, .string (bs q35.2.1), .int .i64 q35.2.2.1, .slice A44 z40.2.2.length c45]) 0 rfl ta24 rfl rfl)) ⟨A44, c45, rfl, h137, rfl⟩ (fun w hs => Among.of (Among.take 1 rfl rfl Among.none) w hs)
theorem m_value_reader_any_all : ∀ g, m_value_reader_group_S g ∧ m_value_reader_any_S g
  | 0 => ⟨(by (try unfold m_value_reader_group_S); intros; rename_i hm; exact nomatch (show (none : Option _) = some _ from hm)), (by (try unfold m_value_reader_any_S); intros; rename_i hm; exact nomatch (show (none : Option _) = some _ from hm))⟩
  | g + 1 => let ⟨h0, h1⟩ := m_value_reader_any_all g
    ⟨m_value_reader_group_st h0 h1, m_value_reader_any_st h0 h1⟩
theorem m_value_reader_group_sp {F : PH} {g : Nat} {a0 : Int} {a1 : List UInt8} {a2 : Int} {a3 : Int} {pbl0 : Nat} {r : DValue × Int × Int} (hm : m_value_reader_group g a0 a1 a2 a3 = some r) :
    CallSp Try.prog 61 #[.pointer (some ⟨pbl0, 0, none⟩), .int .i64 a0] F [blk pbl0 (.cells #[.string (bs a1), .int .i64 a2, .int .i64 a3] 50 (0, 0))] (fun u F' H' => ∃ (B0_0 : Option Addr) (d0_0 : Nat), u = (.agg #[.int .i64 r.1.Op, .string (bs r.1.Name), .int .i64 r.1.N, .slice B0_0 r.1.Kids.length d0_0]) ∧ Fsl 56 KDValue F' B0_0 d0_0 r.1.Kids ∧ H' = [blk pbl0 (.cells #[.string (bs a1), .int .i64 r.2.1, .int .i64 r.2.2] 50 (0, 0))]) := (m_value_reader_any_all g).1 hm
theorem m_value_reader_any_sp {F : PH} {g : Nat} {a0 : Int} {a1 : List UInt8} {a2 : Int} {a3 : Int} {pbl0 : Nat} {r : DValue × Int × Int} (hm : m_value_reader_any g a0 a1 a2 a3 = some r) :
    CallSp Try.prog 27 #[.pointer (some ⟨pbl0, 0, none⟩), .int .i64 a0] F [blk pbl0 (.cells #[.string (bs a1), .int .i64 a2, .int .i64 a3] 50 (0, 0))] (fun u F' H' => ∃ (B0_0 : Option Addr) (d0_0 : Nat), u = (.agg #[.int .i64 r.1.Op, .string (bs r.1.Name), .int .i64 r.1.N, .slice B0_0 r.1.Kids.length d0_0]) ∧ Fsl 56 KDValue F' B0_0 d0_0 r.1.Kids ∧ H' = [blk pbl0 (.cells #[.string (bs a1), .int .i64 r.2.1, .int .i64 r.2.2] 50 (0, 0))]) := (m_value_reader_any_all g).2 hm

abbrev m_value_deep_f1_S (g : Nat) : Prop := ∀ {F : PH} {a0 : DValue} {a1 : Int} {pbl0 : Nat} {pA0_0 : Option Addr} {pc0_0 : Nat} (ph0_0 : Fsl 56 KDValue F pA0_0 pc0_0 a0.Kids) {r : Bool} (_ : m_value_deep_f1 g a0 a1 = some r),
    CallSp Try.prog 91 #[.agg #[.int .i64 a0.Op, .string (bs a0.Name), .int .i64 a0.N, .slice pA0_0 a0.Kids.length pc0_0], .pointer (some ⟨pbl0, 0, none⟩)] F [blk pbl0 (.cells #[.int .i64 a1] 3 (0, 0))] (fun u F' H' => u = (.bool r) ∧ H' = [blk pbl0 (.cells #[.int .i64 a1] 3 (0, 0))])
abbrev m_api_Value_2_S (g : Nat) : Prop := ∀ {F : PH} {a0 : List DValue} {a1 : Int} {pbl0 : Nat} {pA0 : Option Addr} {pc0 : Nat} (ph0 : Fsl 56 KDValue F pA0 pc0 a0) {r : Int} (_ : m_api_Value_2 g a0 a1 = some r),
    CallSp Try.prog 102 #[.slice pA0 a0.length pc0, .func (.func 91) #[] #[.pointer (some ⟨pbl0, 0, none⟩)]] F [blk pbl0 (.cells #[.int .i64 a1] 3 (0, 0))] (fun u F' H' => u = (.int .i64 r) ∧ H' = [blk pbl0 (.cells #[.int .i64 a1] 3 (0, 0))])
abbrev m_api_Value_S (g : Nat) : Prop := ∀ {F : PH} {a0 : List DValue} {a1 : Int} {pbl0 : Nat} {pA0 : Option Addr} {pc0 : Nat} (ph0 : Fsl 56 KDValue F pA0 pc0 a0) {r : Bool} (_ : m_api_Value g a0 a1 = some r),
    CallSp Try.prog 90 #[.slice pA0 a0.length pc0, .func (.func 91) #[] #[.pointer (some ⟨pbl0, 0, none⟩)]] F [blk pbl0 (.cells #[.int .i64 a1] 3 (0, 0))] (fun u F' H' => u = (.bool r) ∧ H' = [blk pbl0 (.cells #[.int .i64 a1] 3 (0, 0))])
abbrev m_value_deep_S (g : Nat) : Prop := ∀ {F : PH} {a0 : DValue} {a1 : Int} {pA0_0 : Option Addr} {pc0_0 : Nat} (ph0_0 : Fsl 56 KDValue F pA0_0 pc0_0 a0.Kids) {r : Bool} (_ : m_value_deep g a0 a1 = some r),
    CallSp Try.prog 64 #[.agg #[.int .i64 a0.Op, .string (bs a0.Name), .int .i64 a0.N, .slice pA0_0 a0.Kids.length pc0_0], .int .i64 a1] F [] (fun u F' H' => u = (.bool r) ∧ H' = [])
theorem m_value_deep_f1_st {g : Nat} (ih_m_value_deep_f1 : m_value_deep_f1_S g) (ih_m_api_Value_2 : m_api_Value_2_S g) (ih_m_api_Value : m_api_Value_S g) (ih_m_value_deep : m_value_deep_S g) : m_value_deep_f1_S (g + 1) := by
  intro F a0 a1 pbl0 pA0_0 pc0_0 ph0_0 r hm
  rw [m_value_deep_f1] at hm
  refine CallSp.enter (args := [.agg #[.int .i64 a0.Op, .string (bs a0.Name), .int .i64 a0.N, .slice pA0_0 a0.Kids.length pc0_0], .pointer (some ⟨pbl0, 0, none⟩)]) Try.func91 rfl rfl ?_
  intro w0 m0 hm0
  refine St.seq ?_
  refine St.region ?_
  refine St.box rfl trivial rfl ?_
  intro b2
  refine St.val (v := (.bool false)) (Yields.assign rfl) trivial rfl rfl ?_
  refine St.nil ?_
  refine St.norm ?_
  refine St.seq ?_
  refine St.region ?_
  refine St.val (v := (.agg #[.int .i64 a0.Op, .string (bs a0.Name), .int .i64 a0.N, .slice pA0_0 a0.Kids.length pc0_0])) (Yields.load rfl (Loads.Hk (vs := [.int .i64 a0.Op, .string (bs a0.Name), .int .i64 a0.N, .slice pA0_0 a0.Kids.length pc0_0]) 0 rfl ta24 rfl rfl)) trivial rfl rfl ?_
  refine St.val (v := (.int .i64 a1)) (Yields.load rfl (Loads.H1 1 rfl tc3 rfl)) trivial rfl rfl ?_
  refine St.val (v := (.int .i64 (Mir.w64 (a1 - 1)))) (Yields.subw rfl rfl) trivial rfl rfl ?_
  obtain ⟨q3, e4, hm⟩ := bS hm
  refine St.call [blk b2 (.cells #[.int .i64 a0.Op, .string (bs a0.Name), .int .i64 a0.N, .slice pA0_0 a0.Kids.length pc0_0] 24 (0, 0)), blk pbl0 (.cells #[.int .i64 a1] 3 (0, 0))] (ih_m_value_deep (a0 := a0) ph0_0 e4) rfl (fun _ ha => ev2 ha rfl rfl) rfl en64 rfl rfl trivial ?_
  rintro _ F5 _ ⟨rfl, rfl⟩ l6
  refine St.val (v := (.bool q3)) (Yields.assign rfl) trivial rfl rfl ?_
  refine St.nil ?_
  refine St.norm ?_
  refine St.ret ?_
  obtain rfl := sI hm
  exact St.doneR1 rfl rfl ⟨rfl, rfl⟩ (fun w hs => Among.of (Among.take 1 rfl rfl Among.none) w hs)

theorem m_api_Value_2_st {g : Nat} (ih_m_value_deep_f1 : m_value_deep_f1_S g) (ih_m_api_Value_2 : m_api_Value_2_S g) (ih_m_api_Value : m_api_Value_S g) (ih_m_value_deep : m_value_deep_S g) : m_api_Value_2_S (g + 1) := by
  intro F a0 a1 pbl0 pA0 pc0 ph0 r hm
  rw [m_api_Value_2] at hm
  refine CallSp.enter (args := [.slice pA0 a0.length pc0, .func (.func 91) #[] #[.pointer (some ⟨pbl0, 0, none⟩)]]) Try.func102 rfl rfl ?_
  intro w0 m0 hm0
  refine St.seq ?_
  refine St.region ?_
  refine St.val (v := (.int .i64 0)) (Yields.assign rfl) trivial rfl rfl ?_
  refine St.nil ?_
  refine St.norm ?_
  obtain ⟨o5, hm, ho6⟩ := jS hm
  refine St.cutI (fun a w => ∃ z2 : Unit, o5 = .inl z2 ∧ ∃ (F3 : PH), PH.le F F3 ∧ Has Try.f102.ntmps a [] ∧ Sat ⟨w0, fun b => m0 b ≠ none, F⟩ F3 [blk pbl0 (.cells #[.int .i64 a1] 3 (0, 0))] w) ?_ ?_
  · skip
    refine St.seq ?_
    refine St.region ?_
    refine St.val (v := (.slice pA0 a0.length pc0)) (Yields.move rfl) trivial rfl rfl ?_
    refine St.val (v := (.int .i64 ((a0.length : Nat) : Int))) (Yields.lenSlice tu22 rfl) trivial rfl rfl ?_
    refine St.val (v := (.int .i64 0)) (Yields.move rfl) trivial rfl rfl ?_
    refine St.nil ?_
    refine St.norm ?_
    refine St.block ?_
    refine St.loopM hm (fun s9 a w => ∃ (F13 : PH), PH.le F F13 ∧ Has Try.f102.ntmps a [(0, .slice pA0 a0.length pc0), (1, .func (.func 91) #[] #[.pointer (some ⟨pbl0, 0, none⟩)]), (7, .int .i64 ((a0.length : Nat) : Int)), (8, .int .i64 ((s9 : Nat) : Int))] ∧ Sat ⟨w0, fun b => m0 b ≠ none, F⟩ F13 [blk pbl0 (.cells #[.int .i64 a1] 3 (0, 0))] w) ?_ ?_
    · skip
      intro a w ha hs
      exact ⟨F, (PH.le_refl _), ha.covers ⟨rfl, rfl, rfl, rfl, trivial⟩, (Among.of (Among.take 0 rfl rfl Among.none) _ hs)⟩
    · rintro s9 o10 co11 hm ho12 a w ⟨F13, l14, ha, hs⟩
      refine St.use (?_ : St _ _ _ _ _ _) ha hs
      clear ha hs a w
      refine St.seq ?_
      refine St.region ?_
      refine St.val (v := (.bool (decide (((s9 : Nat) : Int) < ((a0.length : Nat) : Int))))) (Yields.lt rfl rfl) trivial rfl rfl ?_
      refine St.nil ?_
      refine St.norm ?_
      refine St.seq ?_
      refine St.cond_b rfl ?_ ?_
      · intro q15
        replace q15 : ((s9 : Nat) : Int) < ((a0.length : Nat) : Int) := of_decide_eq_true q15
        replace hm := iT hm q15
        refine St.skip ?_
        refine St.norm ?_
        refine St.seq ?_
        refine St.block ?_
        refine St.seq ?_
        refine St.region ?_
        refine St.val (v := (.int .i64 ((s9 : Nat) : Int))) (Yields.move rfl) trivial rfl rfl ?_
        refine St.val (v := (.int .i64 ((s9 : Nat) : Int))) (Yields.assign rfl) trivial rfl rfl ?_
        refine St.nil ?_
        refine St.norm ?_
        refine St.seq ?_
        refine St.region ?_
        refine St.val (v := (.func (.func 91) #[] #[.pointer (some ⟨pbl0, 0, none⟩)])) (Yields.move rfl) trivial rfl rfl ?_
        refine St.val (v := (.slice pA0 a0.length pc0)) (Yields.move rfl) trivial rfl rfl ?_
        refine St.val (v := (.int .i64 ((s9 : Nat) : Int))) (Yields.move rfl) trivial rfl rfl ?_
        obtain ⟨x16, e17, hm⟩ := bS hm
        obtain ⟨p18, cs19, jx20, R21, k22⟩ := (Fsl.mono l14 ph0).nidx e17
        obtain ⟨A23, c24, rfl, h25⟩ := DValue.opn R21
        refine St.val (v := (.pointer (some p18))) (Yields.idx jx20 ts22 rfl rfl) trivial rfl rfl ?_
        refine St.val (v := (.agg #[.int .i64 x16.Op, .string (bs x16.Name), .int .i64 x16.N, .slice A23 x16.Kids.length c24])) (Yields.load rfl (Loads.Fatn0 k22 ta24)) trivial rfl rfl ?_
        refine St.pick (R := []) 0 rfl rfl ?_
        obtain ⟨q27, e28, hm⟩ := bS hm
        refine St.call [] (ih_m_value_deep_f1 (a0 := x16) h25 e28) rfl (fun _ ha => ev1 ha rfl) rfl en91 rfl rfl trivial ?_
        rintro _ F29 _ ⟨rfl, rfl⟩ l30
        refine St.nil ?_
        refine St.norm ?_
        refine St.cond_b rfl ?_ ?_
        · intro q31
          replace q31 : q27 = true := q31
          replace hm := iT hm q31
          refine St.seq ?_
          refine St.region ?_
          refine St.val (v := (.int .i64 ((s9 : Nat) : Int))) (Yields.move rfl) trivial rfl rfl ?_
          refine St.val (v := (.int .i64 ((s9 : Nat) : Int))) (Yields.assign rfl) trivial rfl rfl ?_
          refine St.nil ?_
          refine St.norm ?_
          refine St.ret ?_
          refine St.inret ?_
          refine St.thenret ?_
          refine St.thenret ?_
          refine St.inret ?_
          refine St.thenret ?_
          obtain rfl := sI hm
          obtain rfl := aR ho12
          obtain rfl := aR ho6
          exact St.doneR1 rfl rfl ⟨rfl, rfl⟩ (fun w hs => Among.of (Among.take 0 rfl rfl Among.none) w hs)
        · intro q32
          replace q32 : ¬ (q27 = true) := bf q32
          replace hm := iF hm q32
          refine St.skip ?_
          refine St.innorm ?_
          refine St.norm ?_
          refine St.region ?_
          refine St.val (v := (.int .i64 ((s9 + 1 : Nat) : Int))) (Yields.addn (j := 1) rfl rfl rfl (by have q_0 := q15; have q_1 := ph0.bnd.2; omega)) trivial rfl rfl ?_
          refine St.val (v := (.int .i64 ((s9 + 1 : Nat) : Int))) (Yields.move rfl) trivial rfl rfl ?_
          refine St.nil ?_
          refine St.norm ?_
          obtain rfl := sI hm
          intro a w ha hs
          exact ⟨s9 + 1, aL ho12, F29, (PH.le_trans l14 l30), ha.covers ⟨rfl, rfl, rfl, rfl, trivial⟩, (Among.of (Among.take 0 rfl rfl Among.none) _ hs)⟩
      · intro q33
        replace q33 : ¬ (((s9 : Nat) : Int) < ((a0.length : Nat) : Int)) := of_decide_eq_false q33
        replace hm := iF hm q33
        refine St.exit ?_
        refine St.thenexit ?_
        refine St.thenexit ?_
        refine St.inexit ?_
        obtain rfl := sI hm
        obtain rfl := aR ho12
        intro a w ha hs
        exact ⟨(), rfl, F13, l14, ha.covers trivial, (Among.of (Among.take 0 rfl rfl Among.none) _ hs)⟩
  · rintro a w ⟨z2, rfl, F3, l4, ha, hs⟩
    replace hm := aL ho6
    refine St.use (?_ : St _ _ _ _ _ _) ha hs
    clear ha hs a w
    refine St.seq ?_
    refine St.region ?_
    refine St.val (v := (.int .i64 (-1))) (Yields.assign rfl) trivial rfl rfl ?_
    refine St.nil ?_
    refine St.norm ?_
    refine St.ret ?_
    obtain rfl := sI hm
    exact St.doneR1 rfl rfl ⟨rfl, rfl⟩ (fun w hs => Among.of (Among.take 0 rfl rfl Among.none) w hs)

theorem m_api_Value_st {g : Nat} (ih_m_value_deep_f1 : m_value_deep_f1_S g) (ih_m_api_Value_2 : m_api_Value_2_S g) (ih_m_api_Value : m_api_Value_S g) (ih_m_value_deep : m_value_deep_S g) : m_api_Value_S (g + 1) := by
  intro F a0 a1 pbl0 pA0 pc0 ph0 r hm
  rw [m_api_Value] at hm
  refine CallSp.enter (args := [.slice pA0 a0.length pc0, .func (.func 91) #[] #[.pointer (some ⟨pbl0, 0, none⟩)]]) Try.func90 rfl rfl ?_
  intro w0 m0 hm0
  refine St.seq ?_
  refine St.region ?_
  refine St.val (v := (.bool false)) (Yields.assign rfl) trivial rfl rfl ?_
  refine St.nil ?_
  refine St.norm ?_
  refine St.seq ?_
  refine St.region ?_
  refine St.val (v := (.slice pA0 a0.length pc0)) (Yields.move rfl) trivial rfl rfl ?_
  refine St.val (v := (.func (.func 91) #[] #[.pointer (some ⟨pbl0, 0, none⟩)])) (Yields.move rfl) trivial rfl rfl ?_
  refine St.pick (R := []) 0 rfl rfl ?_
  obtain ⟨q2, e3, hm⟩ := bS hm
  refine St.call [] (ih_m_api_Value_2 ph0 e3) rfl (fun _ ha => ev2 ha rfl rfl) rfl en102 rfl rfl trivial ?_
  rintro _ F4 _ ⟨rfl, rfl⟩ l5
  refine St.val (v := (.bool (decide (q2 ≥ 0)))) (Yields.ge rfl rfl) trivial rfl rfl ?_
  refine St.val (v := (.bool (decide (q2 ≥ 0)))) (Yields.assign rfl) trivial rfl rfl ?_
  refine St.nil ?_
  refine St.norm ?_
  refine St.ret ?_
  obtain rfl := sI hm
  exact St.doneR1 rfl rfl ⟨rfl, rfl⟩ (fun w hs => Among.of (Among.take 0 rfl rfl Among.none) w hs)

theorem m_value_deep_st {g : Nat} (ih_m_value_deep_f1 : m_value_deep_f1_S g) (ih_m_api_Value_2 : m_api_Value_2_S g) (ih_m_api_Value : m_api_Value_S g) (ih_m_value_deep : m_value_deep_S g) : m_value_deep_S (g + 1) := by
  intro F a0 a1 pA0_0 pc0_0 ph0_0 r hm
  rw [m_value_deep] at hm
  refine CallSp.enter (args := [.agg #[.int .i64 a0.Op, .string (bs a0.Name), .int .i64 a0.N, .slice pA0_0 a0.Kids.length pc0_0], .int .i64 a1]) Try.func64 rfl rfl ?_
  intro w0 m0 hm0
  refine St.seq ?_
  refine St.region ?_
  refine St.box rfl trivial rfl ?_
  intro b2
  refine St.box rfl trivial rfl ?_
  intro b3
  refine St.val (v := (.bool false)) (Yields.assign rfl) trivial rfl rfl ?_
  refine St.nil ?_
  refine St.norm ?_
  refine St.seq ?_
  refine St.seq ?_
  refine St.region ?_
  refine St.val (v := (.int .i64 a1)) (Yields.load rfl (Loads.H1 0 rfl tc3 rfl)) trivial rfl rfl ?_
  refine St.val (v := (.bool (decide (a1 < 1)))) (Yields.lt rfl rfl) trivial rfl rfl ?_
  refine St.nil ?_
  refine St.norm ?_
  refine St.cond_b rfl ?_ ?_
  · intro q4
    replace q4 : a1 < 1 := of_decide_eq_true q4
    replace hm := iT hm q4
    refine St.seq ?_
    refine St.region ?_
    refine St.val (v := (.bool true)) (Yields.assign rfl) trivial rfl rfl ?_
    refine St.nil ?_
    refine St.norm ?_
    refine St.ret ?_
    refine St.thenret ?_
    obtain rfl := sI hm
    exact St.doneR1 rfl rfl ⟨rfl, rfl⟩ (fun w hs => Among.of Among.none w hs)
  · intro q5
    replace q5 : ¬ (a1 < 1) := of_decide_eq_false q5
    replace hm := iF hm q5
    refine St.skip ?_
    refine St.norm ?_
    refine St.seq ?_
    refine St.region ?_
    refine St.val (v := (.pointer (some ⟨b2, 3, none⟩))) (Yields.fieldAddr (v := (.pointer (some ⟨b2, 3, none⟩))) rfl (fun _ => by kernel_rfl)) trivial rfl rfl ?_
    refine St.val (v := (.slice pA0_0 a0.Kids.length pc0_0)) (Yields.load rfl (Loads.H1 1 rfl tc22 rfl)) trivial rfl rfl ?_
    refine St.val (v := (.func (.func 91) #[] #[.pointer (some ⟨b3, 0, none⟩)])) (Yields.makeFunc (fun _ _ => ev0) (fun _ ha => ev1 ha rfl)) trivial rfl rfl ?_
    refine St.pick (R := [blk b2 (.cells #[.int .i64 a0.Op, .string (bs a0.Name), .int .i64 a0.N, .slice pA0_0 a0.Kids.length pc0_0] 24 (0, 0))]) 0 rfl rfl ?_
    obtain ⟨q6, e7, hm⟩ := bS hm
    refine St.call [blk b2 (.cells #[.int .i64 a0.Op, .string (bs a0.Name), .int .i64 a0.N, .slice pA0_0 a0.Kids.length pc0_0] 24 (0, 0))] (ih_m_api_Value ph0_0 e7) rfl (fun _ ha => ev2 ha rfl rfl) rfl en90 rfl rfl trivial ?_
    rintro _ F8 _ ⟨rfl, rfl⟩ l9
    refine St.val (v := (.bool q6)) (Yields.assign rfl) trivial rfl rfl ?_
    refine St.nil ?_
    refine St.norm ?_
    refine St.ret ?_
    obtain rfl := sI hm
    exact St.doneR1 rfl rfl ⟨rfl, rfl⟩ (fun w hs => Among.of Among.none w hs)
theorem m_value_deep_all : ∀ g, m_value_deep_f1_S g ∧ m_api_Value_2_S g ∧ m_api_Value_S g ∧ m_value_deep_S g
  | 0 => ⟨(by (try unfold m_value_deep_f1_S); intros; rename_i hm; exact nomatch (show (none : Option _) = some _ from hm)), (by (try unfold m_api_Value_2_S); intros; rename_i hm; exact nomatch (show (none : Option _) = some _ from hm)), (by (try unfold m_api_Value_S); intros; rename_i hm; exact nomatch (show (none : Option _) = some _ from hm)), (by (try unfold m_value_deep_S); intros; rename_i hm; exact nomatch (show (none : Option _) = some _ from hm))⟩
  | g + 1 => let ⟨h0, h1, h2, h3⟩ := m_value_deep_all g
    ⟨m_value_deep_f1_st h0 h1 h2 h3, m_api_Value_2_st h0 h1 h2 h3, m_api_Value_st h0 h1 h2 h3, m_value_deep_st h0 h1 h2 h3⟩
theorem m_value_deep_f1_sp {F : PH} {g : Nat} {a0 : DValue} {a1 : Int} {pbl0 : Nat} {pA0_0 : Option Addr} {pc0_0 : Nat} (ph0_0 : Fsl 56 KDValue F pA0_0 pc0_0 a0.Kids) {r : Bool} (hm : m_value_deep_f1 g a0 a1 = some r) :
    CallSp Try.prog 91 #[.agg #[.int .i64 a0.Op, .string (bs a0.Name), .int .i64 a0.N, .slice pA0_0 a0.Kids.length pc0_0], .pointer (some ⟨pbl0, 0, none⟩)] F [blk pbl0 (.cells #[.int .i64 a1] 3 (0, 0))] (fun u F' H' => u = (.bool r) ∧ H' = [blk pbl0 (.cells #[.int .i64 a1] 3 (0, 0))]) := (m_value_deep_all g).1 ph0_0 hm
theorem m_api_Value_2_sp {F : PH} {g : Nat} {a0 : List DValue} {a1 : Int} {pbl0 : Nat} {pA0 : Option Addr} {pc0 : Nat} (ph0 : Fsl 56 KDValue F pA0 pc0 a0) {r : Int} (hm : m_api_Value_2 g a0 a1 = some r) :
    CallSp Try.prog 102 #[.slice pA0 a0.length pc0, .func (.func 91) #[] #[.pointer (some ⟨pbl0, 0, none⟩)]] F [blk pbl0 (.cells #[.int .i64 a1] 3 (0, 0))] (fun u F' H' => u = (.int .i64 r) ∧ H' = [blk pbl0 (.cells #[.int .i64 a1] 3 (0, 0))]) := (m_value_deep_all g).2.1 ph0 hm
theorem m_api_Value_sp {F : PH} {g : Nat} {a0 : List DValue} {a1 : Int} {pbl0 : Nat} {pA0 : Option Addr} {pc0 : Nat} (ph0 : Fsl 56 KDValue F pA0 pc0 a0) {r : Bool} (hm : m_api_Value g a0 a1 = some r) :
    CallSp Try.prog 90 #[.slice pA0 a0.length pc0, .func (.func 91) #[] #[.pointer (some ⟨pbl0, 0, none⟩)]] F [blk pbl0 (.cells #[.int .i64 a1] 3 (0, 0))] (fun u F' H' => u = (.bool r) ∧ H' = [blk pbl0 (.cells #[.int .i64 a1] 3 (0, 0))]) := (m_value_deep_all g).2.2.1 ph0 hm
theorem m_value_deep_sp {F : PH} {g : Nat} {a0 : DValue} {a1 : Int} {pA0_0 : Option Addr} {pc0_0 : Nat} (ph0_0 : Fsl 56 KDValue F pA0_0 pc0_0 a0.Kids) {r : Bool} (hm : m_value_deep g a0 a1 = some r) :
    CallSp Try.prog 64 #[.agg #[.int .i64 a0.Op, .string (bs a0.Name), .int .i64 a0.N, .slice pA0_0 a0.Kids.length pc0_0], .int .i64 a1] F [] (fun u F' H' => u = (.bool r) ∧ H' = []) := (m_value_deep_all g).2.2.2 ph0_0 hm

abbrev m_value_count_S (g : Nat) : Prop := ∀ {F : PH} {a0 : DValue} {pA0_0 : Option Addr} {pc0_0 : Nat} (ph0_0 : Fsl 56 KDValue F pA0_0 pc0_0 a0.Kids) {r : Int} (_ : m_value_count g a0 = some r),
    CallSp Try.prog 65 #[.agg #[.int .i64 a0.Op, .string (bs a0.Name), .int .i64 a0.N, .slice pA0_0 a0.Kids.length pc0_0]] F [] (fun u F' H' => u = (.int .i64 r) ∧ H' = [])
theorem m_value_count_st {g : Nat} (ih_m_value_count : m_value_count_S g) : m_value_count_S (g + 1) := by
  intro F a0 pA0_0 pc0_0 ph0_0 r hm
  rw [m_value_count] at hm
  refine CallSp.enter (args := [.agg #[.int .i64 a0.Op, .string (bs a0.Name), .int .i64 a0.N, .slice pA0_0 a0.Kids.length pc0_0]]) Try.func65 rfl rfl ?_
  intro w0 m0 hm0
  refine St.seq ?_
  refine St.region ?_
  refine St.box rfl trivial rfl ?_
  intro b2
  refine St.val (v := (.int .i64 0)) (Yields.assign rfl) trivial rfl rfl ?_
  refine St.nil ?_
  refine St.norm ?_
  refine St.seq ?_
  refine St.region ?_
  refine St.val (v := (.int .i64 1)) (Yields.assign rfl) trivial rfl rfl ?_
  refine St.nil ?_
  refine St.norm ?_
  obtain ⟨z3, hm, hk6⟩ := bS hm
  refine St.cutI (fun a w => ∃ (F4 : PH), PH.le F F4 ∧ Has Try.f65.ntmps a [(3, .int .i64 z3)] ∧ Sat ⟨w0, fun b => m0 b ≠ none, F⟩ F4 [] w) ?_ ?_
  · skip
    refine St.seq ?_
    refine St.region ?_
    refine St.val (v := (.int .i64 0)) (Yields.assign rfl) trivial rfl rfl ?_
    refine St.nil ?_
    refine St.norm ?_
    refine St.block ?_
    refine St.loopM hm (fun s13 a w => ∃ (F17 : PH), PH.le F F17 ∧ Has Try.f65.ntmps a [(1, .pointer (some ⟨b2, 0, none⟩)), (3, .int .i64 s13.1), (4, .int .i64 s13.2)] ∧ Sat ⟨w0, fun b => m0 b ≠ none, F⟩ F17 [blk b2 (.cells #[.int .i64 a0.Op, .string (bs a0.Name), .int .i64 a0.N, .slice pA0_0 a0.Kids.length pc0_0] 24 (0, 0))] w) ?_ ?_
    · skip
      intro a w ha hs
      exact ⟨F, (PH.le_refl _), ha.covers ⟨rfl, rfl, rfl, trivial⟩, (Among.of (Among.take 0 rfl rfl Among.none) _ hs)⟩
    · rintro s13 o14 co15 hm ho16 a w ⟨F17, l18, ha, hs⟩
      refine St.use (?_ : St _ _ _ _ _ _) ha hs
      clear ha hs a w
      refine St.seq ?_
      obtain ⟨z19, hm, hk20⟩ := bS hm
      refine St.cutI (fun a w => Has Try.f65.ntmps a [(1, .pointer (some ⟨b2, 0, none⟩)), (3, .int .i64 s13.1), (4, .int .i64 s13.2), (13, .bool z19)] ∧ Sat ⟨w0, fun b => m0 b ≠ none, F⟩ F17 [blk b2 (.cells #[.int .i64 a0.Op, .string (bs a0.Name), .int .i64 a0.N, .slice pA0_0 a0.Kids.length pc0_0] 24 (0, 0))] w) ?_ ?_
      · skip
        refine St.region ?_
        refine St.val (v := (.int .i64 s13.2)) (Yields.move rfl) trivial rfl rfl ?_
        refine St.val (v := (.pointer (some ⟨b2, 3, none⟩))) (Yields.fieldAddr (v := (.pointer (some ⟨b2, 3, none⟩))) rfl (fun _ => by kernel_rfl)) trivial rfl rfl ?_
        refine St.val (v := (.slice pA0_0 a0.Kids.length pc0_0)) (Yields.load rfl (Loads.H1 0 rfl tc22 rfl)) trivial rfl rfl ?_
        refine St.val (v := (.int .i64 ((a0.Kids.length : Nat) : Int))) (Yields.lenSlice tu22 rfl) trivial rfl rfl ?_
        by_cases q21 : s13.2 < ((a0.Kids.length : Nat) : Int)
        · replace hm := iT hm q21
          refine St.val (v := (.bool true)) (Yields.is q21 (Yields.lt rfl rfl)) trivial rfl rfl ?_
          refine St.val (v := (.bool true)) (Yields.move rfl) trivial rfl rfl ?_
          refine St.val (v := (.int .i64 s13.1)) (Yields.move rfl) rfl rfl rfl ?_
          refine St.val (v := (.bool (decide (s13.1 ≤ 300)))) (Yields.le rfl rfl) rfl rfl rfl ?_
          refine St.val (v := (.bool (decide (s13.1 ≤ 300)))) (Yields.pick_t rfl rfl) trivial rfl rfl ?_
          refine St.nil ?_
          obtain rfl := sI hm
          intro a w ha hs
          exact ⟨ha.covers ⟨rfl, rfl, rfl, rfl, trivial⟩, (Among.of (Among.take 0 rfl rfl Among.none) _ hs)⟩
        · replace hm := iF hm q21
          refine St.val (v := (.bool false)) (Yields.isnt q21 (Yields.lt rfl rfl)) trivial rfl rfl ?_
          refine St.val (v := (.bool false)) (Yields.move rfl) trivial rfl rfl ?_
          refine St.unwanted rfl rfl rfl ?_
          refine St.unwanted rfl rfl rfl ?_
          refine St.val (v := (.bool false)) (Yields.pick_f rfl rfl) trivial rfl rfl ?_
          refine St.nil ?_
          obtain rfl := sI hm
          intro a w ha hs
          exact ⟨ha.covers ⟨rfl, rfl, rfl, rfl, trivial⟩, (Among.of (Among.take 0 rfl rfl Among.none) _ hs)⟩
      · rintro a w ⟨ha, hs⟩
        replace hm := hk20
        refine St.use (?_ : St _ _ _ _ _ _) ha hs
        clear ha hs a w
        refine St.cond_b rfl ?_ ?_
        · intro q22
          replace q22 : z19 = true := q22
          replace hm := iT hm q22
          refine St.skip ?_
          refine St.norm ?_
          refine St.seq ?_
          refine St.block ?_
          refine St.region ?_
          refine St.val (v := (.int .i64 s13.1)) (Yields.move rfl) trivial rfl rfl ?_
          refine St.val (v := (.pointer (some ⟨b2, 3, none⟩))) (Yields.fieldAddr (v := (.pointer (some ⟨b2, 3, none⟩))) rfl (fun _ => by kernel_rfl)) trivial rfl rfl ?_
          refine St.val (v := (.slice pA0_0 a0.Kids.length pc0_0)) (Yields.load rfl (Loads.H1 0 rfl tc22 rfl)) trivial rfl rfl ?_
          refine St.val (v := (.int .i64 s13.2)) (Yields.move rfl) trivial rfl rfl ?_
          obtain ⟨x23, e24, hm⟩ := bS hm
          obtain ⟨p25, cs26, jx27, R28, k29⟩ := (Fsl.mono l18 ph0_0).idx e24
          obtain ⟨A30, c31, rfl, h32⟩ := DValue.opn R28
          refine St.val (v := (.pointer (some p25))) (Yields.idx jx27 ts22 rfl rfl) trivial rfl rfl ?_
          refine St.val (v := (.agg #[.int .i64 x23.Op, .string (bs x23.Name), .int .i64 x23.N, .slice A30 x23.Kids.length c31])) (Yields.load rfl (Loads.Fatn0 k29 ta24)) trivial rfl rfl ?_
          obtain ⟨q34, e35, hm⟩ := bS hm
          refine St.call [blk b2 (.cells #[.int .i64 a0.Op, .string (bs a0.Name), .int .i64 a0.N, .slice pA0_0 a0.Kids.length pc0_0] 24 (0, 0))] (ih_m_value_count (a0 := x23) h32 e35) rfl (fun _ ha => ev1 ha rfl) rfl en65 rfl rfl trivial ?_
          rintro _ F36 _ ⟨rfl, rfl⟩ l37
          refine St.val (v := (.int .i64 (Mir.w64 (s13.1 + q34)))) (Yields.addw rfl rfl) trivial rfl rfl ?_
          refine St.val (v := (.int .i64 (Mir.w64 (s13.1 + q34)))) (Yields.assign rfl) trivial rfl rfl ?_
          refine St.nil ?_
          refine St.innorm ?_
          refine St.norm ?_
          refine St.region ?_
          refine St.val (v := (.int .i64 s13.2)) (Yields.move rfl) trivial rfl rfl ?_
          refine St.val (v := (.int .i64 (Mir.w64 (s13.2 + 1)))) (Yields.addw rfl rfl) trivial rfl rfl ?_
          refine St.val (v := (.int .i64 (Mir.w64 (s13.2 + 1)))) (Yields.assign rfl) trivial rfl rfl ?_
          refine St.nil ?_
          refine St.norm ?_
          obtain rfl := sI hm
          intro a w ha hs
          exact ⟨(Mir.w64 (s13.1 + q34), Mir.w64 (s13.2 + 1)), aL ho16, F36, (PH.le_trans l18 l37), ha.covers ⟨rfl, rfl, rfl, trivial⟩, (Among.of (Among.take 0 rfl rfl Among.none) _ hs)⟩
        · intro q38
          replace q38 : ¬ (z19 = true) := bf q38
          replace hm := iF hm q38
          refine St.exit ?_
          refine St.thenexit ?_
          refine St.thenexit ?_
          refine St.inexit ?_
          obtain rfl := sI hm
          obtain rfl := aR ho16
          intro a w ha hs
          exact ⟨F17, l18, ha.covers ⟨rfl, trivial⟩, (Among.of Among.none _ hs)⟩
  · rintro a w ⟨F4, l5, ha, hs⟩
    replace hm := hk6
    refine St.use (?_ : St _ _ _ _ _ _) ha hs
    clear ha hs a w
    refine St.seq ?_
    refine St.region ?_
    refine St.val (v := (.int .i64 z3)) (Yields.move rfl) trivial rfl rfl ?_
    refine St.val (v := (.int .i64 z3)) (Yields.assign rfl) trivial rfl rfl ?_
    refine St.nil ?_
    refine St.norm ?_
    refine St.ret ?_
    obtain rfl := sI hm
    exact St.doneR1 rfl rfl ⟨rfl, rfl⟩ (fun w hs => Among.of Among.none w hs)
theorem m_value_count_all : ∀ g, m_value_count_S g
  | 0 => (by (try unfold m_value_count_S); intros; rename_i hm; exact nomatch (show (none : Option _) = some _ from hm))
  | g + 1 => m_value_count_st (m_value_count_all g)
theorem m_value_count_sp {F : PH} {g : Nat} {a0 : DValue} {pA0_0 : Option Addr} {pc0_0 : Nat} (ph0_0 : Fsl 56 KDValue F pA0_0 pc0_0 a0.Kids) {r : Int} (hm : m_value_count g a0 = some r) :
    CallSp Try.prog 65 #[.agg #[.int .i64 a0.Op, .string (bs a0.Name), .int .i64 a0.N, .slice pA0_0 a0.Kids.length pc0_0]] F [] (fun u F' H' => u = (.int .i64 r) ∧ H' = []) := (m_value_count_all g) ph0_0 hm

end Go.Proofs.Ytchecaeeiejjjaa
