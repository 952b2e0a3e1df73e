/- Each function does what its plain words tell. -/
import Derived.Test.YtjjmdiddgcllkaaWa
namespace Go.Proofs.Ytjjmdiddgcllkaa
open Go Go.Sy Go.RowKit
set_option linter.unusedVariables false
open Go.Mir
theorem m_search_Leaves_sp {F : PH} {g : Nat} {a0 : DSTree} {a1 : Int} {a2 : Int} {pA0_0 : Option Addr} {pc0_0 : Nat} (ph0_0 : Fsl 32 KDSTree F pA0_0 pc0_0 a0.Kids) {r : List Int × Bool × Int} (hm : m_search_Leaves g a0 a1 a2 = some r) :
    CallSp Try.prog 6 #[.agg #[.int .i64 a0.N, .slice pA0_0 a0.Kids.length pc0_0], .int .i64 a1, .int .i64 a2] F [] (fun u F' H' => ∃ (B0 : Option Addr) (d0 : Nat), u = (.tuple #[.slice B0 r.1.length d0, .bool r.2.1, .int .i64 r.2.2]) ∧ Fsl 8 (Kind.int .i64) F' B0 d0 r.1 ∧ H' = []) := by
  unfold m_search_Leaves at hm
  refine CallSp.enter (args := [.agg #[.int .i64 a0.N, .slice pA0_0 a0.Kids.length pc0_0], .int .i64 a1, .int .i64 a2]) Try.func6 rfl rfl ?_
  intro w0 m0 hm0
  refine St.seq ?_
  refine St.region ?_
  refine St.box rfl trivial rfl ?_
  intro b2
  refine St.val (v := (.slice none 0 0)) (Yields.assign rfl) trivial rfl rfl ?_
  refine St.val (v := (.bool false)) (Yields.assign rfl) trivial rfl rfl ?_
  refine St.val (v := (.int .i64 0)) (Yields.assign rfl) trivial rfl rfl ?_
  refine St.nil ?_
  refine St.norm ?_
  refine St.seq ?_
  refine St.seq ?_
  refine St.region ?_
  refine St.val (v := (.agg #[.int .i64 a0.N, .slice pA0_0 a0.Kids.length pc0_0])) (Yields.load rfl (Loads.Hk (vs := [.int .i64 a0.N, .slice pA0_0 a0.Kids.length pc0_0]) 0 rfl ta24 rfl rfl)) trivial rfl rfl ?_
  obtain ⟨q3, e4, hm⟩ := bS hm
  refine St.call [blk b2 (.cells #[.int .i64 a0.N, .slice pA0_0 a0.Kids.length pc0_0] 24 (0, 0))] (m_search_Validate_sp (a0 := a0) ph0_0 e4) rfl (fun _ ha => ev1 ha rfl) rfl en10 rfl rfl trivial ?_
  rintro _ F5 _ ⟨rfl, rfl⟩ l6
  refine St.val (v := (.int .i64 q3)) (Yields.assign rfl) trivial rfl rfl ?_
  refine St.nil ?_
  refine St.norm ?_
  refine St.seq ?_
  refine St.region ?_
  refine St.val (v := (.int .i64 q3)) (Yields.move rfl) trivial rfl rfl ?_
  refine St.val (v := (.bool (!decide (q3 = 0)))) (Yields.ne rfl rfl) trivial rfl rfl ?_
  refine St.nil ?_
  refine St.norm ?_
  refine St.cond_b rfl ?_ ?_
  · intro q7
    replace q7 : ¬ (q3 = 0) := nd_t q7
    replace hm := iF hm q7
    refine St.seq ?_
    refine St.region ?_
    refine St.val (v := (.int .i64 q3)) (Yields.move rfl) trivial rfl rfl ?_
    refine St.val (v := (.slice none 0 0)) (Yields.assign rfl) trivial rfl rfl ?_
    refine St.val (v := (.bool false)) (Yields.assign rfl) trivial rfl rfl ?_
    refine St.val (v := (.int .i64 q3)) (Yields.assign rfl) trivial rfl rfl ?_
    refine St.nil ?_
    refine St.norm ?_
    refine St.ret ?_
    refine St.thenret ?_
    obtain rfl := sI hm
    exact St.doneR3 rfl rfl rfl rfl ⟨none, 0, rfl, Fsl.nil, rfl⟩ (fun w hs => Among.of Among.none w hs)
  · intro q8
    replace q8 : q3 = 0 := nd_f q8
    replace hm := iT hm q8
    refine St.skip ?_
    refine St.norm ?_
    refine St.seq ?_
    obtain ⟨z9, hm, hk12⟩ := bS hm
    refine St.cutI (fun a w => ∃ (F10 : PH), PH.le F5 F10 ∧ Has Try.f6.ntmps a [(1, .int .i64 a1), (2, .int .i64 a2), (3, .pointer (some ⟨b2, 0, none⟩)), (26, .bool z9)] ∧ Sat ⟨w0, fun b => m0 b ≠ none, F⟩ F10 [blk b2 (.cells #[.int .i64 a0.N, .slice pA0_0 a0.Kids.length pc0_0] 24 (0, 0))] w) ?_ ?_
    · skip
      refine St.region ?_
      refine St.val (v := (.int .i64 a1)) (Yields.move rfl) trivial rfl rfl ?_
      obtain ⟨q13, e14, hm⟩ := bS hm
      refine St.call [blk b2 (.cells #[.int .i64 a0.N, .slice pA0_0 a0.Kids.length pc0_0] 24 (0, 0))] (m_search_isHow_sp e14) rfl (fun _ ha => ev1 ha rfl) rfl en16 rfl rfl trivial ?_
      rintro _ F15 _ ⟨rfl, rfl⟩ l16
      by_cases q17 : q13 = true
      · replace hm := iT hm q17
        have hb18 : (q13) = true := q17
        try rw [hb18]
        refine St.val (v := (.bool false)) (Yields.not_t rfl) trivial rfl rfl ?_
        refine St.val (v := (.bool false)) (Yields.move rfl) trivial rfl rfl ?_
        refine St.val (v := (.int .i64 a2)) (Yields.move rfl) rfl rfl rfl ?_
        by_cases q19 : a2 < 1
        · replace hm := iT hm q19
          refine St.val (v := (.bool true)) (Yields.is q19 (Yields.lt rfl rfl)) rfl rfl rfl ?_
          refine St.val (v := (.bool true)) (Yields.pick_f rfl rfl) trivial rfl rfl ?_
          refine St.val (v := (.bool true)) (Yields.move rfl) trivial rfl rfl ?_
          refine St.unwanted rfl rfl rfl ?_
          refine St.unwanted rfl rfl rfl ?_
          refine St.val (v := (.bool true)) (Yields.pick_t rfl rfl) trivial rfl rfl ?_
          refine St.nil ?_
          obtain rfl := sI hm
          intro a w ha hs
          exact ⟨F15, l16, ha.covers ⟨rfl, rfl, rfl, rfl, trivial⟩, (Among.of (Among.take 0 rfl rfl Among.none) _ hs)⟩
        · replace hm := iF hm q19
          refine St.val (v := (.bool false)) (Yields.isnt q19 (Yields.lt rfl rfl)) rfl rfl rfl ?_
          refine St.val (v := (.bool false)) (Yields.pick_f rfl rfl) trivial rfl rfl ?_
          refine St.val (v := (.bool false)) (Yields.move rfl) trivial rfl rfl ?_
          refine St.val (v := (.int .i64 a2)) (Yields.move rfl) rfl rfl rfl ?_
          refine St.val (v := (.bool (decide (a2 > 400)))) (Yields.gt rfl rfl) rfl rfl rfl ?_
          refine St.val (v := (.bool (decide (a2 > 400)))) (Yields.pick_f rfl rfl) trivial rfl rfl ?_
          refine St.nil ?_
          obtain rfl := sI hm
          intro a w ha hs
          exact ⟨F15, l16, ha.covers ⟨rfl, rfl, rfl, rfl, trivial⟩, (Among.of (Among.take 0 rfl rfl Among.none) _ hs)⟩
      · replace hm := iF hm q17
        have hb20 : (q13) = false := eq_false_of_ne_true q17
        try rw [hb20]
        refine St.val (v := (.bool true)) (Yields.not_f rfl) trivial rfl rfl ?_
        refine St.val (v := (.bool true)) (Yields.move rfl) trivial rfl rfl ?_
        refine St.unwanted rfl rfl rfl ?_
        refine St.unwanted rfl rfl rfl ?_
        refine St.val (v := (.bool true)) (Yields.pick_t rfl rfl) trivial rfl rfl ?_
        refine St.val (v := (.bool true)) (Yields.move rfl) trivial rfl rfl ?_
        refine St.unwanted rfl rfl rfl ?_
        refine St.unwanted rfl rfl rfl ?_
        refine St.val (v := (.bool true)) (Yields.pick_t rfl rfl) trivial rfl rfl ?_
        refine St.nil ?_
        obtain rfl := sI hm
        intro a w ha hs
        exact ⟨F15, l16, ha.covers ⟨rfl, rfl, rfl, rfl, trivial⟩, (Among.of (Among.take 0 rfl rfl Among.none) _ hs)⟩
    · rintro a w ⟨F10, l11, ha, hs⟩
      replace hm := hk12
      refine St.use (?_ : St _ _ _ _ _ _) ha hs
      clear ha hs a w
      refine St.cond_b rfl ?_ ?_
      · intro q21
        replace q21 : z9 = true := q21
        replace hm := iT hm q21
        refine St.seq ?_
        refine St.region ?_
        refine St.val (v := (.slice none 0 0)) (Yields.assign rfl) trivial rfl rfl ?_
        refine St.val (v := (.bool false)) (Yields.assign rfl) trivial rfl rfl ?_
        refine St.val (v := (.int .i64 1)) (Yields.assign rfl) trivial rfl rfl ?_
        refine St.nil ?_
        refine St.norm ?_
        refine St.ret ?_
        refine St.thenret ?_
        obtain rfl := sI hm
        exact St.doneR3 rfl rfl rfl rfl ⟨none, 0, rfl, Fsl.nil, rfl⟩ (fun w hs => Among.of Among.none w hs)
      · intro q22
        replace q22 : ¬ (z9 = true) := bf q22
        replace hm := iF hm q22
        refine St.skip ?_
        refine St.norm ?_
        refine St.seq ?_
        refine St.region ?_
        refine St.alloc tz27 trivial rfl ?_
        intro b23
        refine St.nil ?_
        refine St.norm ?_
        refine St.seq ?_
        refine St.region ?_
        refine St.val (v := (.int .i64 a1)) (Yields.move rfl) trivial rfl rfl ?_
        refine St.val (v := (.agg #[.int .i64 a0.N, .slice pA0_0 a0.Kids.length pc0_0])) (Yields.load rfl (Loads.Hk (vs := [.int .i64 a0.N, .slice pA0_0 a0.Kids.length pc0_0]) 1 rfl ta24 rfl rfl)) trivial rfl rfl ?_
        refine St.val (v := (.func (.func 18) #[] #[.pointer (some ⟨b23, 0, none⟩)])) (Yields.makeFunc (fun _ _ => ev0) (fun _ ha => ev1 ha rfl)) trivial rfl rfl ?_
        refine St.rowo_new 3 1 ?_
        refine St.pick (R := [blk b23 (.cells #[.slice none ([] : List Int).length 0] 27 (0, 0)), blk b2 (.cells #[.int .i64 a0.N, .slice pA0_0 a0.Kids.length pc0_0] 24 (0, 0))]) 0 rfl rfl ?_
        refine St.pick (R := [rowo none ([] : List Int).length 0 3 1 [], blk b2 (.cells #[.int .i64 a0.N, .slice pA0_0 a0.Kids.length pc0_0] 24 (0, 0))]) 1 rfl rfl ?_
        obtain ⟨q25, e26, hm⟩ := bS hm
        refine St.call [blk b2 (.cells #[.int .i64 a0.N, .slice pA0_0 a0.Kids.length pc0_0] 24 (0, 0))] (m_api_STree_sp (a1 := a0) (Fsl.mono (PH.le_trans l6 l11) ph0_0) (show Cat (Kind.int .i64) _ [] [] from rfl) Bnd.of_nil e26) rfl (fun _ ha => ev4 ha rfl rfl rfl rfl) rfl en17 rfl rfl trivial ?_
        rintro _ F27 _ ⟨A29, c30, cells33, rfl, h31, b34, rfl⟩ l28
        refine St.nil ?_
        refine St.norm ?_
        refine St.seq ?_
        refine St.seq ?_
        refine St.region ?_
        refine St.val (v := (.slice A29 q25.2.length c30)) (Yields.load rfl (Loads.H1 0 rfl tc27 rfl)) trivial rfl rfl ?_
        refine St.val (v := (.int .i64 ((q25.2.length : Nat) : Int))) (Yields.lenSlice tu27 rfl) trivial rfl rfl ?_
        refine St.val (v := (.int .i64 a2)) (Yields.move rfl) trivial rfl rfl ?_
        refine St.val (v := (.bool (decide (((q25.2.length : Nat) : Int) > a2)))) (Yields.gt rfl rfl) trivial rfl rfl ?_
        refine St.nil ?_
        refine St.norm ?_
        refine St.cond_b rfl ?_ ?_
        · intro q35
          replace q35 : ((q25.2.length : Nat) : Int) > a2 := of_decide_eq_true q35
          replace hm := iT hm q35
          refine St.seq ?_
          refine St.region ?_
          refine St.val (v := (.slice A29 q25.2.length c30)) (Yields.load rfl (Loads.H1 0 rfl tc27 rfl)) trivial rfl rfl ?_
          refine St.val (v := (.int .i64 a2)) (Yields.move rfl) trivial rfl rfl ?_
          obtain ⟨x36, e37, hm⟩ := bS hm
          refine St.rowo_len 1 rfl ?_
          intro hk38
          obtain ⟨A39, c40, s41, hw42⟩ := subOwn (D := (Kind.int .i64)) A29 3 hk38 e37
          refine St.val (v := (.slice A39 x36.length c40)) (Yields.subT s41 ts27 rfl rfl) trivial rfl rfl ?_
          refine St.shrink (R := [blk b23 (.cells #[.slice A29 q25.2.length c30] 27 (0, 0)), blk b2 (.cells #[.int .i64 a0.N, .slice pA0_0 a0.Kids.length pc0_0] 24 (0, 0))]) 1 rfl rfl h31 hw42 ?_
          intro cells44 h45
          refine St.val (v := (.slice A39 x36.length c40)) (Yields.assign rfl) trivial rfl rfl ?_
          refine St.val (v := (.bool true)) (Yields.assign rfl) trivial rfl rfl ?_
          refine St.val (v := (.int .i64 0)) (Yields.assign rfl) trivial rfl rfl ?_
          refine St.nil ?_
          refine St.norm ?_
          refine St.ret ?_
          refine St.thenret ?_
          refine St.frz 0 rfl rfl rfl h45 (Bnd.of_sub b34 e37) ?_
          intro F46 l47 h48
          obtain rfl := sI hm
          exact St.doneR3 rfl rfl rfl rfl ⟨A39, c40, rfl, h48, rfl⟩ (fun w hs => Among.of Among.none w hs)
        · intro q49
          replace q49 : ¬ (((q25.2.length : Nat) : Int) > a2) := of_decide_eq_false q49
          replace hm := iF hm q49
          refine St.skip ?_
          refine St.norm ?_
          refine St.seq ?_
          refine St.region ?_
          refine St.val (v := (.slice A29 q25.2.length c30)) (Yields.load rfl (Loads.H1 0 rfl tc27 rfl)) trivial rfl rfl ?_
          refine St.val (v := (.slice A29 q25.2.length c30)) (Yields.assign rfl) trivial rfl rfl ?_
          refine St.val (v := (.bool false)) (Yields.assign rfl) trivial rfl rfl ?_
          refine St.val (v := (.int .i64 0)) (Yields.assign rfl) trivial rfl rfl ?_
          refine St.nil ?_
          refine St.norm ?_
          refine St.ret ?_
          refine St.frz 1 rfl rfl rfl h31 b34 ?_
          intro F50 l51 h52
          obtain rfl := sI hm
          exact St.doneR3 rfl rfl rfl rfl ⟨A29, c30, rfl, h52, rfl⟩ (fun w hs => Among.of Among.none w hs)

abbrev m_ref13_count_S (g : Nat) : Prop := ∀ {F : PH} {a0 : DSTree} {a1 : Int} {a2 : Int} {pA0_0 : Option Addr} {pc0_0 : Nat} (ph0_0 : Fsl 32 KDSTree F pA0_0 pc0_0 a0.Kids) {r : Int} (_ : m_ref13_count g a0 a1 a2 = some r),
    CallSp Try.prog 25 #[.agg #[.int .i64 a0.N, .slice pA0_0 a0.Kids.length pc0_0], .int .i64 a1, .int .i64 a2] F [] (fun u F' H' => u = (.int .i64 r) ∧ H' = [])
theorem m_ref13_count_st {g : Nat} (ih_m_ref13_count : m_ref13_count_S g) : m_ref13_count_S (g + 1) := by
  intro F a0 a1 a2 pA0_0 pc0_0 ph0_0 r hm
  rw [m_ref13_count] at hm
  refine CallSp.enter (args := [.agg #[.int .i64 a0.N, .slice pA0_0 a0.Kids.length pc0_0], .int .i64 a1, .int .i64 a2]) Try.func25 rfl rfl ?_
  intro w0 m0 hm0
  refine St.seq ?_
  refine St.region ?_
  refine St.box rfl trivial rfl ?_
  intro b2
  refine St.val (v := (.int .i64 0)) (Yields.assign rfl) trivial rfl rfl ?_
  refine St.nil ?_
  refine St.norm ?_
  refine St.seq ?_
  obtain ⟨z3, hm, hk4⟩ := bS hm
  refine St.cutI (fun a w => Has Try.f25.ntmps a [(1, .int .i64 a1), (2, .int .i64 a2), (3, .pointer (some ⟨b2, 0, none⟩)), (19, .bool z3)] ∧ Sat ⟨w0, fun b => m0 b ≠ none, F⟩ F [blk b2 (.cells #[.int .i64 a0.N, .slice pA0_0 a0.Kids.length pc0_0] 24 (0, 0))] w) ?_ ?_
  · skip
    refine St.region ?_
    refine St.val (v := (.int .i64 a1)) (Yields.move rfl) trivial rfl rfl ?_
    by_cases q5 : a1 > 40
    · replace hm := iT hm q5
      refine St.val (v := (.bool true)) (Yields.is q5 (Yields.gt rfl rfl)) trivial rfl rfl ?_
      refine St.val (v := (.bool true)) (Yields.move rfl) trivial rfl rfl ?_
      refine St.unwanted rfl rfl rfl ?_
      refine St.unwanted rfl rfl rfl ?_
      refine St.val (v := (.bool true)) (Yields.pick_t rfl rfl) trivial rfl rfl ?_
      refine St.val (v := (.bool true)) (Yields.move rfl) trivial rfl rfl ?_
      refine St.unwanted rfl rfl rfl ?_
      refine St.unwanted rfl rfl rfl ?_
      refine St.unwanted rfl rfl rfl ?_
      refine St.unwanted rfl rfl rfl ?_
      refine St.val (v := (.bool true)) (Yields.pick_t rfl rfl) trivial rfl rfl ?_
      refine St.nil ?_
      obtain rfl := sI hm
      intro a w ha hs
      exact ⟨ha.covers ⟨rfl, rfl, rfl, rfl, trivial⟩, (Among.of (Among.take 0 rfl rfl Among.none) _ hs)⟩
    · replace hm := iF hm q5
      refine St.val (v := (.bool false)) (Yields.isnt q5 (Yields.gt rfl rfl)) trivial rfl rfl ?_
      refine St.val (v := (.bool false)) (Yields.move rfl) trivial rfl rfl ?_
      refine St.val (v := (.int .i64 a2)) (Yields.move rfl) rfl rfl rfl ?_
      by_cases q6 : a2 < 1
      · replace hm := iT hm q6
        refine St.val (v := (.bool true)) (Yields.is q6 (Yields.lt rfl rfl)) rfl rfl rfl ?_
        refine St.val (v := (.bool true)) (Yields.pick_f rfl rfl) trivial rfl rfl ?_
        refine St.val (v := (.bool true)) (Yields.move rfl) trivial rfl rfl ?_
        refine St.unwanted rfl rfl rfl ?_
        refine St.unwanted rfl rfl rfl ?_
        refine St.unwanted rfl rfl rfl ?_
        refine St.unwanted rfl rfl rfl ?_
        refine St.val (v := (.bool true)) (Yields.pick_t rfl rfl) trivial rfl rfl ?_
        refine St.nil ?_
        obtain rfl := sI hm
        intro a w ha hs
        exact ⟨ha.covers ⟨rfl, rfl, rfl, rfl, trivial⟩, (Among.of (Among.take 0 rfl rfl Among.none) _ hs)⟩
      · replace hm := iF hm q6
        refine St.val (v := (.bool false)) (Yields.isnt q6 (Yields.lt rfl rfl)) rfl rfl rfl ?_
        refine St.val (v := (.bool false)) (Yields.pick_f rfl rfl) trivial rfl rfl ?_
        refine St.val (v := (.bool false)) (Yields.move rfl) trivial rfl rfl ?_
        refine St.val (v := (.pointer (some ⟨b2, 1, none⟩))) (Yields.fieldAddr (v := (.pointer (some ⟨b2, 1, none⟩))) rfl (fun _ => by kernel_rfl)) rfl rfl rfl ?_
        refine St.val (v := (.slice pA0_0 a0.Kids.length pc0_0)) (Yields.load rfl (Loads.H1 0 rfl tc22 rfl)) rfl rfl rfl ?_
        refine St.val (v := (.int .i64 ((a0.Kids.length : Nat) : Int))) (Yields.lenSlice tu22 rfl) rfl rfl rfl ?_
        refine St.val (v := (.bool (decide (((a0.Kids.length : Nat) : Int) > 64)))) (Yields.gt rfl rfl) rfl rfl rfl ?_
        refine St.val (v := (.bool (decide (((a0.Kids.length : Nat) : Int) > 64)))) (Yields.pick_f rfl rfl) trivial rfl rfl ?_
        refine St.nil ?_
        obtain rfl := sI hm
        intro a w ha hs
        exact ⟨ha.covers ⟨rfl, rfl, rfl, rfl, trivial⟩, (Among.of (Among.take 0 rfl rfl Among.none) _ hs)⟩
  · rintro a w ⟨ha, hs⟩
    replace hm := hk4
    refine St.use (?_ : St _ _ _ _ _ _) ha hs
    clear ha hs a w
    refine St.cond_b rfl ?_ ?_
    · intro q7
      replace q7 : z3 = true := q7
      replace hm := iT hm q7
      refine St.seq ?_
      refine St.region ?_
      refine St.val (v := (.int .i64 (-1))) (Yields.assign rfl) trivial rfl rfl ?_
      refine St.nil ?_
      refine St.norm ?_
      refine St.ret ?_
      refine St.thenret ?_
      obtain rfl := sI hm
      exact St.doneR1 rfl rfl ⟨rfl, rfl⟩ (fun w hs => Among.of Among.none w hs)
    · intro q8
      replace q8 : ¬ (z3 = true) := bf q8
      replace hm := iF hm q8
      refine St.skip ?_
      refine St.norm ?_
      refine St.seq ?_
      refine St.region ?_
      refine St.val (v := (.int .i64 a2)) (Yields.move rfl) trivial rfl rfl ?_
      refine St.val (v := (.int .i64 (Mir.w64 (a2 - 1)))) (Yields.subw rfl rfl) trivial rfl rfl ?_
      refine St.val (v := (.int .i64 (Mir.w64 (a2 - 1)))) (Yields.assign rfl) trivial rfl rfl ?_
      refine St.nil ?_
      refine St.norm ?_
      obtain ⟨o12, hm, ho13⟩ := jS hm
      refine St.cutI (fun a w => ∃ z9 : Int, o12 = .inl z9 ∧ ∃ (F10 : PH), PH.le F F10 ∧ Has Try.f25.ntmps a [(2, .int .i64 z9)] ∧ Sat ⟨w0, fun b => m0 b ≠ none, F⟩ F10 [] w) ?_ ?_
      · skip
        refine St.seq ?_
        refine St.region ?_
        refine St.val (v := (.int .i64 0)) (Yields.assign rfl) trivial rfl rfl ?_
        refine St.nil ?_
        refine St.norm ?_
        refine St.block ?_
        refine St.loopM hm (fun s17 a w => ∃ (F21 : PH), PH.le F F21 ∧ Has Try.f25.ntmps a [(1, .int .i64 a1), (2, .int .i64 s17.1), (3, .pointer (some ⟨b2, 0, none⟩)), (7, .int .i64 ((s17.2 : Nat) : Int))] ∧ Sat ⟨w0, fun b => m0 b ≠ none, F⟩ F21 [blk b2 (.cells #[.int .i64 a0.N, .slice pA0_0 a0.Kids.length pc0_0] 24 (0, 0))] w) ?_ ?_
        · skip
          intro a w ha hs
          exact ⟨F, (PH.le_refl _), ha.covers ⟨rfl, rfl, rfl, rfl, trivial⟩, (Among.of (Among.take 0 rfl rfl Among.none) _ hs)⟩
        · rintro s17 o18 co19 hm ho20 a w ⟨F21, l22, ha, hs⟩
          refine St.use (?_ : St _ _ _ _ _ _) ha hs
          clear ha hs a w
          refine St.seq ?_
          refine St.seq ?_
          refine St.region ?_
          refine St.val (v := (.int .i64 ((s17.2 : Nat) : Int))) (Yields.move rfl) trivial rfl rfl ?_
          refine St.val (v := (.pointer (some ⟨b2, 1, none⟩))) (Yields.fieldAddr (v := (.pointer (some ⟨b2, 1, none⟩))) rfl (fun _ => by kernel_rfl)) trivial rfl rfl ?_
          refine St.val (v := (.slice pA0_0 a0.Kids.length pc0_0)) (Yields.load rfl (Loads.H1 0 rfl tc22 rfl)) trivial rfl rfl ?_
          refine St.val (v := (.int .i64 ((a0.Kids.length : Nat) : Int))) (Yields.lenSlice tu22 rfl) trivial rfl rfl ?_
          refine St.val (v := (.bool (decide (((s17.2 : Nat) : Int) < ((a0.Kids.length : Nat) : Int))))) (Yields.lt rfl rfl) trivial rfl rfl ?_
          refine St.nil ?_
          refine St.norm ?_
          refine St.cond_b rfl ?_ ?_
          · intro q23
            replace q23 : ((s17.2 : Nat) : Int) < ((a0.Kids.length : Nat) : Int) := of_decide_eq_true q23
            replace hm := iT hm q23
            refine St.skip ?_
            refine St.norm ?_
            refine St.seq ?_
            refine St.block ?_
            refine St.seq ?_
            refine St.region ?_
            refine St.val (v := (.pointer (some ⟨b2, 1, none⟩))) (Yields.fieldAddr (v := (.pointer (some ⟨b2, 1, none⟩))) rfl (fun _ => by kernel_rfl)) trivial rfl rfl ?_
            refine St.val (v := (.slice pA0_0 a0.Kids.length pc0_0)) (Yields.load rfl (Loads.H1 0 rfl tc22 rfl)) trivial rfl rfl ?_
            refine St.val (v := (.int .i64 ((s17.2 : Nat) : Int))) (Yields.move rfl) trivial rfl rfl ?_
            obtain ⟨x24, e25, hm⟩ := bS hm
            obtain ⟨p26, cs27, jx28, R29, k30⟩ := (Fsl.mono l22 ph0_0).nidx e25
            obtain ⟨A31, c32, rfl, h33⟩ := DSTree.opn R29
            refine St.val (v := (.pointer (some p26))) (Yields.idx jx28 ts22 rfl rfl) trivial rfl rfl ?_
            refine St.val (v := (.agg #[.int .i64 x24.N, .slice A31 x24.Kids.length c32])) (Yields.load rfl (Loads.Fatn0 k30 ta24)) trivial rfl rfl ?_
            refine St.val (v := (.int .i64 a1)) (Yields.move rfl) trivial rfl rfl ?_
            refine St.val (v := (.int .i64 (Mir.w64 (a1 + 1)))) (Yields.addw rfl rfl) trivial rfl rfl ?_
            refine St.val (v := (.int .i64 s17.1)) (Yields.move rfl) trivial rfl rfl ?_
            obtain ⟨q35, e36, hm⟩ := bS hm
            refine St.call [blk b2 (.cells #[.int .i64 a0.N, .slice pA0_0 a0.Kids.length pc0_0] 24 (0, 0))] (ih_m_ref13_count (a0 := x24) h33 e36) rfl (fun _ ha => ev3 ha rfl rfl rfl) rfl en25 rfl rfl trivial ?_
            rintro _ F37 _ ⟨rfl, rfl⟩ l38
            refine St.val (v := (.int .i64 q35)) (Yields.assign rfl) trivial rfl rfl ?_
            refine St.nil ?_
            refine St.norm ?_
            refine St.seq ?_
            refine St.region ?_
            refine St.val (v := (.int .i64 q35)) (Yields.move rfl) trivial rfl rfl ?_
            refine St.val (v := (.bool (decide (q35 < 0)))) (Yields.lt rfl rfl) trivial rfl rfl ?_
            refine St.nil ?_
            refine St.norm ?_
            refine St.cond_b rfl ?_ ?_
            · intro q39
              replace q39 : q35 < 0 := of_decide_eq_true q39
              replace hm := iT hm q39
              refine St.seq ?_
              refine St.region ?_
              refine St.val (v := (.int .i64 (-1))) (Yields.assign rfl) trivial rfl rfl ?_
              refine St.nil ?_
              refine St.norm ?_
              refine St.ret ?_
              refine St.inret ?_
              refine St.thenret ?_
              refine St.thenret ?_
              refine St.inret ?_
              refine St.thenret ?_
              obtain rfl := sI hm
              obtain rfl := aR ho20
              obtain rfl := aR ho13
              exact St.doneR1 rfl rfl ⟨rfl, rfl⟩ (fun w hs => Among.of Among.none w hs)
            · intro q40
              replace q40 : ¬ (q35 < 0) := of_decide_eq_false q40
              replace hm := iF hm q40
              refine St.skip ?_
              refine St.innorm ?_
              refine St.norm ?_
              refine St.region ?_
              refine St.val (v := (.int .i64 ((s17.2 : Nat) : Int))) (Yields.move rfl) trivial rfl rfl ?_
              refine St.val (v := (.int .i64 ((s17.2 + 1 : Nat) : Int))) (Yields.addn (j := 1) rfl rfl rfl (by have q_0 := q23; have q_1 := ph0_0.bnd.2; omega)) trivial rfl rfl ?_
              refine St.val (v := (.int .i64 ((s17.2 + 1 : Nat) : Int))) (Yields.assign rfl) trivial rfl rfl ?_
              refine St.nil ?_
              refine St.norm ?_
              obtain rfl := sI hm
              intro a w ha hs
              exact ⟨(q35, s17.2 + 1), aL ho20, F37, (PH.le_trans l22 l38), ha.covers ⟨rfl, rfl, rfl, rfl, trivial⟩, (Among.of (Among.take 0 rfl rfl Among.none) _ hs)⟩
          · intro q41
            replace q41 : ¬ (((s17.2 : Nat) : Int) < ((a0.Kids.length : Nat) : Int)) := of_decide_eq_false q41
            replace hm := iF hm q41
            refine St.exit ?_
            refine St.thenexit ?_
            refine St.thenexit ?_
            refine St.inexit ?_
            obtain rfl := sI hm
            obtain rfl := aR ho20
            intro a w ha hs
            exact ⟨s17.1, rfl, F21, l22, ha.covers ⟨rfl, trivial⟩, (Among.of Among.none _ hs)⟩
      · rintro a w ⟨z9, rfl, F10, l11, ha, hs⟩
        replace hm := aL ho13
        refine St.use (?_ : St _ _ _ _ _ _) ha hs
        clear ha hs a w
        refine St.seq ?_
        refine St.region ?_
        refine St.val (v := (.int .i64 z9)) (Yields.move rfl) trivial rfl rfl ?_
        refine St.val (v := (.int .i64 z9)) (Yields.assign rfl) trivial rfl rfl ?_
        refine St.nil ?_
        refine St.norm ?_
        refine St.ret ?_
        obtain rfl := sI hm
        exact St.doneR1 rfl rfl ⟨rfl, rfl⟩ (fun w hs => Among.of Among.none w hs)
theorem m_ref13_count_all : ∀ g, m_ref13_count_S g
  | 0 => (by (try unfold m_ref13_count_S); intros; rename_i hm; exact nomatch (show (none : Option _) = some _ from hm))
  | g + 1 => m_ref13_count_st (m_ref13_count_all g)
theorem m_ref13_count_sp {F : PH} {g : Nat} {a0 : DSTree} {a1 : Int} {a2 : Int} {pA0_0 : Option Addr} {pc0_0 : Nat} (ph0_0 : Fsl 32 KDSTree F pA0_0 pc0_0 a0.Kids) {r : Int} (hm : m_ref13_count g a0 a1 a2 = some r) :
    CallSp Try.prog 25 #[.agg #[.int .i64 a0.N, .slice pA0_0 a0.Kids.length pc0_0], .int .i64 a1, .int .i64 a2] F [] (fun u F' H' => u = (.int .i64 r) ∧ H' = []) := (m_ref13_count_all g) ph0_0 hm

abbrev m_ref13_isTree_S (g : Nat) : Prop := ∀ {F : PH} {a0 : DSTree} {pA0_0 : Option Addr} {pc0_0 : Nat} (ph0_0 : Fsl 32 KDSTree F pA0_0 pc0_0 a0.Kids) {r : Bool} (_ : m_ref13_isTree g a0 = some r),
    CallSp Try.prog 26 #[.agg #[.int .i64 a0.N, .slice pA0_0 a0.Kids.length pc0_0]] F [] (fun u F' H' => u = (.bool r) ∧ H' = [])
theorem m_ref13_isTree_st {g : Nat} (ih_m_ref13_isTree : m_ref13_isTree_S g) : m_ref13_isTree_S (g + 1) := by
  intro F a0 pA0_0 pc0_0 ph0_0 r hm
  rw [m_ref13_isTree] at hm
  refine CallSp.enter (args := [.agg #[.int .i64 a0.N, .slice pA0_0 a0.Kids.length pc0_0]]) Try.func26 rfl rfl ?_
  intro w0 m0 hm0
  refine St.seq ?_
  refine St.region ?_
  refine St.box rfl trivial rfl ?_
  intro b2
  refine St.val (v := (.bool false)) (Yields.assign rfl) trivial rfl rfl ?_
  refine St.nil ?_
  refine St.norm ?_
  refine St.seq ?_
  obtain ⟨z3, hm, hk4⟩ := bS hm
  refine St.cutI (fun a w => Has Try.f26.ntmps a [(1, .pointer (some ⟨b2, 0, none⟩)), (17, .bool z3)] ∧ Sat ⟨w0, fun b => m0 b ≠ none, F⟩ F [blk b2 (.cells #[.int .i64 a0.N, .slice pA0_0 a0.Kids.length pc0_0] 24 (0, 0))] w) ?_ ?_
  · skip
    refine St.region ?_
    refine St.val (v := (.pointer (some ⟨b2, 0, none⟩))) (Yields.fieldAddr (v := (.pointer (some ⟨b2, 0, none⟩))) rfl (fun _ => by kernel_rfl)) trivial rfl rfl ?_
    refine St.val (v := (.int .i64 a0.N)) (Yields.load rfl (Loads.H1 0 rfl tc3 rfl)) trivial rfl rfl ?_
    by_cases q5 : a0.N < (-1)
    · replace hm := iT hm q5
      refine St.val (v := (.bool true)) (Yields.is q5 (Yields.lt rfl rfl)) trivial rfl rfl ?_
      refine St.val (v := (.bool true)) (Yields.move rfl) trivial rfl rfl ?_
      refine St.unwanted rfl rfl rfl ?_
      refine St.unwanted rfl rfl rfl ?_
      refine St.unwanted rfl rfl rfl ?_
      refine St.unwanted rfl rfl rfl ?_
      refine St.unwanted rfl rfl rfl ?_
      refine St.unwanted trivial rfl rfl ?_
      refine St.unwanted trivial rfl rfl ?_
      refine St.unwanted trivial rfl rfl ?_
      refine St.unwanted rfl rfl rfl ?_
      refine St.val (v := (.bool true)) (Yields.pick_t rfl rfl) trivial rfl rfl ?_
      refine St.nil ?_
      obtain rfl := sI hm
      intro a w ha hs
      exact ⟨ha.covers ⟨rfl, rfl, trivial⟩, (Among.of (Among.take 0 rfl rfl Among.none) _ hs)⟩
    · replace hm := iF hm q5
      refine St.val (v := (.bool false)) (Yields.isnt q5 (Yields.lt rfl rfl)) trivial rfl rfl ?_
      refine St.val (v := (.bool false)) (Yields.move rfl) trivial rfl rfl ?_
      refine St.val (v := (.pointer (some ⟨b2, 1, none⟩))) (Yields.fieldAddr (v := (.pointer (some ⟨b2, 1, none⟩))) rfl (fun _ => by kernel_rfl)) rfl rfl rfl ?_
      refine St.val (v := (.slice pA0_0 a0.Kids.length pc0_0)) (Yields.load rfl (Loads.H1 0 rfl tc22 rfl)) rfl rfl rfl ?_
      refine St.val (v := (.int .i64 ((a0.Kids.length : Nat) : Int))) (Yields.lenSlice tu22 rfl) rfl rfl rfl ?_
      by_cases q6 : ((a0.Kids.length : Nat) : Int) > 0
      · replace hm := iT hm q6
        refine St.val (v := (.bool true)) (Yields.is q6 (Yields.gt rfl rfl)) rfl rfl rfl ?_
        refine St.val (v := (.bool true)) (Yields.move rfl) rfl rfl rfl ?_
        refine St.val (v := (.pointer (some ⟨b2, 0, none⟩))) (Yields.fieldAddr (v := (.pointer (some ⟨b2, 0, none⟩))) rfl (fun _ => by kernel_rfl)) rfl rfl rfl ?_
        refine St.val (v := (.int .i64 a0.N)) (Yields.load rfl (Loads.H1 0 rfl tc3 rfl)) rfl rfl rfl ?_
        refine St.val (v := (.bool (!decide (a0.N = 0)))) (Yields.ne rfl rfl) rfl rfl rfl ?_
        refine St.val (v := (.bool (!decide (a0.N = 0)))) (Yields.pick_t rfl rfl) rfl rfl rfl ?_
        refine St.val (v := (.bool (!decide (a0.N = 0)))) (Yields.pick_f rfl rfl) trivial rfl rfl ?_
        refine St.nil ?_
        obtain rfl := sI hm
        intro a w ha hs
        exact ⟨ha.covers ⟨rfl, rfl, trivial⟩, (Among.of (Among.take 0 rfl rfl Among.none) _ hs)⟩
      · replace hm := iF hm q6
        refine St.val (v := (.bool false)) (Yields.isnt q6 (Yields.gt rfl rfl)) rfl rfl rfl ?_
        refine St.val (v := (.bool false)) (Yields.move rfl) rfl rfl rfl ?_
        refine St.unwanted rfl rfl rfl ?_
        refine St.unwanted rfl rfl rfl ?_
        refine St.unwanted rfl rfl rfl ?_
        refine St.val (v := (.bool false)) (Yields.pick_f rfl rfl) rfl rfl rfl ?_
        refine St.val (v := (.bool false)) (Yields.pick_f rfl rfl) trivial rfl rfl ?_
        refine St.nil ?_
        obtain rfl := sI hm
        intro a w ha hs
        exact ⟨ha.covers ⟨rfl, rfl, trivial⟩, (Among.of (Among.take 0 rfl rfl Among.none) _ hs)⟩
  · rintro a w ⟨ha, hs⟩
    replace hm := hk4
    refine St.use (?_ : St _ _ _ _ _ _) ha hs
    clear ha hs a w
    refine St.cond_b rfl ?_ ?_
    · intro q7
      replace q7 : z3 = true := q7
      replace hm := iT hm q7
      refine St.seq ?_
      refine St.region ?_
      refine St.val (v := (.bool false)) (Yields.assign rfl) trivial rfl rfl ?_
      refine St.nil ?_
      refine St.norm ?_
      refine St.ret ?_
      refine St.thenret ?_
      obtain rfl := sI hm
      exact St.doneR1 rfl rfl ⟨rfl, rfl⟩ (fun w hs => Among.of Among.none w hs)
    · intro q8
      replace q8 : ¬ (z3 = true) := bf q8
      replace hm := iF hm q8
      refine St.skip ?_
      refine St.norm ?_
      obtain ⟨o12, hm, ho13⟩ := jS hm
      refine St.cutI (fun a w => ∃ z9 : Unit, o12 = .inl z9 ∧ ∃ (F10 : PH), PH.le F F10 ∧ Has Try.f26.ntmps a [] ∧ Sat ⟨w0, fun b => m0 b ≠ none, F⟩ F10 [] w) ?_ ?_
      · skip
        refine St.seq ?_
        refine St.region ?_
        refine St.val (v := (.int .i64 0)) (Yields.assign rfl) trivial rfl rfl ?_
        refine St.nil ?_
        refine St.norm ?_
        refine St.block ?_
        refine St.loopM hm (fun s16 a w => ∃ (F20 : PH), PH.le F F20 ∧ Has Try.f26.ntmps a [(1, .pointer (some ⟨b2, 0, none⟩)), (3, .int .i64 ((s16 : Nat) : Int))] ∧ Sat ⟨w0, fun b => m0 b ≠ none, F⟩ F20 [blk b2 (.cells #[.int .i64 a0.N, .slice pA0_0 a0.Kids.length pc0_0] 24 (0, 0))] w) ?_ ?_
        · skip
          intro a w ha hs
          exact ⟨F, (PH.le_refl _), ha.covers ⟨rfl, rfl, trivial⟩, (Among.of (Among.take 0 rfl rfl Among.none) _ hs)⟩
        · rintro s16 o17 co18 hm ho19 a w ⟨F20, l21, ha, hs⟩
          refine St.use (?_ : St _ _ _ _ _ _) ha hs
          clear ha hs a w
          refine St.seq ?_
          refine St.seq ?_
          refine St.region ?_
          refine St.val (v := (.int .i64 ((s16 : Nat) : Int))) (Yields.move rfl) trivial rfl rfl ?_
          refine St.val (v := (.pointer (some ⟨b2, 1, none⟩))) (Yields.fieldAddr (v := (.pointer (some ⟨b2, 1, none⟩))) rfl (fun _ => by kernel_rfl)) trivial rfl rfl ?_
          refine St.val (v := (.slice pA0_0 a0.Kids.length pc0_0)) (Yields.load rfl (Loads.H1 0 rfl tc22 rfl)) trivial rfl rfl ?_
          refine St.val (v := (.int .i64 ((a0.Kids.length : Nat) : Int))) (Yields.lenSlice tu22 rfl) trivial rfl rfl ?_
          refine St.val (v := (.bool (decide (((s16 : Nat) : Int) < ((a0.Kids.length : Nat) : Int))))) (Yields.lt rfl rfl) trivial rfl rfl ?_
          refine St.nil ?_
          refine St.norm ?_
          refine St.cond_b rfl ?_ ?_
          · intro q22
            replace q22 : ((s16 : Nat) : Int) < ((a0.Kids.length : Nat) : Int) := of_decide_eq_true q22
            replace hm := iT hm q22
            refine St.skip ?_
            refine St.norm ?_
            refine St.seq ?_
            refine St.block ?_
            refine St.seq ?_
            refine St.region ?_
            refine St.val (v := (.pointer (some ⟨b2, 1, none⟩))) (Yields.fieldAddr (v := (.pointer (some ⟨b2, 1, none⟩))) rfl (fun _ => by kernel_rfl)) trivial rfl rfl ?_
            refine St.val (v := (.slice pA0_0 a0.Kids.length pc0_0)) (Yields.load rfl (Loads.H1 0 rfl tc22 rfl)) trivial rfl rfl ?_
            refine St.val (v := (.int .i64 ((s16 : Nat) : Int))) (Yields.move rfl) trivial rfl rfl ?_
            obtain ⟨x23, e24, hm⟩ := bS hm
            obtain ⟨p25, cs26, jx27, R28, k29⟩ := (Fsl.mono l21 ph0_0).nidx e24
            obtain ⟨A30, c31, rfl, h32⟩ := DSTree.opn R28
            refine St.val (v := (.pointer (some p25))) (Yields.idx jx27 ts22 rfl rfl) trivial rfl rfl ?_
            refine St.val (v := (.agg #[.int .i64 x23.N, .slice A30 x23.Kids.length c31])) (Yields.load rfl (Loads.Fatn0 k29 ta24)) trivial rfl rfl ?_
            obtain ⟨q34, e35, hm⟩ := bS hm
            refine St.call [blk b2 (.cells #[.int .i64 a0.N, .slice pA0_0 a0.Kids.length pc0_0] 24 (0, 0))] (ih_m_ref13_isTree (a0 := x23) h32 e35) rfl (fun _ ha => ev1 ha rfl) rfl en26 rfl rfl trivial ?_
            rintro _ F36 _ ⟨rfl, rfl⟩ l37
            refine St.val (v := (.bool (!q34))) (Yields.not rfl) trivial rfl rfl ?_
            refine St.nil ?_
            refine St.norm ?_
            refine St.cond_b rfl ?_ ?_
            · intro q38
              replace q38 : ¬ (q34 = true) := nb_t q38
              replace hm := iF hm q38
              refine St.seq ?_
              refine St.region ?_
              refine St.val (v := (.bool false)) (Yields.assign rfl) trivial rfl rfl ?_
              refine St.nil ?_
              refine St.norm ?_
              refine St.ret ?_
              refine St.inret ?_
              refine St.thenret ?_
              refine St.thenret ?_
              refine St.inret ?_
              refine St.thenret ?_
              obtain rfl := sI hm
              obtain rfl := aR ho19
              obtain rfl := aR ho13
              exact St.doneR1 rfl rfl ⟨rfl, rfl⟩ (fun w hs => Among.of Among.none w hs)
            · intro q39
              replace q39 : q34 = true := nb_f q39
              replace hm := iT hm q39
              refine St.skip ?_
              refine St.innorm ?_
              refine St.norm ?_
              refine St.region ?_
              refine St.val (v := (.int .i64 ((s16 : Nat) : Int))) (Yields.move rfl) trivial rfl rfl ?_
              refine St.val (v := (.int .i64 ((s16 + 1 : Nat) : Int))) (Yields.addn (j := 1) rfl rfl rfl (by have q_0 := q22; have q_1 := ph0_0.bnd.2; omega)) trivial rfl rfl ?_
              refine St.val (v := (.int .i64 ((s16 + 1 : Nat) : Int))) (Yields.assign rfl) trivial rfl rfl ?_
              refine St.nil ?_
              refine St.norm ?_
              obtain rfl := sI hm
              intro a w ha hs
              exact ⟨s16 + 1, aL ho19, F36, (PH.le_trans l21 l37), ha.covers ⟨rfl, rfl, trivial⟩, (Among.of (Among.take 0 rfl rfl Among.none) _ hs)⟩
          · intro q40
            replace q40 : ¬ (((s16 : Nat) : Int) < ((a0.Kids.length : Nat) : Int)) := of_decide_eq_false q40
            replace hm := iF hm q40
            refine St.exit ?_
            refine St.thenexit ?_
            refine St.thenexit ?_
            refine St.inexit ?_
            obtain rfl := sI hm
            obtain rfl := aR ho19
            intro a w ha hs
            exact ⟨(), rfl, F20, l21, ha.covers trivial, (Among.of Among.none _ hs)⟩
      · rintro a w ⟨z9, rfl, F10, l11, ha, hs⟩
        replace hm := aL ho13
        refine St.use (?_ : St _ _ _ _ _ _) ha hs
        clear ha hs a w
        refine St.seq ?_
        refine St.region ?_
        refine St.val (v := (.bool true)) (Yields.assign rfl) trivial rfl rfl ?_
        refine St.nil ?_
        refine St.norm ?_
        refine St.ret ?_
        obtain rfl := sI hm
        exact St.doneR1 rfl rfl ⟨rfl, rfl⟩ (fun w hs => Among.of Among.none w hs)
theorem m_ref13_isTree_all : ∀ g, m_ref13_isTree_S g
  | 0 => (by (try unfold m_ref13_isTree_S); intros; rename_i hm; exact nomatch (show (none : Option _) = some _ from hm))
  | g + 1 => m_ref13_isTree_st (m_ref13_isTree_all g)
theorem m_ref13_isTree_sp {F : PH} {g : Nat} {a0 : DSTree} {pA0_0 : Option Addr} {pc0_0 : Nat} (ph0_0 : Fsl 32 KDSTree F pA0_0 pc0_0 a0.Kids) {r : Bool} (hm : m_ref13_isTree g a0 = some r) :
    CallSp Try.prog 26 #[.agg #[.int .i64 a0.N, .slice pA0_0 a0.Kids.length pc0_0]] F [] (fun u F' H' => u = (.bool r) ∧ H' = []) := (m_ref13_isTree_all g) ph0_0 hm

theorem m_ref13_Validate_sp {F : PH} {g : Nat} {a0 : DSTree} {pA0_0 : Option Addr} {pc0_0 : Nat} (ph0_0 : Fsl 32 KDSTree F pA0_0 pc0_0 a0.Kids) {r : Int} (hm : m_ref13_Validate g a0 = some r) :
    CallSp Try.prog 11 #[.agg #[.int .i64 a0.N, .slice pA0_0 a0.Kids.length pc0_0]] F [] (fun u F' H' => u = (.int .i64 r) ∧ H' = []) := by
  unfold m_ref13_Validate at hm
  refine CallSp.enter (args := [.agg #[.int .i64 a0.N, .slice pA0_0 a0.Kids.length pc0_0]]) Try.func11 rfl rfl ?_
  intro w0 m0 hm0
  refine St.seq ?_
  refine St.region ?_
  refine St.box rfl trivial rfl ?_
  intro b2
  refine St.val (v := (.int .i64 0)) (Yields.assign rfl) trivial rfl rfl ?_
  refine St.nil ?_
  refine St.norm ?_
  refine St.seq ?_
  refine St.seq ?_
  refine St.region ?_
  refine St.val (v := (.agg #[.int .i64 a0.N, .slice pA0_0 a0.Kids.length pc0_0])) (Yields.load rfl (Loads.Hk (vs := [.int .i64 a0.N, .slice pA0_0 a0.Kids.length pc0_0]) 0 rfl ta24 rfl rfl)) trivial rfl rfl ?_
  obtain ⟨q3, e4, hm⟩ := bS hm
  refine St.call [blk b2 (.cells #[.int .i64 a0.N, .slice pA0_0 a0.Kids.length pc0_0] 24 (0, 0))] (m_ref13_count_sp (a0 := a0) ph0_0 e4) rfl (fun _ ha => ev3 ha rfl rfl rfl) rfl en25 rfl rfl trivial ?_
  rintro _ F5 _ ⟨rfl, rfl⟩ l6
  refine St.val (v := (.bool (decide (q3 < 0)))) (Yields.lt rfl rfl) trivial rfl rfl ?_
  refine St.nil ?_
  refine St.norm ?_
  refine St.cond_b rfl ?_ ?_
  · intro q7
    replace q7 : q3 < 0 := of_decide_eq_true q7
    replace hm := iT hm q7
    refine St.seq ?_
    refine St.region ?_
    refine St.val (v := (.int .i64 3)) (Yields.assign rfl) trivial rfl rfl ?_
    refine St.nil ?_
    refine St.norm ?_
    refine St.ret ?_
    refine St.thenret ?_
    obtain rfl := sI hm
    exact St.doneR1 rfl rfl ⟨rfl, rfl⟩ (fun w hs => Among.of Among.none w hs)
  · intro q8
    replace q8 : ¬ (q3 < 0) := of_decide_eq_false q8
    replace hm := iF hm q8
    refine St.skip ?_
    refine St.norm ?_
    refine St.seq ?_
    refine St.seq ?_
    refine St.region ?_
    refine St.val (v := (.agg #[.int .i64 a0.N, .slice pA0_0 a0.Kids.length pc0_0])) (Yields.load rfl (Loads.Hk (vs := [.int .i64 a0.N, .slice pA0_0 a0.Kids.length pc0_0]) 0 rfl ta24 rfl rfl)) trivial rfl rfl ?_
    obtain ⟨q9, e10, hm⟩ := bS hm
    refine St.call [blk b2 (.cells #[.int .i64 a0.N, .slice pA0_0 a0.Kids.length pc0_0] 24 (0, 0))] (m_ref13_isTree_sp (a0 := a0) (Fsl.mono l6 ph0_0) e10) rfl (fun _ ha => ev1 ha rfl) rfl en26 rfl rfl trivial ?_
    rintro _ F11 _ ⟨rfl, rfl⟩ l12
    refine St.val (v := (.bool (!q9))) (Yields.not rfl) trivial rfl rfl ?_
    refine St.nil ?_
    refine St.norm ?_
    refine St.cond_b rfl ?_ ?_
    · intro q13
      replace q13 : ¬ (q9 = true) := nb_t q13
      replace hm := iF hm q13
      refine St.seq ?_
      refine St.region ?_
      refine St.val (v := (.int .i64 1)) (Yields.assign rfl) trivial rfl rfl ?_
      refine St.nil ?_
      refine St.norm ?_
      refine St.ret ?_
      refine St.thenret ?_
      obtain rfl := sI hm
      exact St.doneR1 rfl rfl ⟨rfl, rfl⟩ (fun w hs => Among.of Among.none w hs)
    · intro q14
      replace q14 : q9 = true := nb_f q14
      replace hm := iT hm q14
      refine St.skip ?_
      refine St.norm ?_
      refine St.seq ?_
      refine St.region ?_
      refine St.val (v := (.int .i64 0)) (Yields.assign rfl) trivial rfl rfl ?_
      refine St.nil ?_
      refine St.norm ?_
      refine St.ret ?_
      obtain rfl := sI hm
      exact St.doneR1 rfl rfl ⟨rfl, rfl⟩ (fun w hs => Among.of Among.none w hs)

theorem m_ref13_sum_sp {F : PH} {g : Nat} {a0 : List Int} {pA0 : Option Addr} {pc0 : Nat} (ph0 : Fsl 8 (Kind.int .i64) F pA0 pc0 a0) {r : Int} (hm : m_ref13_sum g a0 = some r) :
    CallSp Try.prog 43 #[.slice pA0 a0.length pc0] F [] (fun u F' H' => u = (.int .i64 r) ∧ H' = []) := by
  unfold m_ref13_sum at hm
  refine CallSp.enter (args := [.slice pA0 a0.length pc0]) Try.func43 rfl rfl ?_
  intro w0 m0 hm0
  refine St.seq ?_
  refine St.region ?_
  refine St.val (v := (.int .i64 0)) (Yields.assign rfl) trivial rfl rfl ?_
  refine St.nil ?_
  refine St.norm ?_
  refine St.seq ?_
  refine St.region ?_
  refine St.val (v := (.int .i64 0)) (Yields.assign rfl) trivial rfl rfl ?_
  refine St.nil ?_
  refine St.norm ?_
  obtain ⟨z2, hm, hk3⟩ := bS hm
  refine St.cutI (fun a w => Has Try.f43.ntmps a [(3, .int .i64 z2)] ∧ Sat ⟨w0, fun b => m0 b ≠ none, F⟩ F [] w) ?_ ?_
  · skip
    refine St.seq ?_
    refine St.region ?_
    refine St.val (v := (.int .i64 0)) (Yields.assign rfl) trivial rfl rfl ?_
    refine St.nil ?_
    refine St.norm ?_
    refine St.block ?_
    refine St.loopM hm (fun s6 a w => Has Try.f43.ntmps a [(0, .slice pA0 a0.length pc0), (3, .int .i64 s6.1), (4, .int .i64 ((s6.2 : Nat) : Int))] ∧ Sat ⟨w0, fun b => m0 b ≠ none, F⟩ F [] w) ?_ ?_
    · skip
      intro a w ha hs
      exact ⟨ha.covers ⟨rfl, rfl, rfl, trivial⟩, (Among.of Among.none _ hs)⟩
    · rintro s6 o7 co8 hm ho9 a w ⟨ha, hs⟩
      refine St.use (?_ : St _ _ _ _ _ _) ha hs
      clear ha hs a w
      refine St.seq ?_
      refine St.seq ?_
      refine St.region ?_
      refine St.val (v := (.int .i64 ((s6.2 : Nat) : Int))) (Yields.move rfl) trivial rfl rfl ?_
      refine St.val (v := (.slice pA0 a0.length pc0)) (Yields.move rfl) trivial rfl rfl ?_
      refine St.val (v := (.int .i64 ((a0.length : Nat) : Int))) (Yields.lenSlice tu27 rfl) trivial rfl rfl ?_
      refine St.val (v := (.bool (decide (((s6.2 : Nat) : Int) < ((a0.length : Nat) : Int))))) (Yields.lt rfl rfl) trivial rfl rfl ?_
      refine St.nil ?_
      refine St.norm ?_
      refine St.cond_b rfl ?_ ?_
      · intro q10
        replace q10 : ((s6.2 : Nat) : Int) < ((a0.length : Nat) : Int) := of_decide_eq_true q10
        replace hm := iT hm q10
        refine St.skip ?_
        refine St.norm ?_
        refine St.seq ?_
        refine St.block ?_
        refine St.region ?_
        refine St.val (v := (.int .i64 s6.1)) (Yields.move rfl) trivial rfl rfl ?_
        refine St.val (v := (.slice pA0 a0.length pc0)) (Yields.move rfl) trivial rfl rfl ?_
        refine St.val (v := (.int .i64 ((s6.2 : Nat) : Int))) (Yields.move rfl) trivial rfl rfl ?_
        obtain ⟨x11, e12, hm⟩ := bS hm
        obtain ⟨p13, cs14, jx15, R16, k17⟩ := ph0.nidx e12
        obtain rfl := R16
        refine St.val (v := (.pointer (some p13))) (Yields.idx jx15 ts27 rfl rfl) trivial rfl rfl ?_
        refine St.val (v := (.int .i64 x11)) (Yields.load rfl (Loads.Fat k17 tc3 rfl)) trivial rfl rfl ?_
        refine St.val (v := (.int .i64 (Mir.w64 (s6.1 + x11)))) (Yields.addw rfl rfl) trivial rfl rfl ?_
        refine St.val (v := (.int .i64 (Mir.w64 (s6.1 + x11)))) (Yields.assign rfl) trivial rfl rfl ?_
        refine St.nil ?_
        refine St.innorm ?_
        refine St.norm ?_
        refine St.region ?_
        refine St.val (v := (.int .i64 ((s6.2 : Nat) : Int))) (Yields.move rfl) trivial rfl rfl ?_
        refine St.val (v := (.int .i64 ((s6.2 + 1 : Nat) : Int))) (Yields.addn (j := 1) rfl rfl rfl (by have q_0 := q10; have q_1 := ph0.bnd.2; omega)) trivial rfl rfl ?_
        refine St.val (v := (.int .i64 ((s6.2 + 1 : Nat) : Int))) (Yields.assign rfl) trivial rfl rfl ?_
        refine St.nil ?_
        refine St.norm ?_
        obtain rfl := sI hm
        intro a w ha hs
        exact ⟨(Mir.w64 (s6.1 + x11), s6.2 + 1), aL ho9, ha.covers ⟨rfl, rfl, rfl, trivial⟩, (Among.of Among.none _ hs)⟩
      · intro q18
        replace q18 : ¬ (((s6.2 : Nat) : Int) < ((a0.length : Nat) : Int)) := of_decide_eq_false q18
        replace hm := iF hm q18
        refine St.exit ?_
        refine St.thenexit ?_
        refine St.thenexit ?_
        refine St.inexit ?_
        obtain rfl := sI hm
        obtain rfl := aR ho9
        intro a w ha hs
        exact ⟨ha.covers ⟨rfl, trivial⟩, (Among.of Among.none _ hs)⟩
  · rintro a w ⟨ha, hs⟩
    replace hm := hk3
    refine St.use (?_ : St _ _ _ _ _ _) ha hs
    clear ha hs a w
    refine St.seq ?_
    refine St.region ?_
    refine St.val (v := (.int .i64 z2)) (Yields.move rfl) trivial rfl rfl ?_
    refine St.val (v := (.int .i64 z2)) (Yields.assign rfl) trivial rfl rfl ?_
    refine St.nil ?_
    refine St.norm ?_
    refine St.ret ?_
    obtain rfl := sI hm
    exact St.doneR1 rfl rfl ⟨rfl, rfl⟩ (fun w hs => Among.of Among.none w hs)

theorem m_ref13_isLess_sp {F : PH} {g : Nat} {a0 : List Int} {a1 : List Int} {pA0 : Option Addr} {pc0 : Nat} {pA1 : Option Addr} {pc1 : Nat} (ph0 : Fsl 8 (Kind.int .i64) F pA0 pc0 a0) (ph1 : Fsl 8 (Kind.int .i64) F pA1 pc1 a1) {r : Bool} (hm : m_ref13_isLess g a0 a1 = some r) :
    CallSp Try.prog 44 #[.slice pA0 a0.length pc0, .slice pA1 a1.length pc1] F [] (fun u F' H' => u = (.bool r) ∧ H' = []) := by
  unfold m_ref13_isLess at hm
  refine CallSp.enter (args := [.slice pA0 a0.length pc0, .slice pA1 a1.length pc1]) Try.func44 rfl rfl ?_
  intro w0 m0 hm0
  refine St.seq ?_
  refine St.region ?_
  refine St.val (v := (.bool false)) (Yields.assign rfl) trivial rfl rfl ?_
  refine St.nil ?_
  refine St.norm ?_
  obtain ⟨o4, hm, ho5⟩ := jS hm
  refine St.cutI (fun a w => ∃ z3 : Unit, o4 = .inl z3 ∧ Has Try.f44.ntmps a [(0, .slice pA0 a0.length pc0), (1, .slice pA1 a1.length pc1)] ∧ Sat ⟨w0, fun b => m0 b ≠ none, F⟩ F [] w) ?_ ?_
  · skip
    refine St.seq ?_
    refine St.region ?_
    refine St.val (v := (.int .i64 0)) (Yields.assign rfl) trivial rfl rfl ?_
    refine St.nil ?_
    refine St.norm ?_
    refine St.block ?_
    refine St.loopM hm (fun s8 a w => Has Try.f44.ntmps a [(0, .slice pA0 a0.length pc0), (1, .slice pA1 a1.length pc1), (5, .int .i64 s8)] ∧ Sat ⟨w0, fun b => m0 b ≠ none, F⟩ F [] w) ?_ ?_
    · skip
      intro a w ha hs
      exact ⟨ha.covers ⟨rfl, rfl, rfl, trivial⟩, (Among.of Among.none _ hs)⟩
    · rintro s8 o9 co10 hm ho11 a w ⟨ha, hs⟩
      refine St.use (?_ : St _ _ _ _ _ _) ha hs
      clear ha hs a w
      refine St.seq ?_
      obtain ⟨z12, hm, hk13⟩ := bS hm
      refine St.cutI (fun a w => Has Try.f44.ntmps a [(0, .slice pA0 a0.length pc0), (1, .slice pA1 a1.length pc1), (5, .int .i64 s8), (15, .bool z12)] ∧ Sat ⟨w0, fun b => m0 b ≠ none, F⟩ F [] w) ?_ ?_
      · skip
        refine St.region ?_
        refine St.val (v := (.int .i64 s8)) (Yields.move rfl) trivial rfl rfl ?_
        refine St.val (v := (.slice pA0 a0.length pc0)) (Yields.move rfl) trivial rfl rfl ?_
        refine St.val (v := (.int .i64 ((a0.length : Nat) : Int))) (Yields.lenSlice tu27 rfl) trivial rfl rfl ?_
        by_cases q14 : s8 < ((a0.length : Nat) : Int)
        · replace hm := iT hm q14
          refine St.val (v := (.bool true)) (Yields.is q14 (Yields.lt rfl rfl)) trivial rfl rfl ?_
          refine St.val (v := (.bool true)) (Yields.move rfl) trivial rfl rfl ?_
          refine St.val (v := (.int .i64 s8)) (Yields.move rfl) rfl rfl rfl ?_
          refine St.val (v := (.slice pA1 a1.length pc1)) (Yields.move rfl) rfl rfl rfl ?_
          refine St.val (v := (.int .i64 ((a1.length : Nat) : Int))) (Yields.lenSlice tu27 rfl) rfl rfl rfl ?_
          refine St.val (v := (.bool (decide (s8 < ((a1.length : Nat) : Int))))) (Yields.lt rfl rfl) rfl rfl rfl ?_
          refine St.val (v := (.bool (decide (s8 < ((a1.length : Nat) : Int))))) (Yields.pick_t rfl rfl) trivial rfl rfl ?_
          refine St.nil ?_
          obtain rfl := sI hm
          intro a w ha hs
          exact ⟨ha.covers ⟨rfl, rfl, rfl, rfl, trivial⟩, (Among.of Among.none _ hs)⟩
        · replace hm := iF hm q14
          refine St.val (v := (.bool false)) (Yields.isnt q14 (Yields.lt rfl rfl)) trivial rfl rfl ?_
          refine St.val (v := (.bool false)) (Yields.move rfl) trivial rfl rfl ?_
          refine St.unwanted rfl rfl rfl ?_
          refine St.unwanted rfl rfl rfl ?_
          refine St.unwanted rfl rfl rfl ?_
          refine St.unwanted rfl rfl rfl ?_
          refine St.val (v := (.bool false)) (Yields.pick_f rfl rfl) trivial rfl rfl ?_
          refine St.nil ?_
          obtain rfl := sI hm
          intro a w ha hs
          exact ⟨ha.covers ⟨rfl, rfl, rfl, rfl, trivial⟩, (Among.of Among.none _ hs)⟩
      · rintro a w ⟨ha, hs⟩
        replace hm := hk13
        refine St.use (?_ : St _ _ _ _ _ _) ha hs
        clear ha hs a w
        refine St.cond_b rfl ?_ ?_
        · intro q15
          replace q15 : z12 = true := q15
          replace hm := iT hm q15
          refine St.skip ?_
          refine St.norm ?_
          refine St.seq ?_
          refine St.block ?_
          refine St.seq ?_
          refine StD.start [] [] hmix ?_
          refine StD.takeP (i := 0) (v := (.slice pA0 a0.length pc0)) rfl (fun _ => Yields.move rfl) rfl rfl trivial (by rintro _ _ _ ⟨_, _, _, _, h, _⟩; cases h) (by kernel_rfl) (listed' := #[true, false, false, false, false, false, false, false, false]) rfl ?_
          refine StD.takeP (i := 1) (v := (.int .i64 s8)) rfl (fun _ => Yields.move rfl) rfl rfl trivial (by rintro _ _ _ ⟨_, _, _, _, h, _⟩; cases h) (by kernel_rfl) (listed' := #[true, true, false, false, false, false, false, false, false]) rfl ?_
          obtain ⟨x16, e17, hm⟩ := bS hm
          obtain ⟨p18, cs19, jx20, R21, k22⟩ := ph0.idx e17
          obtain rfl := R21
          refine StD.takeP (i := 2) (v := (.pointer (some p18))) rfl (fun _ => Yields.idx jx20 ts27 rfl rfl) rfl rfl trivial (by rintro _ _ _ ⟨_, _, _, _, h, _⟩; cases h) (by kernel_rfl) (listed' := #[true, true, true, false, false, false, false, false, false]) rfl ?_
          refine StD.take [0, 1, 2, 4, 5, 6, 8] (i := 3) (v := (.int .i64 x16)) rfl (Yields.load rfl (Loads.Fat k22 tc3 rfl)) rfl rfl trivial Among.refl (by rintro _ _ _ ⟨_, _, _, _, h, _⟩; cases h) (by kernel_rfl) (listed' := #[true, true, true, true, false, false, false, false, false]) rfl ?_
          refine StD.takeP (i := 4) (v := (.slice pA1 a1.length pc1)) rfl (fun _ => Yields.move rfl) rfl rfl trivial (by rintro _ _ _ ⟨_, _, _, _, h, _⟩; cases h) (by kernel_rfl) (listed' := #[true, true, true, true, true, false, false, false, false]) rfl ?_
          refine StD.takeP (i := 5) (v := (.int .i64 s8)) rfl (fun _ => Yields.move rfl) rfl rfl trivial (by rintro _ _ _ ⟨_, _, _, _, h, _⟩; cases h) (by kernel_rfl) (listed' := #[true, true, true, true, true, true, false, false, false]) rfl ?_
          obtain ⟨x23, e24, hm⟩ := bS hm
          obtain ⟨p25, cs26, jx27, R28, k29⟩ := ph1.idx e24
          obtain rfl := R28
          refine StD.takeP (i := 6) (v := (.pointer (some p25))) rfl (fun _ => Yields.idx jx27 ts27 rfl rfl) rfl rfl trivial (by rintro _ _ _ ⟨_, _, _, _, h, _⟩; cases h) (by kernel_rfl) (listed' := #[true, true, true, true, true, true, true, false, false]) rfl ?_
          refine StD.take [0, 1, 2, 4, 5, 6, 8] (i := 7) (v := (.int .i64 x23)) rfl (Yields.load rfl (Loads.Fat k29 tc3 rfl)) rfl rfl trivial Among.refl (by rintro _ _ _ ⟨_, _, _, _, h, _⟩; cases h) (by kernel_rfl) (listed' := #[true, true, true, true, true, true, true, true, false]) rfl ?_
          refine StD.takeP (i := 8) (v := (.bool (!decide (x16 = x23)))) rfl (fun _ => Yields.ne rfl rfl) rfl rfl trivial (by rintro _ _ _ ⟨_, _, _, _, h, _⟩; cases h) (by kernel_rfl) (listed' := #[true, true, true, true, true, true, true, true, true]) rfl ?_
          refine StD.done (by kernel_rfl) ?_
          refine St.norm ?_
          refine St.cond_b rfl ?_ ?_
          · intro q30
            replace q30 : ¬ (x16 = x23) := nd_t q30
            replace hm := iF hm q30
            refine St.seq ?_
            refine StD.start [] [] hmix ?_
            refine StD.takeP (i := 0) (v := (.slice pA0 a0.length pc0)) rfl (fun _ => Yields.move rfl) rfl rfl trivial (by rintro _ _ _ ⟨_, _, _, _, h, _⟩; cases h) (by kernel_rfl) (listed' := #[true, false, false, false, false, false, false, false, false, false]) rfl ?_
            refine StD.takeP (i := 1) (v := (.int .i64 s8)) rfl (fun _ => Yields.move rfl) rfl rfl trivial (by rintro _ _ _ ⟨_, _, _, _, h, _⟩; cases h) (by kernel_rfl) (listed' := #[true, true, false, false, false, false, false, false, false, false]) rfl ?_
            obtain ⟨x31, e32, hm⟩ := bS hm
            obtain ⟨p33, cs34, jx35, R36, k37⟩ := ph0.idx e32
            obtain rfl := R36
            refine StD.takeP (i := 2) (v := (.pointer (some p33))) rfl (fun _ => Yields.idx jx35 ts27 rfl rfl) rfl rfl trivial (by rintro _ _ _ ⟨_, _, _, _, h, _⟩; cases h) (by kernel_rfl) (listed' := #[true, true, true, false, false, false, false, false, false, false]) rfl ?_
            refine StD.take [0, 1, 2, 4, 5, 6, 8, 9] (i := 3) (v := (.int .i64 x31)) rfl (Yields.load rfl (Loads.Fat k37 tc3 rfl)) rfl rfl trivial Among.refl (by rintro _ _ _ ⟨_, _, _, _, h, _⟩; cases h) (by kernel_rfl) (listed' := #[true, true, true, true, false, false, false, false, false, false]) rfl ?_
            refine StD.takeP (i := 4) (v := (.slice pA1 a1.length pc1)) rfl (fun _ => Yields.move rfl) rfl rfl trivial (by rintro _ _ _ ⟨_, _, _, _, h, _⟩; cases h) (by kernel_rfl) (listed' := #[true, true, true, true, true, false, false, false, false, false]) rfl ?_
            refine StD.takeP (i := 5) (v := (.int .i64 s8)) rfl (fun _ => Yields.move rfl) rfl rfl trivial (by rintro _ _ _ ⟨_, _, _, _, h, _⟩; cases h) (by kernel_rfl) (listed' := #[true, true, true, true, true, true, false, false, false, false]) rfl ?_
            obtain ⟨x38, e39, hm⟩ := bS hm
            obtain ⟨p40, cs41, jx42, R43, k44⟩ := ph1.idx e39
            obtain rfl := R43
            refine StD.takeP (i := 6) (v := (.pointer (some p40))) rfl (fun _ => Yields.idx jx42 ts27 rfl rfl) rfl rfl trivial (by rintro _ _ _ ⟨_, _, _, _, h, _⟩; cases h) (by kernel_rfl) (listed' := #[true, true, true, true, true, true, true, false, false, false]) rfl ?_
            refine StD.take [0, 1, 2, 4, 5, 6, 8, 9] (i := 7) (v := (.int .i64 x38)) rfl (Yields.load rfl (Loads.Fat k44 tc3 rfl)) rfl rfl trivial Among.refl (by rintro _ _ _ ⟨_, _, _, _, h, _⟩; cases h) (by kernel_rfl) (listed' := #[true, true, true, true, true, true, true, true, false, false]) rfl ?_
            refine StD.takeP (i := 8) (v := (.bool (decide (x31 < x38)))) rfl (fun _ => Yields.lt rfl rfl) rfl rfl trivial (by rintro _ _ _ ⟨_, _, _, _, h, _⟩; cases h) (by kernel_rfl) (listed' := #[true, true, true, true, true, true, true, true, true, false]) rfl ?_
            refine StD.takeP (i := 9) (v := (.bool (decide (x31 < x38)))) rfl (fun _ => Yields.assign rfl) rfl rfl trivial (by rintro _ _ _ ⟨_, _, _, _, h, _⟩; cases h) (by kernel_rfl) (listed' := #[true, true, true, true, true, true, true, true, true, true]) rfl ?_
            refine StD.done (by kernel_rfl) ?_
            refine St.norm ?_
            refine St.ret ?_
            refine St.inret ?_
            refine St.thenret ?_
            refine St.thenret ?_
            refine St.inret ?_
            refine St.thenret ?_
            obtain rfl := sI hm
            obtain rfl := aR ho11
            obtain rfl := aR ho5
            exact St.doneR1 rfl rfl ⟨rfl, rfl⟩ (fun w hs => Among.of Among.none w hs)
          · intro q45
            replace q45 : x16 = x23 := nd_f q45
            replace hm := iT hm q45
            refine St.skip ?_
            refine St.innorm ?_
            refine St.norm ?_
            refine St.region ?_
            refine St.val (v := (.int .i64 s8)) (Yields.move rfl) trivial rfl rfl ?_
            refine St.val (v := (.int .i64 (Mir.w64 (s8 + 1)))) (Yields.addw rfl rfl) trivial rfl rfl ?_
            refine St.val (v := (.int .i64 (Mir.w64 (s8 + 1)))) (Yields.assign rfl) trivial rfl rfl ?_
            refine St.nil ?_
            refine St.norm ?_
            obtain rfl := sI hm
            intro a w ha hs
            exact ⟨Mir.w64 (s8 + 1), aL ho11, ha.covers ⟨rfl, rfl, rfl, trivial⟩, (Among.of Among.none _ hs)⟩
        · intro q46
          replace q46 : ¬ (z12 = true) := bf q46
          replace hm := iF hm q46
          refine St.exit ?_
          refine St.thenexit ?_
          refine St.thenexit ?_
          refine St.inexit ?_
          obtain rfl := sI hm
          obtain rfl := aR ho11
          intro a w ha hs
          exact ⟨(), rfl, ha.covers ⟨rfl, rfl, trivial⟩, (Among.of Among.none _ hs)⟩
  · rintro a w ⟨z3, rfl, ha, hs⟩
    replace hm := aL ho5
    refine St.use (?_ : St _ _ _ _ _ _) ha hs
    clear ha hs a w
    refine St.seq ?_
    refine St.region ?_
    refine St.val (v := (.slice pA0 a0.length pc0)) (Yields.move rfl) trivial rfl rfl ?_
    refine St.val (v := (.int .i64 ((a0.length : Nat) : Int))) (Yields.lenSlice tu27 rfl) trivial rfl rfl ?_
    refine St.val (v := (.slice pA1 a1.length pc1)) (Yields.move rfl) trivial rfl rfl ?_
    refine St.val (v := (.int .i64 ((a1.length : Nat) : Int))) (Yields.lenSlice tu27 rfl) trivial rfl rfl ?_
    refine St.val (v := (.bool (decide (((a0.length : Nat) : Int) < ((a1.length : Nat) : Int))))) (Yields.lt rfl rfl) trivial rfl rfl ?_
    refine St.val (v := (.bool (decide (((a0.length : Nat) : Int) < ((a1.length : Nat) : Int))))) (Yields.assign rfl) trivial rfl rfl ?_
    refine St.nil ?_
    refine St.norm ?_
    refine St.ret ?_
    obtain rfl := sI hm
    exact St.doneR1 rfl rfl ⟨rfl, rfl⟩ (fun w hs => Among.of Among.none w hs)

theorem m_ref13_Ahead_sp {F : PH} {g : Nat} {a0 : Int} {a1 : List Int} {a2 : List Int} {pA1 : Option Addr} {pc1 : Nat} {pA2 : Option Addr} {pc2 : Nat} (ph1 : Fsl 8 (Kind.int .i64) F pA1 pc1 a1) (ph2 : Fsl 8 (Kind.int .i64) F pA2 pc2 a2) {r : Bool} (hm : m_ref13_Ahead g a0 a1 a2 = some r) :
    CallSp Try.prog 42 #[.int .i64 a0, .slice pA1 a1.length pc1, .slice pA2 a2.length pc2] F [] (fun u F' H' => u = (.bool r) ∧ H' = []) := by
  unfold m_ref13_Ahead at hm
  refine CallSp.enter (args := [.int .i64 a0, .slice pA1 a1.length pc1, .slice pA2 a2.length pc2]) Try.func42 rfl rfl ?_
  intro w0 m0 hm0
  refine St.seq ?_
  refine St.region ?_
  refine St.val (v := (.bool false)) (Yields.assign rfl) trivial rfl rfl ?_
  refine St.nil ?_
  refine St.norm ?_
  refine St.seq ?_
  refine St.region ?_
  refine St.val (v := (.int .i64 0)) (Yields.assign rfl) trivial rfl rfl ?_
  refine St.val (v := (.int .i64 0)) (Yields.assign rfl) trivial rfl rfl ?_
  refine St.nil ?_
  refine St.norm ?_
  obtain ⟨z3, hm, hk6⟩ := bS hm
  refine St.cutI (fun a w => ∃ (F4 : PH), PH.le F F4 ∧ Has Try.f42.ntmps a [(1, .slice pA1 a1.length pc1), (2, .slice pA2 a2.length pc2), (7, .int .i64 z3.1), (8, .int .i64 z3.2)] ∧ Sat ⟨w0, fun b => m0 b ≠ none, F⟩ F4 [] w) ?_ ?_
  · skip
    refine St.seq ?_
    refine St.region ?_
    refine St.val (v := (.int .i64 a0)) (Yields.move rfl) trivial rfl rfl ?_
    refine St.nil ?_
    refine St.norm ?_
    refine St.block ?_
    refine St.seq ?_
    refine St.region ?_
    refine St.val (v := (.bool (decide (a0 = 1)))) (Yields.eq rfl rfl) trivial rfl rfl ?_
    refine St.val (v := (.bool (decide (a0 = 1)))) (Yields.assign rfl) trivial rfl rfl ?_
    refine St.nil ?_
    refine St.norm ?_
    refine St.cond_b rfl ?_ ?_
    · intro q7
      replace q7 : a0 = 1 := of_decide_eq_true q7
      replace hm := iT hm q7
      refine St.region ?_
      refine St.val (v := (.slice pA1 a1.length pc1)) (Yields.move rfl) trivial rfl rfl ?_
      refine St.val (v := (.int .i64 ((a1.length : Nat) : Int))) (Yields.lenSlice tu27 rfl) trivial rfl rfl ?_
      refine St.val (v := (.slice pA2 a2.length pc2)) (Yields.move rfl) trivial rfl rfl ?_
      refine St.val (v := (.int .i64 ((a2.length : Nat) : Int))) (Yields.lenSlice tu27 rfl) trivial rfl rfl ?_
      refine St.val (v := (.int .i64 ((a1.length : Nat) : Int))) (Yields.assign rfl) trivial rfl rfl ?_
      refine St.val (v := (.int .i64 ((a2.length : Nat) : Int))) (Yields.assign rfl) trivial rfl rfl ?_
      refine St.nil ?_
      refine St.innorm ?_
      obtain rfl := sI hm
      intro a w ha hs
      exact ⟨F, (PH.le_refl _), ha.covers ⟨rfl, rfl, rfl, rfl, trivial⟩, (Among.of Among.none _ hs)⟩
    · intro q8
      replace q8 : ¬ (a0 = 1) := of_decide_eq_false q8
      replace hm := iF hm q8
      refine St.seq ?_
      refine St.region ?_
      refine St.val (v := (.bool (decide (a0 = 2)))) (Yields.eq rfl rfl) trivial rfl rfl ?_
      refine St.val (v := (.bool (decide (a0 = 2)))) (Yields.assign rfl) trivial rfl rfl ?_
      refine St.nil ?_
      refine St.norm ?_
      refine St.cond_b rfl ?_ ?_
      · intro q9
        replace q9 : a0 = 2 := of_decide_eq_true q9
        replace hm := iT hm q9
        refine St.region ?_
        refine St.val (v := (.slice pA1 a1.length pc1)) (Yields.move rfl) trivial rfl rfl ?_
        refine St.val (v := (.int .i64 ((a1.length : Nat) : Int))) (Yields.lenSlice tu27 rfl) trivial rfl rfl ?_
        obtain ⟨x10, e11, hm⟩ := bS hm
        refine St.val (v := (.int .i64 x10)) (Yields.quow e11 rfl rfl) trivial rfl rfl ?_
        refine St.val (v := (.slice pA2 a2.length pc2)) (Yields.move rfl) trivial rfl rfl ?_
        refine St.val (v := (.int .i64 ((a2.length : Nat) : Int))) (Yields.lenSlice tu27 rfl) trivial rfl rfl ?_
        obtain ⟨x12, e13, hm⟩ := bS hm
        refine St.val (v := (.int .i64 x12)) (Yields.quow e13 rfl rfl) trivial rfl rfl ?_
        refine St.val (v := (.int .i64 x10)) (Yields.assign rfl) trivial rfl rfl ?_
        refine St.val (v := (.int .i64 x12)) (Yields.assign rfl) trivial rfl rfl ?_
        refine St.nil ?_
        refine St.innorm ?_
        obtain rfl := sI hm
        intro a w ha hs
        exact ⟨F, (PH.le_refl _), ha.covers ⟨rfl, rfl, rfl, rfl, trivial⟩, (Among.of Among.none _ hs)⟩
      · intro q14
        replace q14 : ¬ (a0 = 2) := of_decide_eq_false q14
        replace hm := iF hm q14
        refine St.seq ?_
        refine St.region ?_
        refine St.val (v := (.bool (decide (a0 = 3)))) (Yields.eq rfl rfl) trivial rfl rfl ?_
        refine St.val (v := (.bool (decide (a0 = 3)))) (Yields.assign rfl) trivial rfl rfl ?_
        refine St.nil ?_
        refine St.norm ?_
        refine St.cond_b rfl ?_ ?_
        · intro q15
          replace q15 : a0 = 3 := of_decide_eq_true q15
          replace hm := iT hm q15
          refine St.region ?_
          refine St.val (v := (.slice pA1 a1.length pc1)) (Yields.move rfl) trivial rfl rfl ?_
          obtain ⟨q16, e17, hm⟩ := bS hm
          refine St.call [] (m_ref13_sum_sp ph1 e17) rfl (fun _ ha => ev1 ha rfl) rfl en43 rfl rfl trivial ?_
          rintro _ F18 _ ⟨rfl, rfl⟩ l19
          refine St.val (v := (.slice pA2 a2.length pc2)) (Yields.move rfl) trivial rfl rfl ?_
          obtain ⟨q20, e21, hm⟩ := bS hm
          refine St.call [] (m_ref13_sum_sp (Fsl.mono l19 ph2) e21) rfl (fun _ ha => ev1 ha rfl) rfl en43 rfl rfl trivial ?_
          rintro _ F22 _ ⟨rfl, rfl⟩ l23
          refine St.val (v := (.int .i64 q16)) (Yields.assign rfl) trivial rfl rfl ?_
          refine St.val (v := (.int .i64 q20)) (Yields.assign rfl) trivial rfl rfl ?_
          refine St.nil ?_
          refine St.innorm ?_
          obtain rfl := sI hm
          intro a w ha hs
          exact ⟨F22, (PH.le_trans l19 l23), ha.covers ⟨rfl, rfl, rfl, rfl, trivial⟩, (Among.of Among.none _ hs)⟩
        · intro q24
          replace q24 : ¬ (a0 = 3) := of_decide_eq_false q24
          replace hm := iF hm q24
          refine St.skip ?_
          refine St.innorm ?_
          obtain rfl := sI hm
          intro a w ha hs
          exact ⟨F, (PH.le_refl _), ha.covers ⟨rfl, rfl, rfl, rfl, trivial⟩, (Among.of Among.none _ hs)⟩
  · rintro a w ⟨F4, l5, ha, hs⟩
    replace hm := hk6
    refine St.use (?_ : St _ _ _ _ _ _) ha hs
    clear ha hs a w
    refine St.seq ?_
    refine St.seq ?_
    refine St.region ?_
    refine St.val (v := (.int .i64 z3.1)) (Yields.move rfl) trivial rfl rfl ?_
    refine St.val (v := (.int .i64 z3.2)) (Yields.move rfl) trivial rfl rfl ?_
    refine St.val (v := (.bool (!decide (z3.1 = z3.2)))) (Yields.ne rfl rfl) trivial rfl rfl ?_
    refine St.nil ?_
    refine St.norm ?_
    refine St.cond_b rfl ?_ ?_
    · intro q25
      replace q25 : ¬ (z3.1 = z3.2) := nd_t q25
      replace hm := iF hm q25
      refine St.seq ?_
      refine St.region ?_
      refine St.val (v := (.int .i64 z3.1)) (Yields.move rfl) trivial rfl rfl ?_
      refine St.val (v := (.int .i64 z3.2)) (Yields.move rfl) trivial rfl rfl ?_
      refine St.val (v := (.bool (decide (z3.1 < z3.2)))) (Yields.lt rfl rfl) trivial rfl rfl ?_
      refine St.val (v := (.bool (decide (z3.1 < z3.2)))) (Yields.assign rfl) trivial rfl rfl ?_
      refine St.nil ?_
      refine St.norm ?_
      refine St.ret ?_
      refine St.thenret ?_
      obtain rfl := sI hm
      exact St.doneR1 rfl rfl ⟨rfl, rfl⟩ (fun w hs => Among.of Among.none w hs)
    · intro q26
      replace q26 : z3.1 = z3.2 := nd_f q26
      replace hm := iT hm q26
      refine St.skip ?_
      refine St.norm ?_
      refine St.seq ?_
      refine St.region ?_
      refine St.val (v := (.slice pA1 a1.length pc1)) (Yields.move rfl) trivial rfl rfl ?_
      refine St.val (v := (.slice pA2 a2.length pc2)) (Yields.move rfl) trivial rfl rfl ?_
      obtain ⟨q27, e28, hm⟩ := bS hm
      refine St.call [] (m_ref13_isLess_sp (Fsl.mono l5 ph1) (Fsl.mono l5 ph2) e28) rfl (fun _ ha => ev2 ha rfl rfl) rfl en44 rfl rfl trivial ?_
      rintro _ F29 _ ⟨rfl, rfl⟩ l30
      refine St.val (v := (.bool q27)) (Yields.assign rfl) trivial rfl rfl ?_
      refine St.nil ?_
      refine St.norm ?_
      refine St.ret ?_
      obtain rfl := sI hm
      exact St.doneR1 rfl rfl ⟨rfl, rfl⟩ (fun w hs => Among.of Among.none w hs)

theorem m_ref13_Waiting_Take_sp {F : PH} {g : Nat} {a0 : Int} {a1 : List (List Int)} {pbl0 : Nat} {pA1 : Option Addr} {pc1 : Nat} {pcl1 : List Value} (ph1 : Cat (Kind.sl 8 (Kind.int .i64)) F pcl1 a1) (pbd1 : Bnd 24 a1) {r : List Int × List (List Int)} (hm : m_ref13_Waiting_Take g a0 a1 = some r) :
    CallSp Try.prog 33 #[.pointer (some ⟨pbl0, 0, none⟩)] F [blk pbl0 (.cells #[.int .i64 a0, .slice pA1 a1.length pc1] 63 (0, 0)), rowo pA1 a1.length pc1 27 1 pcl1] (fun u F' H' => ∃ (B0 : Option Addr) (d0 : Nat) (G1 : Option Addr) (e1 : Nat) (gl1 : List Value), u = (.slice B0 r.1.length d0) ∧ Fsl 8 (Kind.int .i64) F' B0 d0 r.1 ∧ Cat (Kind.sl 8 (Kind.int .i64)) F' gl1 r.2 ∧ Bnd 24 r.2 ∧ H' = [blk pbl0 (.cells #[.int .i64 a0, .slice G1 r.2.length e1] 63 (0, 0)), rowo G1 r.2.length e1 27 1 gl1]) := by
  unfold m_ref13_Waiting_Take at hm
  refine CallSp.enter (args := [.pointer (some ⟨pbl0, 0, none⟩)]) Try.func33 rfl rfl ?_
  intro w0 m0 hm0
  refine St.seq ?_
  refine St.region ?_
  refine St.val (v := (.slice none 0 0)) (Yields.assign rfl) trivial rfl rfl ?_
  refine St.nil ?_
  refine St.norm ?_
  refine St.seq ?_
  refine St.region ?_
  refine St.val (v := (.int .i64 0)) (Yields.assign rfl) trivial rfl rfl ?_
  refine St.nil ?_
  refine St.norm ?_
  obtain ⟨z2, hm, hk5⟩ := bS hm
  refine St.cutI (fun a w => ∃ (F3 : PH), PH.le F F3 ∧ Has Try.f33.ntmps a [(0, .pointer (some ⟨pbl0, 0, none⟩)), (3, .int .i64 ((z2 : Nat) : Int))] ∧ Sat ⟨w0, fun b => m0 b ≠ none, F⟩ F3 [blk pbl0 (.cells #[.int .i64 a0, .slice pA1 a1.length pc1] 63 (0, 0)), rowo pA1 a1.length pc1 27 1 pcl1] w) ?_ ?_
  · skip
    refine St.seq ?_
    refine St.region ?_
    refine St.val (v := (.pointer (some ⟨pbl0, 0, none⟩))) (Yields.move rfl) trivial rfl rfl ?_
    refine St.val (v := (.pointer (some ⟨pbl0, 0, none⟩))) (Yields.nilCheck rfl) trivial rfl rfl ?_
    refine St.val (v := (.pointer (some ⟨pbl0, 0, none⟩))) (Yields.fieldAddr (v := (.pointer (some ⟨pbl0, 0, none⟩))) rfl (fun _ => by kernel_rfl)) trivial rfl rfl ?_
    refine St.val (v := (.int .i64 a0)) (Yields.load rfl (Loads.H1 0 rfl tc3 rfl)) trivial rfl rfl ?_
    refine St.val (v := (.bool (!decide (a0 = 4)))) (Yields.ne rfl rfl) trivial rfl rfl ?_
    refine St.nil ?_
    refine St.norm ?_
    refine St.cond_b rfl ?_ ?_
    · intro q6
      replace q6 : ¬ (a0 = 4) := nd_t q6
      replace hm := iF hm q6
      refine St.seq ?_
      refine St.region ?_
      refine St.val (v := (.int .i64 1)) (Yields.assign rfl) trivial rfl rfl ?_
      refine St.nil ?_
      refine St.norm ?_
      refine St.block ?_
      refine St.loopM hm (fun s10 a w => ∃ (F14 : PH), PH.le F F14 ∧ Has Try.f33.ntmps a [(0, .pointer (some ⟨pbl0, 0, none⟩)), (3, .int .i64 ((s10.1 : Nat) : Int)), (4, .int .i64 ((s10.2 : Nat) : Int))] ∧ Sat ⟨w0, fun b => m0 b ≠ none, F⟩ F14 [blk pbl0 (.cells #[.int .i64 a0, .slice pA1 a1.length pc1] 63 (0, 0)), rowo pA1 a1.length pc1 27 1 pcl1] w) ?_ ?_
      · skip
        intro a w ha hs
        exact ⟨F, (PH.le_refl _), ha.covers ⟨rfl, rfl, rfl, trivial⟩, (Among.of (Among.take 0 rfl rfl (Among.take 0 rfl rfl Among.none)) _ hs)⟩
      · rintro s10 o11 co12 hm ho13 a w ⟨F14, l15, ha, hs⟩
        refine St.use (?_ : St _ _ _ _ _ _) ha hs
        clear ha hs a w
        refine St.seq ?_
        refine St.seq ?_
        refine St.region ?_
        refine St.val (v := (.int .i64 ((s10.2 : Nat) : Int))) (Yields.move rfl) trivial rfl rfl ?_
        refine St.val (v := (.pointer (some ⟨pbl0, 0, none⟩))) (Yields.move rfl) trivial rfl rfl ?_
        refine St.val (v := (.pointer (some ⟨pbl0, 0, none⟩))) (Yields.nilCheck rfl) trivial rfl rfl ?_
        refine St.val (v := (.pointer (some ⟨pbl0, 1, none⟩))) (Yields.fieldAddr (v := (.pointer (some ⟨pbl0, 1, none⟩))) rfl (fun _ => by kernel_rfl)) trivial rfl rfl ?_
        refine St.val (v := (.slice pA1 a1.length pc1)) (Yields.load rfl (Loads.H1 0 rfl tc31 rfl)) trivial rfl rfl ?_
        refine St.val (v := (.int .i64 ((a1.length : Nat) : Int))) (Yields.lenSlice tu31 rfl) trivial rfl rfl ?_
        refine St.val (v := (.bool (decide (((s10.2 : Nat) : Int) < ((a1.length : Nat) : Int))))) (Yields.lt rfl rfl) trivial rfl rfl ?_
        refine St.nil ?_
        refine St.norm ?_
        refine St.cond_b rfl ?_ ?_
        · intro q16
          replace q16 : ((s10.2 : Nat) : Int) < ((a1.length : Nat) : Int) := of_decide_eq_true q16
          replace hm := iT hm q16
          refine St.skip ?_
          refine St.norm ?_
          obtain ⟨z17, hm, hk20⟩ := bS hm
          refine St.cutI (fun a w => ∃ (F18 : PH), PH.le F14 F18 ∧ Has Try.f33.ntmps a [(0, .pointer (some ⟨pbl0, 0, none⟩)), (3, .int .i64 ((z17 : Nat) : Int)), (4, .int .i64 ((s10.2 : Nat) : Int))] ∧ Sat ⟨w0, fun b => m0 b ≠ none, F⟩ F18 [blk pbl0 (.cells #[.int .i64 a0, .slice pA1 a1.length pc1] 63 (0, 0)), rowo pA1 a1.length pc1 27 1 pcl1] w) ?_ ?_
          · skip
            refine St.block ?_
            refine St.seq ?_
            refine StD.start [18] [blk pbl0 (.cells #[.int .i64 a0, .slice pA1 a1.length pc1] 63 (0, 0)), rowo pA1 a1.length pc1 27 1 pcl1] hmix ?_
            refine StD.takeP (i := 0) (v := (.pointer (some ⟨pbl0, 0, none⟩))) rfl (fun _ => Yields.move rfl) rfl rfl trivial (by rintro _ _ _ ⟨_, _, _, _, h, _⟩; cases h) (by kernel_rfl) (listed' := #[true, false, false, false, false, false, false, false, false, false, false, false, false, false, false, false, false, false, false]) rfl ?_
            refine StD.takeP (i := 1) (v := (.pointer (some ⟨pbl0, 0, none⟩))) rfl (fun _ => Yields.nilCheck rfl) rfl rfl trivial (by rintro _ _ _ ⟨_, _, _, _, h, _⟩; cases h) (by kernel_rfl) (listed' := #[true, true, false, false, false, false, false, false, false, false, false, false, false, false, false, false, false, false, false]) rfl ?_
            refine StD.takeP (i := 2) (v := (.pointer (some ⟨pbl0, 0, none⟩))) rfl (fun _ => Yields.fieldAddr (v := (.pointer (some ⟨pbl0, 0, none⟩))) rfl (fun _ => by kernel_rfl)) rfl rfl trivial (by rintro _ _ _ ⟨_, _, _, _, h, _⟩; cases h) (by kernel_rfl) (listed' := #[true, true, true, false, false, false, false, false, false, false, false, false, false, false, false, false, false, false, false]) rfl ?_
            refine StD.take [0, 1, 2, 4, 5, 6, 8, 9, 11, 12, 13, 15, 16] (i := 3) (v := (.int .i64 a0)) rfl (Yields.load rfl (Loads.H1 0 rfl tc3 rfl)) rfl rfl trivial Among.refl (by rintro _ _ _ ⟨_, _, _, _, h, _⟩; cases h) (by kernel_rfl) (listed' := #[true, true, true, true, false, false, false, false, false, false, false, false, false, false, false, false, false, false, false]) rfl ?_
            refine StD.takeP (i := 4) (v := (.pointer (some ⟨pbl0, 0, none⟩))) rfl (fun _ => Yields.move rfl) rfl rfl trivial (by rintro _ _ _ ⟨_, _, _, _, h, _⟩; cases h) (by kernel_rfl) (listed' := #[true, true, true, true, true, false, false, false, false, false, false, false, false, false, false, false, false, false, false]) rfl ?_
            refine StD.takeP (i := 5) (v := (.pointer (some ⟨pbl0, 0, none⟩))) rfl (fun _ => Yields.nilCheck rfl) rfl rfl trivial (by rintro _ _ _ ⟨_, _, _, _, h, _⟩; cases h) (by kernel_rfl) (listed' := #[true, true, true, true, true, true, false, false, false, false, false, false, false, false, false, false, false, false, false]) rfl ?_
            refine StD.takeP (i := 6) (v := (.pointer (some ⟨pbl0, 1, none⟩))) rfl (fun _ => Yields.fieldAddr (v := (.pointer (some ⟨pbl0, 1, none⟩))) rfl (fun _ => by kernel_rfl)) rfl rfl trivial (by rintro _ _ _ ⟨_, _, _, _, h, _⟩; cases h) (by kernel_rfl) (listed' := #[true, true, true, true, true, true, true, false, false, false, false, false, false, false, false, false, false, false, false]) rfl ?_
            refine StD.take [0, 1, 2, 4, 5, 6, 8, 9, 11, 12, 13, 15, 16] (i := 7) (v := (.slice pA1 a1.length pc1)) rfl (Yields.load rfl (Loads.H1 0 rfl tc31 rfl)) rfl rfl trivial Among.refl (by rintro _ _ _ ⟨_, _, _, _, h, _⟩; cases h) (by kernel_rfl) (listed' := #[true, true, true, true, true, true, true, true, false, false, false, false, false, false, false, false, false, false, false]) rfl ?_
            refine StD.takeP (i := 8) (v := (.int .i64 ((s10.2 : Nat) : Int))) rfl (fun _ => Yields.move rfl) rfl rfl trivial (by rintro _ _ _ ⟨_, _, _, _, h, _⟩; cases h) (by kernel_rfl) (listed' := #[true, true, true, true, true, true, true, true, true, false, false, false, false, false, false, false, false, false, false]) rfl ?_
            obtain ⟨x21, e22, hm⟩ := bS hm
            obtain ⟨jx23, jx24, cs25, R26, k27⟩ := (Cat.mono l15 ph1).nidx e22
            obtain ⟨A28, c29, rfl, h30⟩ := R26
            refine St.rowo_at 1 rfl (by omega) ?_
            intro hA32
            refine StD.takeP (i := 9) (v := (.pointer (some ⟨bk pA1, bo pA1 + (s10.2 : Int).toNat * 1, none⟩))) rfl (fun _ => Yields.idx (IdxAt.own hA32 jx23 jx24) ts31 rfl rfl) rfl rfl trivial (by rintro _ _ _ ⟨_, _, _, _, h, _⟩; cases h) (by kernel_rfl) (listed' := #[true, true, true, true, true, true, true, true, true, true, false, false, false, false, false, false, false, false, false]) rfl ?_
            refine StD.take [0, 1, 2, 4, 5, 6, 8, 9, 11, 12, 13, 15, 16] (i := 10) (v := (.slice A28 x21.length c29)) rfl (Yields.load rfl (Loads.rA1 1 rfl tc27 (k27 0 _ rfl))) rfl rfl trivial Among.refl (by rintro _ _ _ ⟨_, _, _, _, h, _⟩; cases h) (by kernel_rfl) (listed' := #[true, true, true, true, true, true, true, true, true, true, true, false, false, false, false, false, false, false, false]) rfl ?_
            refine StD.takeP (i := 11) (v := (.pointer (some ⟨pbl0, 0, none⟩))) rfl (fun _ => Yields.move rfl) rfl rfl trivial (by rintro _ _ _ ⟨_, _, _, _, h, _⟩; cases h) (by kernel_rfl) (listed' := #[true, true, true, true, true, true, true, true, true, true, true, true, false, false, false, false, false, false, false]) rfl ?_
            refine StD.takeP (i := 12) (v := (.pointer (some ⟨pbl0, 0, none⟩))) rfl (fun _ => Yields.nilCheck rfl) rfl rfl trivial (by rintro _ _ _ ⟨_, _, _, _, h, _⟩; cases h) (by kernel_rfl) (listed' := #[true, true, true, true, true, true, true, true, true, true, true, true, true, false, false, false, false, false, false]) rfl ?_
            refine StD.takeP (i := 13) (v := (.pointer (some ⟨pbl0, 1, none⟩))) rfl (fun _ => Yields.fieldAddr (v := (.pointer (some ⟨pbl0, 1, none⟩))) rfl (fun _ => by kernel_rfl)) rfl rfl trivial (by rintro _ _ _ ⟨_, _, _, _, h, _⟩; cases h) (by kernel_rfl) (listed' := #[true, true, true, true, true, true, true, true, true, true, true, true, true, true, false, false, false, false, false]) rfl ?_
            refine StD.take [0, 1, 2, 4, 5, 6, 8, 9, 11, 12, 13, 15, 16] (i := 14) (v := (.slice pA1 a1.length pc1)) rfl (Yields.load rfl (Loads.H1 0 rfl tc31 rfl)) rfl rfl trivial Among.refl (by rintro _ _ _ ⟨_, _, _, _, h, _⟩; cases h) (by kernel_rfl) (listed' := #[true, true, true, true, true, true, true, true, true, true, true, true, true, true, true, false, false, false, false]) rfl ?_
            refine StD.takeP (i := 15) (v := (.int .i64 ((s10.1 : Nat) : Int))) rfl (fun _ => Yields.move rfl) rfl rfl trivial (by rintro _ _ _ ⟨_, _, _, _, h, _⟩; cases h) (by kernel_rfl) (listed' := #[true, true, true, true, true, true, true, true, true, true, true, true, true, true, true, true, false, false, false]) rfl ?_
            obtain ⟨x33, e34, hm⟩ := bS hm
            obtain ⟨jx35, jx36, cs37, R38, k39⟩ := (Cat.mono l15 ph1).nidx e34
            obtain ⟨A40, c41, rfl, h42⟩ := R38
            refine StD.takeP (i := 16) (v := (.pointer (some ⟨bk pA1, bo pA1 + (s10.1 : Int).toNat * 1, none⟩))) rfl (fun _ => Yields.idx (IdxAt.own hA32 jx35 jx36) ts31 rfl rfl) rfl rfl trivial (by rintro _ _ _ ⟨_, _, _, _, h, _⟩; cases h) (by kernel_rfl) (listed' := #[true, true, true, true, true, true, true, true, true, true, true, true, true, true, true, true, true, false, false]) rfl ?_
            refine StD.take [0, 1, 2, 4, 5, 6, 8, 9, 11, 12, 13, 15, 16] (i := 17) (v := (.slice A40 x33.length c41)) rfl (Yields.load rfl (Loads.rA1 1 rfl tc27 (k39 0 _ rfl))) rfl rfl trivial Among.refl (by rintro _ _ _ ⟨_, _, _, _, h, _⟩; cases h) (by kernel_rfl) (listed' := #[true, true, true, true, true, true, true, true, true, true, true, true, true, true, true, true, true, true, false]) rfl ?_
            refine StD.only (i := 18) rfl (by kernel_rfl) (listed' := #[true, true, true, true, true, true, true, true, true, true, true, true, true, true, true, true, true, true, true]) rfl ?_
            intro hcl44
            obtain ⟨q45, e46, hm⟩ := bS hm
            refine St.call [blk pbl0 (.cells #[.int .i64 a0, .slice pA1 a1.length pc1] 63 (0, 0)), rowo pA1 a1.length pc1 27 1 pcl1] (m_ref13_Ahead_sp h30 h42 e46) rfl (fun _ ha => ev3 ha rfl rfl rfl) rfl en42 rfl rfl trivial ?_
            rintro _ F47 _ ⟨rfl, rfl⟩ l48
            refine StD.next hcl44 (fun h => by cases h) ?_
            refine StD.done (by kernel_rfl) ?_
            refine St.norm ?_
            refine St.cond_b rfl ?_ ?_
            · intro q49
              replace q49 : q45 = true := q49
              replace hm := iT hm q49
              refine St.region ?_
              refine St.val (v := (.int .i64 ((s10.2 : Nat) : Int))) (Yields.move rfl) trivial rfl rfl ?_
              refine St.val (v := (.int .i64 ((s10.2 : Nat) : Int))) (Yields.assign rfl) trivial rfl rfl ?_
              refine St.nil ?_
              refine St.innorm ?_
              obtain rfl := sI hm
              intro a w ha hs
              exact ⟨F47, l48, ha.covers ⟨rfl, rfl, rfl, trivial⟩, (Among.of (Among.take 0 rfl rfl (Among.take 0 rfl rfl Among.none)) _ hs)⟩
            · intro q50
              replace q50 : ¬ (q45 = true) := bf q50
              replace hm := iF hm q50
              refine St.skip ?_
              refine St.innorm ?_
              obtain rfl := sI hm
              intro a w ha hs
              exact ⟨F47, l48, ha.covers ⟨rfl, rfl, rfl, trivial⟩, (Among.of (Among.take 0 rfl rfl (Among.take 0 rfl rfl Among.none)) _ hs)⟩
          · rintro a w ⟨F18, l19, ha, hs⟩
            replace hm := hk20
            refine St.use (?_ : St _ _ _ _ _ _) ha hs
            clear ha hs a w
            refine St.region ?_
            refine St.val (v := (.int .i64 ((s10.2 : Nat) : Int))) (Yields.move rfl) trivial rfl rfl ?_
            refine St.val (v := (.int .i64 ((s10.2 + 1 : Nat) : Int))) (Yields.addn (j := 1) rfl rfl rfl (by have q_0 := q16; have q_1 := pbd1.2; omega)) trivial rfl rfl ?_
            refine St.val (v := (.int .i64 ((s10.2 + 1 : Nat) : Int))) (Yields.assign rfl) trivial rfl rfl ?_
            refine St.nil ?_
            refine St.norm ?_
            obtain rfl := sI hm
            intro a w ha hs
            exact ⟨(z17, s10.2 + 1), aL ho13, F18, (PH.le_trans l15 l19), ha.covers ⟨rfl, rfl, rfl, trivial⟩, (Among.of (Among.take 0 rfl rfl (Among.take 0 rfl rfl Among.none)) _ hs)⟩
        · intro q51
          replace q51 : ¬ (((s10.2 : Nat) : Int) < ((a1.length : Nat) : Int)) := of_decide_eq_false q51
          replace hm := iF hm q51
          refine St.exit ?_
          refine St.thenexit ?_
          refine St.thenexit ?_
          refine St.inexit ?_
          obtain rfl := sI hm
          obtain rfl := aR ho13
          intro a w ha hs
          exact ⟨F14, l15, ha.covers ⟨rfl, rfl, trivial⟩, (Among.of (Among.take 0 rfl rfl (Among.take 0 rfl rfl Among.none)) _ hs)⟩
    · intro q52
      replace q52 : a0 = 4 := nd_f q52
      replace hm := iT hm q52
      refine St.skip ?_
      obtain rfl := sI hm
      intro a w ha hs
      exact ⟨F, (PH.le_refl _), ha.covers ⟨rfl, rfl, trivial⟩, (Among.of (Among.take 0 rfl rfl (Among.take 0 rfl rfl Among.none)) _ hs)⟩
  · rintro a w ⟨F3, l4, ha, hs⟩
    replace hm := hk5
    refine St.use (?_ : St _ _ _ _ _ _) ha hs
    clear ha hs a w
    refine St.seq ?_
    refine St.region ?_
    refine St.val (v := (.pointer (some ⟨pbl0, 0, none⟩))) (Yields.move rfl) trivial rfl rfl ?_
    refine St.val (v := (.pointer (some ⟨pbl0, 0, none⟩))) (Yields.nilCheck rfl) trivial rfl rfl ?_
    refine St.val (v := (.pointer (some ⟨pbl0, 1, none⟩))) (Yields.fieldAddr (v := (.pointer (some ⟨pbl0, 1, none⟩))) rfl (fun _ => by kernel_rfl)) trivial rfl rfl ?_
    refine St.val (v := (.slice pA1 a1.length pc1)) (Yields.load rfl (Loads.H1 0 rfl tc31 rfl)) trivial rfl rfl ?_
    refine St.val (v := (.int .i64 ((z2 : Nat) : Int))) (Yields.move rfl) trivial rfl rfl ?_
    obtain ⟨x53, e54, hm⟩ := bS hm
    obtain ⟨jx55, jx56, cs57, R58, k59⟩ := (Cat.mono l4 ph1).nidx e54
    obtain ⟨A60, c61, rfl, h62⟩ := R58
    refine St.rowo_at 1 rfl (by omega) ?_
    intro hA64
    refine St.val (v := (.pointer (some ⟨bk pA1, bo pA1 + (z2 : Int).toNat * 1, none⟩))) (Yields.idx (IdxAt.own hA64 jx55 jx56) ts31 rfl rfl) trivial rfl rfl ?_
    refine St.val (v := (.slice A60 x53.length c61)) (Yields.load rfl (Loads.rA1 1 rfl tc27 (k59 0 _ rfl))) trivial rfl rfl ?_
    refine St.val (v := (.slice A60 x53.length c61)) (Yields.assign rfl) trivial rfl rfl ?_
    refine St.nil ?_
    refine St.norm ?_
    refine St.seq ?_
    refine St.region ?_
    refine St.val (v := (.slice none 0 0)) (Yields.assign rfl) trivial rfl rfl ?_
    refine St.nil ?_
    refine St.norm ?_
    obtain ⟨z65, hm, hk72⟩ := bS hm
    refine St.cutI (fun a w => ∃ (A67 : Option Addr) (c68 : Nat) (cells70 : List Value), Cat (Kind.sl 8 (Kind.int .i64)) F3 cells70 z65 ∧ Bnd 24 z65 ∧ Has Try.f33.ntmps a [(0, .pointer (some ⟨pbl0, 0, none⟩)), (5, .slice A60 x53.length c61), (6, .slice A67 z65.length c68)] ∧ Sat ⟨w0, fun b => m0 b ≠ none, F⟩ F3 [blk pbl0 (.cells #[.int .i64 a0, .slice pA1 a1.length pc1] 63 (0, 0)), rowo pA1 a1.length pc1 27 1 pcl1, rowo A67 z65.length c68 27 1 cells70] w) ?_ ?_
    · skip
      refine St.seq ?_
      refine St.region ?_
      refine St.val (v := (.int .i64 0)) (Yields.assign rfl) trivial rfl rfl ?_
      refine St.nil ?_
      refine St.norm ?_
      refine St.block ?_
      refine St.loopM hm (fun s81 a w => ∃ (A86 : Option Addr) (c87 : Nat) (cells89 : List Value), Cat (Kind.sl 8 (Kind.int .i64)) F3 cells89 s81.1 ∧ Bnd 24 s81.1 ∧ Has Try.f33.ntmps a [(0, .pointer (some ⟨pbl0, 0, none⟩)), (3, .int .i64 ((z2 : Nat) : Int)), (5, .slice A60 x53.length c61), (6, .slice A86 s81.1.length c87), (7, .int .i64 ((s81.2 : Nat) : Int))] ∧ Sat ⟨w0, fun b => m0 b ≠ none, F⟩ F3 [blk pbl0 (.cells #[.int .i64 a0, .slice pA1 a1.length pc1] 63 (0, 0)), rowo pA1 a1.length pc1 27 1 pcl1, rowo A86 s81.1.length c87 27 1 cells89] w) ?_ ?_
      · skip
        refine St.rowo_new 27 1 ?_
        intro a w ha hs
        exact ⟨none, 0, [], (show Cat (Kind.sl 8 (Kind.int .i64)) _ [] [] from rfl), Bnd.of_nil, ha.covers ⟨rfl, rfl, rfl, rfl, rfl, trivial⟩, (Among.of (Among.take 1 rfl rfl (Among.take 1 rfl rfl (Among.take 0 rfl rfl Among.none))) _ hs)⟩
      · rintro s81 o82 co83 hm ho84 a w ⟨A86, c87, cells89, h88, b90, ha, hs⟩
        refine St.use (?_ : St _ _ _ _ _ _) ha hs
        clear ha hs a w
        refine St.seq ?_
        refine St.seq ?_
        refine St.region ?_
        refine St.val (v := (.int .i64 ((s81.2 : Nat) : Int))) (Yields.move rfl) trivial rfl rfl ?_
        refine St.val (v := (.pointer (some ⟨pbl0, 0, none⟩))) (Yields.move rfl) trivial rfl rfl ?_
        refine St.val (v := (.pointer (some ⟨pbl0, 0, none⟩))) (Yields.nilCheck rfl) trivial rfl rfl ?_
        refine St.val (v := (.pointer (some ⟨pbl0, 1, none⟩))) (Yields.fieldAddr (v := (.pointer (some ⟨pbl0, 1, none⟩))) rfl (fun _ => by kernel_rfl)) trivial rfl rfl ?_
        refine St.val (v := (.slice pA1 a1.length pc1)) (Yields.load rfl (Loads.H1 0 rfl tc31 rfl)) trivial rfl rfl ?_
        refine St.val (v := (.int .i64 ((a1.length : Nat) : Int))) (Yields.lenSlice tu31 rfl) trivial rfl rfl ?_
        refine St.val (v := (.bool (decide (((s81.2 : Nat) : Int) < ((a1.length : Nat) : Int))))) (Yields.lt rfl rfl) trivial rfl rfl ?_
        refine St.nil ?_
        refine St.norm ?_
        refine St.cond_b rfl ?_ ?_
        · intro q92
          replace q92 : ((s81.2 : Nat) : Int) < ((a1.length : Nat) : Int) := of_decide_eq_true q92
          replace hm := iT hm q92
          refine St.skip ?_
          refine St.norm ?_
          obtain ⟨z93, hm, hk100⟩ := bS hm
          refine St.cutI (fun a w => ∃ (A95 : Option Addr) (c96 : Nat) (cells98 : List Value), Cat (Kind.sl 8 (Kind.int .i64)) F3 cells98 z93 ∧ Bnd 24 z93 ∧ Has Try.f33.ntmps a [(0, .pointer (some ⟨pbl0, 0, none⟩)), (3, .int .i64 ((z2 : Nat) : Int)), (5, .slice A60 x53.length c61), (6, .slice A95 z93.length c96), (7, .int .i64 ((s81.2 : Nat) : Int))] ∧ Sat ⟨w0, fun b => m0 b ≠ none, F⟩ F3 [blk pbl0 (.cells #[.int .i64 a0, .slice pA1 a1.length pc1] 63 (0, 0)), rowo pA1 a1.length pc1 27 1 pcl1, rowo A95 z93.length c96 27 1 cells98] w) ?_ ?_
          · skip
            refine St.block ?_
            refine St.seq ?_
            refine St.region ?_
            refine St.val (v := (.int .i64 ((s81.2 : Nat) : Int))) (Yields.move rfl) trivial rfl rfl ?_
            refine St.val (v := (.int .i64 ((z2 : Nat) : Int))) (Yields.move rfl) trivial rfl rfl ?_
            refine St.val (v := (.bool (!decide (((s81.2 : Nat) : Int) = ((z2 : Nat) : Int))))) (Yields.ne rfl rfl) trivial rfl rfl ?_
            refine St.nil ?_
            refine St.norm ?_
            refine St.cond_b rfl ?_ ?_
            · intro q101
              replace q101 : ¬ (((s81.2 : Nat) : Int) = ((z2 : Nat) : Int)) := nd_t q101
              replace hm := iF hm q101
              refine St.region ?_
              refine St.val (v := (.slice A86 s81.1.length c87)) (Yields.move rfl) trivial rfl rfl ?_
              refine St.val (v := (.pointer (some ⟨pbl0, 0, none⟩))) (Yields.move rfl) trivial rfl rfl ?_
              refine St.val (v := (.pointer (some ⟨pbl0, 0, none⟩))) (Yields.nilCheck rfl) trivial rfl rfl ?_
              refine St.val (v := (.pointer (some ⟨pbl0, 1, none⟩))) (Yields.fieldAddr (v := (.pointer (some ⟨pbl0, 1, none⟩))) rfl (fun _ => by kernel_rfl)) trivial rfl rfl ?_
              refine St.val (v := (.slice pA1 a1.length pc1)) (Yields.load rfl (Loads.H1 0 rfl tc31 rfl)) trivial rfl rfl ?_
              refine St.val (v := (.int .i64 ((s81.2 : Nat) : Int))) (Yields.move rfl) trivial rfl rfl ?_
              obtain ⟨x102, e103, hm⟩ := bS hm
              obtain ⟨jx104, jx105, cs106, R107, k108⟩ := (Cat.mono l4 ph1).nidx e103
              obtain ⟨A109, c110, rfl, h111⟩ := R107
              refine St.val (v := (.pointer (some ⟨bk pA1, bo pA1 + (s81.2 : Int).toNat * 1, none⟩))) (Yields.idx (IdxAt.own hA64 jx104 jx105) ts31 rfl rfl) trivial rfl rfl ?_
              refine St.val (v := (.slice A109 x102.length c110)) (Yields.load rfl (Loads.rA1 1 rfl tc27 (k108 0 _ rfl))) trivial rfl rfl ?_
              refine St.buildSlice (e := 27) (cells := #[.slice A109 x102.length c110]) (vs := #[(0, .slice A109 x102.length c110)]) (fun _ ha => evp1 ha rfl) (fun _ => by kernel_rfl) rfl trivial ?_
              intro b113
              obtain ⟨x118, e119, hm⟩ := bS hm
              refine St.pushL (R := [blk b113 (.cells #[.slice A109 x102.length c110] 27 (0, 0)), blk pbl0 (.cells #[.int .i64 a0, .slice pA1 a1.length pc1] 63 (0, 0)), rowo pA1 a1.length pc1 27 1 pcl1]) (R3 := [blk pbl0 (.cells #[.int .i64 a0, .slice pA1 a1.length pc1] 63 (0, 0)), rowo pA1 a1.length pc1 27 1 pcl1]) e119 ts31 rfl rfl rfl rfl rfl 3 rfl rfl 0 rfl 0 rfl rfl h88 ⟨[.slice A109 x102.length c110], _, rfl, ⟨_, _, rfl, h111⟩, rfl⟩ rfl trivial ?_
              intro A114 c115 cells116 h117
              refine St.val (v := (.slice A114 x118.length c115)) (Yields.assign rfl) trivial rfl rfl ?_
              refine St.nil ?_
              refine St.innorm ?_
              obtain rfl := sI hm
              intro a w ha hs
              exact ⟨A114, c115, cells116, h117, (Bnd.of_push e119), ha.covers ⟨rfl, rfl, rfl, rfl, rfl, trivial⟩, (Among.of (Among.take 1 rfl rfl (Among.take 1 rfl rfl (Among.take 0 rfl rfl Among.none))) _ hs)⟩
            · intro q121
              replace q121 : ((s81.2 : Nat) : Int) = ((z2 : Nat) : Int) := nd_f q121
              replace hm := iT hm q121
              refine St.skip ?_
              refine St.innorm ?_
              obtain rfl := sI hm
              intro a w ha hs
              exact ⟨A86, c87, cells89, h88, b90, ha.covers ⟨rfl, rfl, rfl, rfl, rfl, trivial⟩, (Among.of (Among.take 0 rfl rfl (Among.take 0 rfl rfl (Among.take 0 rfl rfl Among.none))) _ hs)⟩
          · rintro a w ⟨A95, c96, cells98, h97, b99, ha, hs⟩
            replace hm := hk100
            refine St.use (?_ : St _ _ _ _ _ _) ha hs
            clear ha hs a w
            refine St.region ?_
            refine St.val (v := (.int .i64 ((s81.2 : Nat) : Int))) (Yields.move rfl) trivial rfl rfl ?_
            refine St.val (v := (.int .i64 ((s81.2 + 1 : Nat) : Int))) (Yields.addn (j := 1) rfl rfl rfl (by have q_0 := q92; have q_1 := pbd1.2; omega)) trivial rfl rfl ?_
            refine St.val (v := (.int .i64 ((s81.2 + 1 : Nat) : Int))) (Yields.assign rfl) trivial rfl rfl ?_
            refine St.nil ?_
            refine St.norm ?_
            obtain rfl := sI hm
            intro a w ha hs
            exact ⟨(z93, s81.2 + 1), aL ho84, A95, c96, cells98, h97, b99, ha.covers ⟨rfl, rfl, rfl, rfl, rfl, trivial⟩, (Among.of (Among.take 0 rfl rfl (Among.take 0 rfl rfl (Among.take 0 rfl rfl Among.none))) _ hs)⟩
        · intro q122
          replace q122 : ¬ (((s81.2 : Nat) : Int) < ((a1.length : Nat) : Int)) := of_decide_eq_false q122
          replace hm := iF hm q122
          refine St.exit ?_
          refine St.thenexit ?_
          refine St.thenexit ?_
          refine St.inexit ?_
          obtain rfl := sI hm
          obtain rfl := aR ho84
          intro a w ha hs
          exact ⟨A86, c87, cells89, h88, b90, ha.covers ⟨rfl, rfl, rfl, trivial⟩, (Among.of (Among.take 0 rfl rfl (Among.take 0 rfl rfl (Among.take 0 rfl rfl Among.none))) _ hs)⟩
    · rintro a w ⟨A67, c68, cells70, h69, b71, ha, hs⟩
      replace hm := hk72
      refine St.use (?_ : St _ _ _ _ _ _) ha hs
      clear ha hs a w
      refine St.seq ?_
      refine St.region ?_
      refine St.val (v := (.pointer (some ⟨pbl0, 0, none⟩))) (Yields.move rfl) trivial rfl rfl ?_
      refine St.val (v := (.slice A67 z65.length c68)) (Yields.move rfl) trivial rfl rfl ?_
      refine St.val (v := (.pointer (some ⟨pbl0, 0, none⟩))) (Yields.nilCheck rfl) trivial rfl rfl ?_
      refine St.val (v := (.pointer (some ⟨pbl0, 1, none⟩))) (Yields.fieldAddr (v := (.pointer (some ⟨pbl0, 1, none⟩))) rfl (fun _ => by kernel_rfl)) trivial rfl rfl ?_
      refine St.store (R := [rowo pA1 a1.length pc1 27 1 pcl1, rowo A67 z65.length c68 27 1 cells70]) rfl rfl 0 rfl rfl tc31 rfl rfl trivial (cs' := #[.int .i64 a0, .slice A67 z65.length c68]) rfl ?_
      refine St.nil ?_
      refine St.norm ?_
      refine St.seq ?_
      refine St.region ?_
      refine St.val (v := (.slice A60 x53.length c61)) (Yields.move rfl) trivial rfl rfl ?_
      refine St.val (v := (.slice A60 x53.length c61)) (Yields.assign rfl) trivial rfl rfl ?_
      refine St.nil ?_
      refine St.norm ?_
      refine St.ret ?_
      obtain rfl := sI hm
      exact St.doneR1 rfl rfl ⟨A60, c61, A67, c68, cells70, rfl, h62, h69, b71, rfl⟩ (fun w hs => Among.of (Among.take 0 rfl rfl (Among.take 1 rfl rfl Among.none)) w hs)

theorem m_ref13_at_sp {F : PH} {g : Nat} {a0 : DSTree} {a1 : List Int} {pA0_0 : Option Addr} {pc0_0 : Nat} {pA1 : Option Addr} {pc1 : Nat} (ph0_0 : Fsl 32 KDSTree F pA0_0 pc0_0 a0.Kids) (ph1 : Fsl 8 (Kind.int .i64) F pA1 pc1 a1) {r : DSTree} (hm : m_ref13_at g a0 a1 = some r) :
    CallSp Try.prog 21 #[.agg #[.int .i64 a0.N, .slice pA0_0 a0.Kids.length pc0_0], .slice pA1 a1.length pc1] F [] (fun u F' H' => ∃ (B0_0 : Option Addr) (d0_0 : Nat), u = (.agg #[.int .i64 r.N, .slice B0_0 r.Kids.length d0_0]) ∧ Fsl 32 KDSTree F' B0_0 d0_0 r.Kids ∧ H' = []) := by
  unfold m_ref13_at at hm
  refine CallSp.enter (args := [.agg #[.int .i64 a0.N, .slice pA0_0 a0.Kids.length pc0_0], .slice pA1 a1.length pc1]) Try.func21 rfl rfl ?_
  intro w0 m0 hm0
  refine St.seq ?_
  refine St.region ?_
  refine St.box rfl trivial rfl ?_
  intro b3
  refine St.alloc tz24 trivial rfl ?_
  intro b4
  refine St.nil ?_
  refine St.norm ?_
  obtain ⟨z5, hm, hk10⟩ := bS hm
  refine St.cutI (fun a w => ∃ (A7 : Option Addr) (c8 : Nat), Fsl 32 KDSTree F A7 c8 z5.2 ∧ Has Try.f21.ntmps a [(2, .pointer (some ⟨b3, 0, none⟩)), (4, .pointer (some ⟨b4, 0, none⟩))] ∧ Sat ⟨w0, fun b => m0 b ≠ none, F⟩ F [blk b3 (.cells #[.int .i64 z5.1, .slice A7 z5.2.length c8] 24 (0, 0)), blk b4 (.cells #[.int .i64 0, .slice none 0 0] 24 (0, 0))] w) ?_ ?_
  · skip
    refine St.seq ?_
    refine St.region ?_
    refine St.val (v := (.int .i64 0)) (Yields.assign rfl) trivial rfl rfl ?_
    refine St.nil ?_
    refine St.norm ?_
    refine St.block ?_
    refine St.loopM hm (fun s18 a w => ∃ (A23 : Option Addr) (c24 : Nat), Fsl 32 KDSTree F A23 c24 s18.2.1 ∧ Has Try.f21.ntmps a [(1, .slice pA1 a1.length pc1), (2, .pointer (some ⟨b3, 0, none⟩)), (4, .pointer (some ⟨b4, 0, none⟩)), (5, .int .i64 ((s18.2.2 : Nat) : Int))] ∧ Sat ⟨w0, fun b => m0 b ≠ none, F⟩ F [blk b3 (.cells #[.int .i64 s18.1, .slice A23 s18.2.1.length c24] 24 (0, 0)), blk b4 (.cells #[.int .i64 0, .slice none 0 0] 24 (0, 0))] w) ?_ ?_
    · skip
      intro a w ha hs
      exact ⟨pA0_0, pc0_0, ph0_0, ha.covers ⟨rfl, rfl, rfl, rfl, trivial⟩, (Among.of (Among.take 1 rfl rfl (Among.take 0 rfl rfl Among.none)) _ hs)⟩
    · rintro s18 o19 co20 hm ho21 a w ⟨A23, c24, h25, ha, hs⟩
      refine St.use (?_ : St _ _ _ _ _ _) ha hs
      clear ha hs a w
      refine St.seq ?_
      refine St.seq ?_
      refine St.region ?_
      refine St.val (v := (.int .i64 ((s18.2.2 : Nat) : Int))) (Yields.move rfl) trivial rfl rfl ?_
      refine St.val (v := (.slice pA1 a1.length pc1)) (Yields.move rfl) trivial rfl rfl ?_
      refine St.val (v := (.int .i64 ((a1.length : Nat) : Int))) (Yields.lenSlice tu27 rfl) trivial rfl rfl ?_
      refine St.val (v := (.bool (decide (((s18.2.2 : Nat) : Int) < ((a1.length : Nat) : Int))))) (Yields.lt rfl rfl) trivial rfl rfl ?_
      refine St.nil ?_
      refine St.norm ?_
      refine St.cond_b rfl ?_ ?_
      · intro q26
        replace q26 : ((s18.2.2 : Nat) : Int) < ((a1.length : Nat) : Int) := of_decide_eq_true q26
        replace hm := iT hm q26
        refine St.skip ?_
        refine St.norm ?_
        refine St.seq ?_
        refine St.block ?_
        refine StD.start [8] [blk b3 (.cells #[.int .i64 s18.1, .slice A23 s18.2.1.length c24] 24 (0, 0)), blk b4 (.cells #[.int .i64 0, .slice none 0 0] 24 (0, 0))] hmix ?_
        refine StD.takeP (i := 0) (v := (.pointer (some ⟨b3, 1, none⟩))) rfl (fun _ => Yields.fieldAddr (v := (.pointer (some ⟨b3, 1, none⟩))) rfl (fun _ => by kernel_rfl)) rfl rfl trivial (by rintro _ _ _ ⟨_, _, _, _, h, _⟩; cases h) (by kernel_rfl) (listed' := #[true, false, false, false, false, false, false, false, false]) rfl ?_
        refine StD.take [0, 2, 3, 4, 6] (i := 1) (v := (.slice A23 s18.2.1.length c24)) rfl (Yields.load rfl (Loads.H1 0 rfl tc22 rfl)) rfl rfl trivial Among.refl (by rintro _ _ _ ⟨_, _, _, _, h, _⟩; cases h) (by kernel_rfl) (listed' := #[true, true, false, false, false, false, false, false, false]) rfl ?_
        refine StD.takeP (i := 2) (v := (.slice pA1 a1.length pc1)) rfl (fun _ => Yields.move rfl) rfl rfl trivial (by rintro _ _ _ ⟨_, _, _, _, h, _⟩; cases h) (by kernel_rfl) (listed' := #[true, true, true, false, false, false, false, false, false]) rfl ?_
        refine StD.takeP (i := 3) (v := (.int .i64 ((s18.2.2 : Nat) : Int))) rfl (fun _ => Yields.move rfl) rfl rfl trivial (by rintro _ _ _ ⟨_, _, _, _, h, _⟩; cases h) (by kernel_rfl) (listed' := #[true, true, true, true, false, false, false, false, false]) rfl ?_
        obtain ⟨x27, e28, hm⟩ := bS hm
        obtain ⟨p29, cs30, jx31, R32, k33⟩ := ph1.nidx e28
        obtain rfl := R32
        refine StD.takeP (i := 4) (v := (.pointer (some p29))) rfl (fun _ => Yields.idx jx31 ts27 rfl rfl) rfl rfl trivial (by rintro _ _ _ ⟨_, _, _, _, h, _⟩; cases h) (by kernel_rfl) (listed' := #[true, true, true, true, true, false, false, false, false]) rfl ?_
        refine StD.take [0, 2, 3, 4, 6] (i := 5) (v := (.int .i64 x27)) rfl (Yields.load rfl (Loads.Fat k33 tc3 rfl)) rfl rfl trivial Among.refl (by rintro _ _ _ ⟨_, _, _, _, h, _⟩; cases h) (by kernel_rfl) (listed' := #[true, true, true, true, true, true, false, false, false]) rfl ?_
        obtain ⟨x34, e35, hm⟩ := bS hm
        obtain ⟨p36, cs37, jx38, R39, k40⟩ := h25.idx e35
        obtain ⟨A41, c42, rfl, h43⟩ := DSTree.opn R39
        refine StD.takeP (i := 6) (v := (.pointer (some p36))) rfl (fun _ => Yields.idx jx38 ts22 rfl rfl) rfl rfl trivial (by rintro _ _ _ ⟨_, _, _, _, h, _⟩; cases h) (by kernel_rfl) (listed' := #[true, true, true, true, true, true, true, false, false]) rfl ?_
        refine StD.take [0, 2, 3, 4, 6] (i := 7) (v := (.agg #[.int .i64 x34.N, .slice A41 x34.Kids.length c42])) rfl (Yields.load rfl (Loads.Fatn0 k40 ta24)) rfl rfl trivial Among.refl (by rintro _ _ _ ⟨_, _, _, _, h, _⟩; cases h) (by kernel_rfl) (listed' := #[true, true, true, true, true, true, true, true, false]) rfl ?_
        refine StD.only (i := 8) rfl (by kernel_rfl) (listed' := #[true, true, true, true, true, true, true, true, true]) rfl ?_
        intro hcl45
        refine St.storen (R := [blk b4 (.cells #[.int .i64 0, .slice none 0 0] 24 (0, 0))]) rfl rfl 0 rfl rfl ta24 rfl rfl rfl trivial (cs' := #[.int .i64 x34.N, .slice A41 x34.Kids.length c42]) rfl ?_
        refine StD.next hcl45 (fun h => by cases h) ?_
        refine StD.done (by kernel_rfl) ?_
        refine St.innorm ?_
        refine St.norm ?_
        refine St.region ?_
        refine St.val (v := (.int .i64 ((s18.2.2 : Nat) : Int))) (Yields.move rfl) trivial rfl rfl ?_
        refine St.val (v := (.int .i64 ((s18.2.2 + 1 : Nat) : Int))) (Yields.addn (j := 1) rfl rfl rfl (by have q_0 := q26; have q_1 := ph1.bnd.2; omega)) trivial rfl rfl ?_
        refine St.val (v := (.int .i64 ((s18.2.2 + 1 : Nat) : Int))) (Yields.assign rfl) trivial rfl rfl ?_
        refine St.nil ?_
        refine St.norm ?_
        obtain rfl := sI hm
        intro a w ha hs
        exact ⟨(x34.N, x34.Kids, s18.2.2 + 1), aL ho21, A41, c42, h43, ha.covers ⟨rfl, rfl, rfl, rfl, trivial⟩, (Among.of (Among.take 0 rfl rfl (Among.take 0 rfl rfl Among.none)) _ hs)⟩
      · intro q46
        replace q46 : ¬ (((s18.2.2 : Nat) : Int) < ((a1.length : Nat) : Int)) := of_decide_eq_false q46
        replace hm := iF hm q46
        refine St.exit ?_
        refine St.thenexit ?_
        refine St.thenexit ?_
        refine St.inexit ?_
        obtain rfl := sI hm
        obtain rfl := aR ho21
        intro a w ha hs
        exact ⟨A23, c24, h25, ha.covers ⟨rfl, rfl, trivial⟩, (Among.of (Among.take 0 rfl rfl (Among.take 0 rfl rfl Among.none)) _ hs)⟩
  · rintro a w ⟨A7, c8, h9, ha, hs⟩
    replace hm := hk10
    refine St.use (?_ : St _ _ _ _ _ _) ha hs
    clear ha hs a w
    refine St.seq ?_
    refine St.region ?_
    refine St.val (v := (.agg #[.int .i64 z5.1, .slice A7 z5.2.length c8])) (Yields.load rfl (Loads.Hk (vs := [.int .i64 z5.1, .slice A7 z5.2.length c8]) 0 rfl ta24 rfl rfl)) trivial rfl rfl ?_
    refine St.storen (R := [blk b3 (.cells #[.int .i64 z5.1, .slice A7 z5.2.length c8] 24 (0, 0))]) rfl rfl 1 rfl rfl ta24 rfl rfl rfl trivial (cs' := #[.int .i64 z5.1, .slice A7 z5.2.length c8]) rfl ?_
    refine St.nil ?_
    refine St.norm ?_
    refine St.ret ?_
    obtain rfl := sI hm
    exact St.doneR1 rfl (ResOk.cell rfl (Loads.Hk (vs := [.int .i64 z5.1, .slice A7 z5.2.length c8]) 0 rfl ta24 rfl rfl)) ⟨A7, c8, rfl, h9, rfl⟩ (fun w hs => Among.of Among.none w hs)

theorem m_ref13_Kid_sp {F : PH} {g : Nat} {a0 : List Int} {a1 : Int} {pA0 : Option Addr} {pc0 : Nat} (ph0 : Fsl 8 (Kind.int .i64) F pA0 pc0 a0) {r : List Int} (hm : m_ref13_Kid g a0 a1 = some r) :
    CallSp Try.prog 35 #[.slice pA0 a0.length pc0, .int .i64 a1] F [] (fun u F' H' => ∃ (B0 : Option Addr) (d0 : Nat), u = (.slice B0 r.length d0) ∧ Fsl 8 (Kind.int .i64) F' B0 d0 r ∧ H' = []) := by
  unfold m_ref13_Kid at hm
  refine CallSp.enter (args := [.slice pA0 a0.length pc0, .int .i64 a1]) Try.func35 rfl rfl ?_
  intro w0 m0 hm0
  refine St.seq ?_
  refine St.region ?_
  refine St.val (v := (.slice none 0 0)) (Yields.assign rfl) trivial rfl rfl ?_
  refine St.nil ?_
  refine St.norm ?_
  refine St.seq ?_
  refine St.region ?_
  refine St.val (v := (.slice none 0 0)) (Yields.assign rfl) trivial rfl rfl ?_
  refine St.nil ?_
  refine St.norm ?_
  refine St.seq ?_
  refine St.region ?_
  refine St.val (v := (.slice none 0 0)) (Yields.move rfl) trivial rfl rfl ?_
  refine St.val (v := (.slice pA0 a0.length pc0)) (Yields.move rfl) trivial rfl rfl ?_
  refine St.rowo_new 3 1 ?_
  obtain ⟨x7, e8, hm⟩ := bS hm
  refine St.pushS (R := []) e8 ts27 rfl rfl rfl rfl 0 rfl rfl (show Cat (Kind.int .i64) _ [] [] from rfl) ph0 rfl trivial ?_
  intro A3 c4 cells5 h6
  refine St.val (v := (.slice A3 x7.length c4)) (Yields.assign rfl) trivial rfl rfl ?_
  refine St.nil ?_
  refine St.norm ?_
  refine St.seq ?_
  refine St.region ?_
  refine St.val (v := (.slice A3 x7.length c4)) (Yields.move rfl) trivial rfl rfl ?_
  refine St.val (v := (.int .i64 a1)) (Yields.move rfl) trivial rfl rfl ?_
  refine St.buildSlice (e := 3) (cells := #[.int .i64 a1]) (vs := #[(0, .int .i64 a1)]) (fun _ ha => evp1 ha rfl) (fun _ => by kernel_rfl) rfl trivial ?_
  intro b10
  obtain ⟨x15, e16, hm⟩ := bS hm
  refine St.pushL (R := [blk b10 (.cells #[.int .i64 a1] 3 (0, 0))]) (R3 := []) e16 ts27 rfl rfl rfl rfl rfl 1 rfl rfl 0 rfl 0 rfl rfl h6 ⟨[.int .i64 a1], _, rfl, rfl, rfl⟩ rfl trivial ?_
  intro A11 c12 cells13 h14
  refine St.val (v := (.slice A11 x15.length c12)) (Yields.assign rfl) trivial rfl rfl ?_
  refine St.nil ?_
  refine St.norm ?_
  refine St.ret ?_
  refine St.frz 0 rfl rfl rfl h14 (Bnd.of_push e16) ?_
  intro F18 l19 h20
  obtain rfl := sI hm
  exact St.doneR1 rfl rfl ⟨A11, c12, rfl, h20, rfl⟩ (fun w hs => Among.of Among.none w hs)

theorem m_ref13_Waiting_Put_sp {F : PH} {g : Nat} {a0 : List Int} {a1 : Int} {a2 : List (List Int)} {pbl0 : Nat} {pA0 : Option Addr} {pc0 : Nat} {pA2 : Option Addr} {pc2 : Nat} {pcl2 : List Value} (ph0 : Fsl 8 (Kind.int .i64) F pA0 pc0 a0) (ph2 : Cat (Kind.sl 8 (Kind.int .i64)) F pcl2 a2) (pbd2 : Bnd 24 a2) {r : List (List Int)} (hm : m_ref13_Waiting_Put g a0 a1 a2 = some r) :
    CallSp Try.prog 34 #[.pointer (some ⟨pbl0, 0, none⟩), .slice pA0 a0.length pc0] F [blk pbl0 (.cells #[.int .i64 a1, .slice pA2 a2.length pc2] 63 (0, 0)), rowo pA2 a2.length pc2 27 1 pcl2] (fun u F' H' => ∃ (G2 : Option Addr) (e2 : Nat) (gl2 : List Value), u = (.tuple #[]) ∧ Cat (Kind.sl 8 (Kind.int .i64)) F' gl2 r ∧ Bnd 24 r ∧ H' = [blk pbl0 (.cells #[.int .i64 a1, .slice G2 r.length e2] 63 (0, 0)), rowo G2 r.length e2 27 1 gl2]) := by
  unfold m_ref13_Waiting_Put at hm
  refine CallSp.enter (args := [.pointer (some ⟨pbl0, 0, none⟩), .slice pA0 a0.length pc0]) Try.func34 rfl rfl ?_
  intro w0 m0 hm0
  refine St.region ?_
  refine St.val (v := (.pointer (some ⟨pbl0, 0, none⟩))) (Yields.move rfl) trivial rfl rfl ?_
  refine St.val (v := (.pointer (some ⟨pbl0, 0, none⟩))) (Yields.move rfl) trivial rfl rfl ?_
  refine St.val (v := (.pointer (some ⟨pbl0, 0, none⟩))) (Yields.nilCheck rfl) trivial rfl rfl ?_
  refine St.val (v := (.pointer (some ⟨pbl0, 1, none⟩))) (Yields.fieldAddr (v := (.pointer (some ⟨pbl0, 1, none⟩))) rfl (fun _ => by kernel_rfl)) trivial rfl rfl ?_
  refine St.val (v := (.slice pA2 a2.length pc2)) (Yields.load rfl (Loads.H1 0 rfl tc31 rfl)) trivial rfl rfl ?_
  refine St.val (v := (.slice pA0 a0.length pc0)) (Yields.move rfl) trivial rfl rfl ?_
  refine St.buildSlice (e := 27) (cells := #[.slice pA0 a0.length pc0]) (vs := #[(0, .slice pA0 a0.length pc0)]) (fun _ ha => evp1 ha rfl) (fun _ => by kernel_rfl) rfl trivial ?_
  intro b3
  obtain ⟨x8, e9, hm⟩ := bS hm
  refine St.pushL (R := [blk b3 (.cells #[.slice pA0 a0.length pc0] 27 (0, 0)), blk pbl0 (.cells #[.int .i64 a1, .slice pA2 a2.length pc2] 63 (0, 0))]) (R3 := [blk pbl0 (.cells #[.int .i64 a1, .slice pA2 a2.length pc2] 63 (0, 0))]) e9 ts31 rfl rfl rfl rfl rfl 2 rfl rfl 0 rfl 0 rfl rfl ph2 ⟨[.slice pA0 a0.length pc0], _, rfl, ⟨_, _, rfl, ph0⟩, rfl⟩ rfl trivial ?_
  intro A4 c5 cells6 h7
  refine St.val (v := (.pointer (some ⟨pbl0, 0, none⟩))) (Yields.nilCheck rfl) trivial rfl rfl ?_
  refine St.val (v := (.pointer (some ⟨pbl0, 1, none⟩))) (Yields.fieldAddr (v := (.pointer (some ⟨pbl0, 1, none⟩))) rfl (fun _ => by kernel_rfl)) trivial rfl rfl ?_
  refine St.store (R := [rowo A4 x8.length c5 27 1 cells6]) rfl rfl 1 rfl rfl tc31 rfl rfl trivial (cs' := #[.int .i64 a1, .slice A4 x8.length c5]) rfl ?_
  refine St.nil ?_
  obtain rfl := sI hm
  exact St.endR0 rfl ⟨A4, c5, cells6, rfl, h7, (Bnd.of_push e9), rfl⟩ (fun w hs => Among.of (Among.take 0 rfl rfl (Among.take 0 rfl rfl Among.none)) w hs)

theorem m_ref13_places_sp {F : PH} {g : Nat} {a0 : DSTree} {a1 : Int} {pA0_0 : Option Addr} {pc0_0 : Nat} (ph0_0 : Fsl 32 KDSTree F pA0_0 pc0_0 a0.Kids) {r : List (List Int)} (hm : m_ref13_places g a0 a1 = some r) :
    CallSp Try.prog 20 #[.agg #[.int .i64 a0.N, .slice pA0_0 a0.Kids.length pc0_0], .int .i64 a1] F [] (fun u F' H' => ∃ (B0 : Option Addr) (d0 : Nat), u = (.slice B0 r.length d0) ∧ Fsl 24 (Kind.sl 8 (Kind.int .i64)) F' B0 d0 r ∧ H' = []) := by
  unfold m_ref13_places at hm
  refine CallSp.enter (args := [.agg #[.int .i64 a0.N, .slice pA0_0 a0.Kids.length pc0_0], .int .i64 a1]) Try.func20 rfl rfl ?_
  intro w0 m0 hm0
  refine St.seq ?_
  refine St.region ?_
  refine St.box rfl trivial rfl ?_
  intro b2
  refine St.val (v := (.slice none 0 0)) (Yields.assign rfl) trivial rfl rfl ?_
  refine St.nil ?_
  refine St.norm ?_
  refine St.seq ?_
  refine St.region ?_
  refine St.val (v := (.int .i64 a1)) (Yields.move rfl) trivial rfl rfl ?_
  refine St.buildSlice (e := 27) (cells := #[.slice none 0 0]) (vs := #[(0, .slice none 0 0)]) (fun a _ => by simp only [List.map_toArray, List.map_cons, List.map_nil, Act.eval] <;> rfl) (fun _ => by kernel_rfl) rfl trivial ?_
  intro b3
  refine St.weak (R := [blk b2 (.cells #[.int .i64 a0.N, .slice pA0_0 a0.Kids.length pc0_0] 24 (0, 0))]) (c' := rowo (some ⟨b3, 0, none⟩) ([[]] : List (List Int)).length 1 27 1 [.slice none 0 0]) 0 rfl rfl (fun m hm => rowo_of_row (row_of_blk (k := 1) rfl (by decide) hm)) ?_
  refine St.val (v := (.agg #[.int .i64 a1, .slice (some ⟨b3, 0, none⟩) ([[]] : List (List Int)).length 1])) (Yields.build (v := (.agg #[.int .i64 a1, .slice (some ⟨b3, 0, none⟩) ([[]] : List (List Int)).length 1])) (vs := #[(0, .int .i64 a1), (1, .slice (some ⟨b3, 0, none⟩) ([[]] : List (List Int)).length 1)]) (fun _ ha => evp2 ha rfl rfl) (fun _ => by kernel_rfl)) trivial rfl rfl ?_
  refine St.alloc tz63 trivial rfl ?_
  intro b5
  refine St.storen (R := [rowo (some ⟨b3, 0, none⟩) ([[]] : List (List Int)).length 1 27 1 [.slice none 0 0], blk b2 (.cells #[.int .i64 a0.N, .slice pA0_0 a0.Kids.length pc0_0] 24 (0, 0))]) rfl rfl 0 rfl rfl ta63 rfl rfl rfl trivial (cs' := #[.int .i64 a1, .slice (some ⟨b3, 0, none⟩) ([[]] : List (List Int)).length 1]) rfl ?_
  refine St.nil ?_
  refine St.norm ?_
  refine St.seq ?_
  refine St.region ?_
  refine St.val (v := (.slice none 0 0)) (Yields.assign rfl) trivial rfl rfl ?_
  refine St.nil ?_
  refine St.norm ?_
  obtain ⟨z6, hm, hk15⟩ := bS hm
  refine St.cutI (fun a w => ∃ (A10 : Option Addr) (c11 : Nat) (cells13 : List Value) (F7 : PH), PH.le F F7 ∧ Cat (Kind.sl 8 (Kind.int .i64)) F7 cells13 z6 ∧ Bnd 24 z6 ∧ Has Try.f20.ntmps a [(6, .slice A10 z6.length c11)] ∧ Sat ⟨w0, fun b => m0 b ≠ none, F⟩ F7 [rowo A10 z6.length c11 27 1 cells13] w) ?_ ?_
  · skip
    refine St.block ?_
    refine St.loopM hm (fun s31 a w => ∃ (A36 : Option Addr) (c37 : Nat) (cells39 : List Value) (A42 : Option Addr) (c43 : Nat) (cells45 : List Value) (F47 : PH), PH.le F F47 ∧ Cat (Kind.sl 8 (Kind.int .i64)) F47 cells39 s31.1 ∧ Bnd 24 s31.1 ∧ Cat (Kind.sl 8 (Kind.int .i64)) F47 cells45 s31.2 ∧ Bnd 24 s31.2 ∧ Has Try.f20.ntmps a [(1, .int .i64 a1), (2, .pointer (some ⟨b2, 0, none⟩)), (5, .pointer (some ⟨b5, 0, none⟩)), (6, .slice A42 s31.2.length c43)] ∧ Sat ⟨w0, fun b => m0 b ≠ none, F⟩ F47 [blk b2 (.cells #[.int .i64 a0.N, .slice pA0_0 a0.Kids.length pc0_0] 24 (0, 0)), blk b5 (.cells #[.int .i64 a1, .slice A36 s31.1.length c37] 63 (0, 0)), rowo A36 s31.1.length c37 27 1 cells39, rowo A42 s31.2.length c43 27 1 cells45] w) ?_ ?_
    · skip
      refine St.rowo_new 27 1 ?_
      intro a w ha hs
      exact ⟨(some ⟨b3, 0, none⟩), 1, [.slice none 0 0], none, 0, [], F, (PH.le_refl _), (show Cat (Kind.sl 8 (Kind.int .i64)) F [.slice none 0 0] ([[]] : List (List Int)) from ⟨[.slice none 0 0], _, rfl, ⟨_, _, rfl, Fsl.nil⟩, rfl⟩), (show Bnd 24 ([[]] : List (List Int)) from ⟨by simp, by simp⟩), (show Cat (Kind.sl 8 (Kind.int .i64)) _ [] [] from rfl), Bnd.of_nil, ha.covers ⟨rfl, rfl, rfl, rfl, trivial⟩, (Among.of (Among.take 3 rfl rfl (Among.take 1 rfl rfl (Among.take 1 rfl rfl (Among.take 0 rfl rfl Among.none)))) _ hs)⟩
    · rintro s31 o32 co33 hm ho34 a w ⟨A36, c37, cells39, A42, c43, cells45, F47, l48, h38, b40, h44, b46, ha, hs⟩
      refine St.use (?_ : St _ _ _ _ _ _) ha hs
      clear ha hs a w
      refine St.seq ?_
      refine St.seq ?_
      refine St.region ?_
      refine St.val (v := (.pointer (some ⟨b5, 1, none⟩))) (Yields.fieldAddr (v := (.pointer (some ⟨b5, 1, none⟩))) rfl (fun _ => by kernel_rfl)) trivial rfl rfl ?_
      refine St.val (v := (.slice A36 s31.1.length c37)) (Yields.load rfl (Loads.H1 1 rfl tc31 rfl)) trivial rfl rfl ?_
      refine St.val (v := (.int .i64 ((s31.1.length : Nat) : Int))) (Yields.lenSlice tu31 rfl) trivial rfl rfl ?_
      refine St.val (v := (.bool (decide (((s31.1.length : Nat) : Int) > 0)))) (Yields.gt rfl rfl) trivial rfl rfl ?_
      refine St.nil ?_
      refine St.norm ?_
      refine St.cond_b rfl ?_ ?_
      · intro q50
        replace q50 : ((s31.1.length : Nat) : Int) > 0 := of_decide_eq_true q50
        replace hm := iT hm q50
        refine St.skip ?_
        refine St.norm ?_
        refine St.block ?_
        refine St.seq ?_
        refine St.region ?_
        refine St.pick (R := [blk b2 (.cells #[.int .i64 a0.N, .slice pA0_0 a0.Kids.length pc0_0] 24 (0, 0)), blk b5 (.cells #[.int .i64 a1, .slice A36 s31.1.length c37] 63 (0, 0)), rowo A42 s31.2.length c43 27 1 cells45]) 2 rfl rfl ?_
        refine St.pick (R := [rowo A36 s31.1.length c37 27 1 cells39, blk b2 (.cells #[.int .i64 a0.N, .slice pA0_0 a0.Kids.length pc0_0] 24 (0, 0)), rowo A42 s31.2.length c43 27 1 cells45]) 2 rfl rfl ?_
        obtain ⟨q51, e52, hm⟩ := bS hm
        refine St.call [blk b2 (.cells #[.int .i64 a0.N, .slice pA0_0 a0.Kids.length pc0_0] 24 (0, 0)), rowo A42 s31.2.length c43 27 1 cells45] (m_ref13_Waiting_Take_sp h38 b40 e52) rfl (fun _ ha => ev1 ha rfl) rfl en33 rfl rfl trivial ?_
        rintro _ F53 _ ⟨A55, c56, A59, c60, cells63, rfl, h57, h61, b64, rfl⟩ l54
        refine St.val (v := (.slice A55 q51.1.length c56)) (Yields.assign rfl) trivial rfl rfl ?_
        refine St.nil ?_
        refine St.norm ?_
        refine St.block ?_
        refine St.loopM hm (fun s78 a w => ∃ (A83 : Option Addr) (c84 : Nat) (cells86 : List Value) (A89 : Option Addr) (c90 : Nat) (F92 : PH), PH.le F53 F92 ∧ Cat (Kind.sl 8 (Kind.int .i64)) F92 cells86 s78.1 ∧ Bnd 24 s78.1 ∧ Fsl 8 (Kind.int .i64) F92 A89 c90 s78.2 ∧ Has Try.f20.ntmps a [(1, .int .i64 a1), (2, .pointer (some ⟨b2, 0, none⟩)), (5, .pointer (some ⟨b5, 0, none⟩)), (6, .slice A42 s31.2.length c43), (7, .slice A89 s78.2.length c90)] ∧ Sat ⟨w0, fun b => m0 b ≠ none, F⟩ F92 [blk b2 (.cells #[.int .i64 a0.N, .slice pA0_0 a0.Kids.length pc0_0] 24 (0, 0)), blk b5 (.cells #[.int .i64 a1, .slice A83 s78.1.length c84] 63 (0, 0)), rowo A42 s31.2.length c43 27 1 cells45, rowo A83 s78.1.length c84 27 1 cells86] w) ?_ ?_
        · skip
          intro a w ha hs
          exact ⟨A59, c60, cells63, A55, c56, F53, (PH.le_refl _), h61, b64, h57, ha.covers ⟨rfl, rfl, rfl, rfl, rfl, trivial⟩, (Among.of (Among.take 2 rfl rfl (Among.take 0 rfl rfl (Among.take 1 rfl rfl (Among.take 0 rfl rfl Among.none)))) _ hs)⟩
        · rintro s78 o79 co80 hm ho81 a w ⟨A83, c84, cells86, A89, c90, F92, l93, h85, b87, h91, ha, hs⟩
          refine St.use (?_ : St _ _ _ _ _ _) ha hs
          clear ha hs a w
          refine St.block ?_
          refine St.seq ?_
          refine St.region ?_
          refine St.val (v := (.agg #[.int .i64 a0.N, .slice pA0_0 a0.Kids.length pc0_0])) (Yields.load rfl (Loads.Hk (vs := [.int .i64 a0.N, .slice pA0_0 a0.Kids.length pc0_0]) 0 rfl ta24 rfl rfl)) trivial rfl rfl ?_
          refine St.val (v := (.slice A89 s78.2.length c90)) (Yields.move rfl) trivial rfl rfl ?_
          obtain ⟨q94, e95, hm⟩ := bS hm
          refine St.call [blk b2 (.cells #[.int .i64 a0.N, .slice pA0_0 a0.Kids.length pc0_0] 24 (0, 0)), blk b5 (.cells #[.int .i64 a1, .slice A83 s78.1.length c84] 63 (0, 0)), rowo A42 s31.2.length c43 27 1 cells45, rowo A83 s78.1.length c84 27 1 cells86] (m_ref13_at_sp (a0 := a0) (Fsl.mono (PH.le_trans l48 (PH.le_trans l54 l93)) ph0_0) h91 e95) rfl (fun _ ha => ev2 ha rfl rfl) rfl en21 rfl rfl trivial ?_
          rintro _ F96 _ ⟨A98, c99, rfl, h100, rfl⟩ l97
          refine St.alloc tz24 trivial rfl ?_
          intro b102
          refine St.storen (R := [blk b2 (.cells #[.int .i64 a0.N, .slice pA0_0 a0.Kids.length pc0_0] 24 (0, 0)), blk b5 (.cells #[.int .i64 a1, .slice A83 s78.1.length c84] 63 (0, 0)), rowo A42 s31.2.length c43 27 1 cells45, rowo A83 s78.1.length c84 27 1 cells86]) rfl rfl 0 rfl rfl ta24 rfl rfl rfl trivial (cs' := #[.int .i64 q94.N, .slice A98 q94.Kids.length c99]) rfl ?_
          refine St.nil ?_
          refine St.norm ?_
          refine St.seq ?_
          refine St.region ?_
          refine St.val (v := (.pointer (some ⟨b102, 1, none⟩))) (Yields.fieldAddr (v := (.pointer (some ⟨b102, 1, none⟩))) rfl (fun _ => by kernel_rfl)) trivial rfl rfl ?_
          refine St.val (v := (.slice A98 q94.Kids.length c99)) (Yields.load rfl (Loads.H1 0 rfl tc22 rfl)) trivial rfl rfl ?_
          refine St.val (v := (.int .i64 ((q94.Kids.length : Nat) : Int))) (Yields.lenSlice tu22 rfl) trivial rfl rfl ?_
          refine St.val (v := (.int .i64 ((q94.Kids.length : Nat) : Int))) (Yields.assign rfl) trivial rfl rfl ?_
          refine St.nil ?_
          refine St.norm ?_
          refine St.seq ?_
          refine St.seq ?_
          refine St.region ?_
          refine St.val (v := (.int .i64 ((q94.Kids.length : Nat) : Int))) (Yields.move rfl) trivial rfl rfl ?_
          refine St.val (v := (.bool (decide (((q94.Kids.length : Nat) : Int) = 0)))) (Yields.eq rfl rfl) trivial rfl rfl ?_
          refine St.nil ?_
          refine St.norm ?_
          refine St.cond_b rfl ?_ ?_
          · intro q103
            replace q103 : ((q94.Kids.length : Nat) : Int) = 0 := of_decide_eq_true q103
            replace hm := iT hm q103
            refine St.seq ?_
            refine St.region ?_
            refine St.val (v := (.slice A42 s31.2.length c43)) (Yields.move rfl) trivial rfl rfl ?_
            refine St.val (v := (.slice A89 s78.2.length c90)) (Yields.move rfl) trivial rfl rfl ?_
            refine St.buildSlice (e := 27) (cells := #[.slice A89 s78.2.length c90]) (vs := #[(0, .slice A89 s78.2.length c90)]) (fun _ ha => evp1 ha rfl) (fun _ => by kernel_rfl) rfl trivial ?_
            intro b104
            obtain ⟨x109, e110, hm⟩ := bS hm
            refine St.pushL (R := [blk b104 (.cells #[.slice A89 s78.2.length c90] 27 (0, 0)), blk b102 (.cells #[.int .i64 q94.N, .slice A98 q94.Kids.length c99] 24 (0, 0)), blk b2 (.cells #[.int .i64 a0.N, .slice pA0_0 a0.Kids.length pc0_0] 24 (0, 0)), blk b5 (.cells #[.int .i64 a1, .slice A83 s78.1.length c84] 63 (0, 0)), rowo A83 s78.1.length c84 27 1 cells86]) (R3 := [blk b102 (.cells #[.int .i64 q94.N, .slice A98 q94.Kids.length c99] 24 (0, 0)), blk b2 (.cells #[.int .i64 a0.N, .slice pA0_0 a0.Kids.length pc0_0] 24 (0, 0)), blk b5 (.cells #[.int .i64 a1, .slice A83 s78.1.length c84] 63 (0, 0)), rowo A83 s78.1.length c84 27 1 cells86]) e110 ts31 rfl rfl rfl rfl rfl 4 rfl rfl 0 rfl 0 rfl rfl (Cat.mono (PH.le_trans l54 (PH.le_trans l93 l97)) h44) ⟨[.slice A89 s78.2.length c90], _, rfl, ⟨_, _, rfl, (Fsl.mono l97 h91)⟩, rfl⟩ rfl trivial ?_
            intro A105 c106 cells107 h108
            refine St.val (v := (.slice A105 x109.length c106)) (Yields.assign rfl) trivial rfl rfl ?_
            refine St.nil ?_
            refine St.norm ?_
            refine St.exit ?_
            refine St.thenexit ?_
            refine St.inpass rfl ?_
            refine St.thenexit ?_
            refine St.inexit ?_
            refine St.innorm ?_
            refine St.norm ?_
            obtain rfl := sI hm
            obtain rfl := aR ho81
            intro a w ha hs
            exact ⟨(s78.1, x109), aL ho34, A83, c84, cells86, A105, c106, cells107, F96, (PH.le_trans l48 (PH.le_trans l54 (PH.le_trans l93 l97))), (Cat.mono l97 h85), b87, h108, (Bnd.of_push e110), ha.covers ⟨rfl, rfl, rfl, rfl, trivial⟩, (Among.of (Among.take 2 rfl rfl (Among.take 2 rfl rfl (Among.take 2 rfl rfl (Among.take 0 rfl rfl Among.none)))) _ hs)⟩
          · intro q112
            replace q112 : ¬ (((q94.Kids.length : Nat) : Int) = 0) := of_decide_eq_false q112
            replace hm := iF hm q112
            refine St.skip ?_
            refine St.norm ?_
            refine St.seq ?_
            refine St.region ?_
            refine St.val (v := (.int .i64 0)) (Yields.assign rfl) trivial rfl rfl ?_
            refine St.nil ?_
            refine St.norm ?_
            obtain ⟨z113, hm, hk114⟩ := bS hm
            refine St.cutI (fun a w => Has Try.f20.ntmps a [(1, .int .i64 a1), (2, .pointer (some ⟨b2, 0, none⟩)), (5, .pointer (some ⟨b5, 0, none⟩)), (6, .slice A42 s31.2.length c43), (7, .slice A89 s78.2.length c90), (9, .int .i64 ((q94.Kids.length : Nat) : Int)), (10, .int .i64 ((z113 : Nat) : Int))] ∧ Sat ⟨w0, fun b => m0 b ≠ none, F⟩ F96 [blk b2 (.cells #[.int .i64 a0.N, .slice pA0_0 a0.Kids.length pc0_0] 24 (0, 0)), blk b5 (.cells #[.int .i64 a1, .slice A83 s78.1.length c84] 63 (0, 0)), rowo A42 s31.2.length c43 27 1 cells45, rowo A83 s78.1.length c84 27 1 cells86] w) ?_ ?_
            · skip
              refine St.seq ?_
              refine St.region ?_
              refine St.val (v := (.int .i64 a1)) (Yields.move rfl) trivial rfl rfl ?_
              refine St.val (v := (.bool (decide (a1 = 4)))) (Yields.eq rfl rfl) trivial rfl rfl ?_
              refine St.nil ?_
              refine St.norm ?_
              refine St.cond_b rfl ?_ ?_
              · intro q115
                replace q115 : a1 = 4 := of_decide_eq_true q115
                replace hm := iT hm q115
                refine St.region ?_
                refine St.val (v := (.int .i64 1)) (Yields.assign rfl) trivial rfl rfl ?_
                refine St.nil ?_
                obtain rfl := sI hm
                intro a w ha hs
                exact ⟨ha.covers ⟨rfl, rfl, rfl, rfl, rfl, rfl, rfl, trivial⟩, (Among.of (Among.take 1 rfl rfl (Among.take 1 rfl rfl (Among.take 1 rfl rfl (Among.take 1 rfl rfl Among.none)))) _ hs)⟩
              · intro q116
                replace q116 : ¬ (a1 = 4) := of_decide_eq_false q116
                replace hm := iF hm q116
                refine St.skip ?_
                obtain rfl := sI hm
                intro a w ha hs
                exact ⟨ha.covers ⟨rfl, rfl, rfl, rfl, rfl, rfl, rfl, trivial⟩, (Among.of (Among.take 1 rfl rfl (Among.take 1 rfl rfl (Among.take 1 rfl rfl (Among.take 1 rfl rfl Among.none)))) _ hs)⟩
            · rintro a w ⟨ha, hs⟩
              replace hm := hk114
              refine St.use (?_ : St _ _ _ _ _ _) ha hs
              clear ha hs a w
              obtain ⟨z117, hm, hk126⟩ := bS hm
              refine St.cutI (fun a w => ∃ (A121 : Option Addr) (c122 : Nat) (cells124 : List Value) (F118 : PH), PH.le F96 F118 ∧ Cat (Kind.sl 8 (Kind.int .i64)) F118 cells124 z117 ∧ Bnd 24 z117 ∧ Has Try.f20.ntmps a [(1, .int .i64 a1), (2, .pointer (some ⟨b2, 0, none⟩)), (5, .pointer (some ⟨b5, 0, none⟩)), (6, .slice A42 s31.2.length c43), (7, .slice A89 s78.2.length c90)] ∧ Sat ⟨w0, fun b => m0 b ≠ none, F⟩ F118 [blk b2 (.cells #[.int .i64 a0.N, .slice pA0_0 a0.Kids.length pc0_0] 24 (0, 0)), blk b5 (.cells #[.int .i64 a1, .slice A121 z117.length c122] 63 (0, 0)), rowo A121 z117.length c122 27 1 cells124, rowo A42 s31.2.length c43 27 1 cells45] w) ?_ ?_
              · skip
                refine St.seq ?_
                refine St.region ?_
                refine St.val (v := (.int .i64 ((z113 : Nat) : Int))) (Yields.move rfl) trivial rfl rfl ?_
                refine St.val (v := (.int .i64 ((z113 : Nat) : Int))) (Yields.assign rfl) trivial rfl rfl ?_
                refine St.nil ?_
                refine St.norm ?_
                refine St.block ?_
                refine St.loopM hm (fun s136 a w => ∃ (A141 : Option Addr) (c142 : Nat) (cells144 : List Value) (F146 : PH), PH.le F96 F146 ∧ Cat (Kind.sl 8 (Kind.int .i64)) F146 cells144 s136.1 ∧ Bnd 24 s136.1 ∧ Has Try.f20.ntmps a [(1, .int .i64 a1), (2, .pointer (some ⟨b2, 0, none⟩)), (5, .pointer (some ⟨b5, 0, none⟩)), (6, .slice A42 s31.2.length c43), (7, .slice A89 s78.2.length c90), (9, .int .i64 ((q94.Kids.length : Nat) : Int)), (11, .int .i64 ((s136.2 : Nat) : Int))] ∧ Sat ⟨w0, fun b => m0 b ≠ none, F⟩ F146 [blk b2 (.cells #[.int .i64 a0.N, .slice pA0_0 a0.Kids.length pc0_0] 24 (0, 0)), blk b5 (.cells #[.int .i64 a1, .slice A141 s136.1.length c142] 63 (0, 0)), rowo A141 s136.1.length c142 27 1 cells144, rowo A42 s31.2.length c43 27 1 cells45] w) ?_ ?_
                · skip
                  intro a w ha hs
                  exact ⟨A83, c84, cells86, F96, (PH.le_refl _), (Cat.mono l97 h85), b87, ha.covers ⟨rfl, rfl, rfl, rfl, rfl, rfl, rfl, trivial⟩, (Among.of (Among.take 0 rfl rfl (Among.take 0 rfl rfl (Among.take 1 rfl rfl (Among.take 0 rfl rfl Among.none)))) _ hs)⟩
                · rintro s136 o137 co138 hm ho139 a w ⟨A141, c142, cells144, F146, l147, h143, b145, ha, hs⟩
                  refine St.use (?_ : St _ _ _ _ _ _) ha hs
                  clear ha hs a w
                  refine St.seq ?_
                  refine St.seq ?_
                  refine St.region ?_
                  refine St.val (v := (.int .i64 ((s136.2 : Nat) : Int))) (Yields.move rfl) trivial rfl rfl ?_
                  refine St.val (v := (.int .i64 ((q94.Kids.length : Nat) : Int))) (Yields.move rfl) trivial rfl rfl ?_
                  refine St.val (v := (.bool (decide (((s136.2 : Nat) : Int) < ((q94.Kids.length : Nat) : Int))))) (Yields.lt rfl rfl) trivial rfl rfl ?_
                  refine St.nil ?_
                  refine St.norm ?_
                  refine St.cond_b rfl ?_ ?_
                  · intro q148
                    replace q148 : ((s136.2 : Nat) : Int) < ((q94.Kids.length : Nat) : Int) := of_decide_eq_true q148
                    replace hm := iT hm q148
                    refine St.skip ?_
                    refine St.norm ?_
                    refine St.seq ?_
                    refine St.block ?_
                    refine St.region ?_
                    refine St.val (v := (.slice A89 s78.2.length c90)) (Yields.move rfl) trivial rfl rfl ?_
                    refine St.val (v := (.int .i64 ((s136.2 : Nat) : Int))) (Yields.move rfl) trivial rfl rfl ?_
                    obtain ⟨q149, e150, hm⟩ := bS hm
                    refine St.call [blk b2 (.cells #[.int .i64 a0.N, .slice pA0_0 a0.Kids.length pc0_0] 24 (0, 0)), blk b5 (.cells #[.int .i64 a1, .slice A141 s136.1.length c142] 63 (0, 0)), rowo A141 s136.1.length c142 27 1 cells144, rowo A42 s31.2.length c43 27 1 cells45] (m_ref13_Kid_sp (Fsl.mono (PH.le_trans l97 l147) h91) e150) rfl (fun _ ha => ev2 ha rfl rfl) rfl en35 rfl rfl trivial ?_
                    rintro _ F151 _ ⟨A153, c154, rfl, h155, rfl⟩ l152
                    refine St.pick (R := [blk b2 (.cells #[.int .i64 a0.N, .slice pA0_0 a0.Kids.length pc0_0] 24 (0, 0)), blk b5 (.cells #[.int .i64 a1, .slice A141 s136.1.length c142] 63 (0, 0)), rowo A42 s31.2.length c43 27 1 cells45]) 2 rfl rfl ?_
                    refine St.pick (R := [rowo A141 s136.1.length c142 27 1 cells144, blk b2 (.cells #[.int .i64 a0.N, .slice pA0_0 a0.Kids.length pc0_0] 24 (0, 0)), rowo A42 s31.2.length c43 27 1 cells45]) 2 rfl rfl ?_
                    obtain ⟨q157, e158, hm⟩ := bS hm
                    refine St.call [blk b2 (.cells #[.int .i64 a0.N, .slice pA0_0 a0.Kids.length pc0_0] 24 (0, 0)), rowo A42 s31.2.length c43 27 1 cells45] (m_ref13_Waiting_Put_sp h155 (Cat.mono l152 h143) b145 e158) rfl (fun _ ha => ev2 ha rfl rfl) rfl en34 rfl rfl trivial ?_
                    rintro _ F159 _ ⟨A161, c162, cells165, rfl, h163, b166, rfl⟩ l160
                    refine St.nil ?_
                    refine St.innorm ?_
                    refine St.norm ?_
                    refine St.region ?_
                    refine St.val (v := (.int .i64 ((s136.2 : Nat) : Int))) (Yields.move rfl) trivial rfl rfl ?_
                    refine St.val (v := (.int .i64 ((s136.2 + 1 : Nat) : Int))) (Yields.addn (j := 1) rfl rfl rfl (by have q_0 := q148; have q_1 := h100.bnd.2; omega)) trivial rfl rfl ?_
                    refine St.val (v := (.int .i64 ((s136.2 + 1 : Nat) : Int))) (Yields.assign rfl) trivial rfl rfl ?_
                    refine St.nil ?_
                    refine St.norm ?_
                    obtain rfl := sI hm
                    intro a w ha hs
                    exact ⟨(q157, s136.2 + 1), aL ho139, A161, c162, cells165, F159, (PH.le_trans l147 (PH.le_trans l152 l160)), h163, b166, ha.covers ⟨rfl, rfl, rfl, rfl, rfl, rfl, rfl, trivial⟩, (Among.of (Among.take 2 rfl rfl (Among.take 0 rfl rfl (Among.take 0 rfl rfl (Among.take 0 rfl rfl Among.none)))) _ hs)⟩
                  · intro q167
                    replace q167 : ¬ (((s136.2 : Nat) : Int) < ((q94.Kids.length : Nat) : Int)) := of_decide_eq_false q167
                    replace hm := iF hm q167
                    refine St.exit ?_
                    refine St.thenexit ?_
                    refine St.thenexit ?_
                    refine St.inexit ?_
                    obtain rfl := sI hm
                    obtain rfl := aR ho139
                    intro a w ha hs
                    exact ⟨A141, c142, cells144, F146, l147, h143, b145, ha.covers ⟨rfl, rfl, rfl, rfl, rfl, trivial⟩, (Among.of (Among.take 0 rfl rfl (Among.take 0 rfl rfl (Among.take 0 rfl rfl (Among.take 0 rfl rfl Among.none)))) _ hs)⟩
              · rintro a w ⟨A121, c122, cells124, F118, l119, h123, b125, ha, hs⟩
                replace hm := hk126
                refine St.use (?_ : St _ _ _ _ _ _) ha hs
                clear ha hs a w
                refine St.seq ?_
                refine St.seq ?_
                refine St.region ?_
                refine St.val (v := (.int .i64 a1)) (Yields.move rfl) trivial rfl rfl ?_
                refine St.val (v := (.bool (!decide (a1 = 4)))) (Yields.ne rfl rfl) trivial rfl rfl ?_
                refine St.nil ?_
                refine St.norm ?_
                refine St.cond_b rfl ?_ ?_
                · intro q168
                  replace q168 : ¬ (a1 = 4) := nd_t q168
                  replace hm := iF hm q168
                  refine St.exit ?_
                  refine St.thenexit ?_
                  refine St.inpass rfl ?_
                  refine St.thenexit ?_
                  refine St.inexit ?_
                  refine St.innorm ?_
                  refine St.norm ?_
                  obtain rfl := sI hm
                  obtain rfl := aR ho81
                  intro a w ha hs
                  exact ⟨(z117, s31.2), aL ho34, A121, c122, cells124, A42, c43, cells45, F118, (PH.le_trans l48 (PH.le_trans l54 (PH.le_trans l93 (PH.le_trans l97 l119)))), h123, b125, (Cat.mono (PH.le_trans l54 (PH.le_trans l93 (PH.le_trans l97 l119))) h44), b46, ha.covers ⟨rfl, rfl, rfl, rfl, trivial⟩, (Among.of (Among.take 0 rfl rfl (Among.take 0 rfl rfl (Among.take 0 rfl rfl (Among.take 0 rfl rfl Among.none)))) _ hs)⟩
                · intro q169
                  replace q169 : a1 = 4 := nd_f q169
                  replace hm := iT hm q169
                  refine St.skip ?_
                  refine St.norm ?_
                  refine St.region ?_
                  refine St.val (v := (.slice A89 s78.2.length c90)) (Yields.move rfl) trivial rfl rfl ?_
                  obtain ⟨q170, e171, hm⟩ := bS hm
                  refine St.call [blk b2 (.cells #[.int .i64 a0.N, .slice pA0_0 a0.Kids.length pc0_0] 24 (0, 0)), blk b5 (.cells #[.int .i64 a1, .slice A121 z117.length c122] 63 (0, 0)), rowo A121 z117.length c122 27 1 cells124, rowo A42 s31.2.length c43 27 1 cells45] (m_ref13_Kid_sp (Fsl.mono (PH.le_trans l97 l119) h91) e171) rfl (fun _ ha => ev2 ha rfl rfl) rfl en35 rfl rfl trivial ?_
                  rintro _ F172 _ ⟨A174, c175, rfl, h176, rfl⟩ l173
                  refine St.val (v := (.slice A174 q170.length c175)) (Yields.assign rfl) trivial rfl rfl ?_
                  refine St.nil ?_
                  refine St.innorm ?_
                  refine St.norm ?_
                  obtain rfl := sI hm
                  intro a w ha hs
                  exact ⟨(z117, q170), aL ho81, A121, c122, cells124, A174, c175, F172, (PH.le_trans l93 (PH.le_trans l97 (PH.le_trans l119 l173))), (Cat.mono l173 h123), b125, h176, ha.covers ⟨rfl, rfl, rfl, rfl, rfl, trivial⟩, (Among.of (Among.take 0 rfl rfl (Among.take 0 rfl rfl (Among.take 1 rfl rfl (Among.take 0 rfl rfl Among.none)))) _ hs)⟩
      · intro q178
        replace q178 : ¬ (((s31.1.length : Nat) : Int) > 0) := of_decide_eq_false q178
        replace hm := iF hm q178
        refine St.exit ?_
        refine St.thenexit ?_
        refine St.thenexit ?_
        refine St.inexit ?_
        obtain rfl := sI hm
        obtain rfl := aR ho34
        intro a w ha hs
        exact ⟨A42, c43, cells45, F47, l48, h44, b46, ha.covers ⟨rfl, trivial⟩, (Among.of (Among.take 3 rfl rfl Among.none) _ hs)⟩
  · rintro a w ⟨A10, c11, cells13, F7, l8, h12, b14, ha, hs⟩
    replace hm := hk15
    refine St.use (?_ : St _ _ _ _ _ _) ha hs
    clear ha hs a w
    refine St.seq ?_
    refine St.region ?_
    refine St.val (v := (.slice A10 z6.length c11)) (Yields.move rfl) trivial rfl rfl ?_
    refine St.val (v := (.slice A10 z6.length c11)) (Yields.assign rfl) trivial rfl rfl ?_
    refine St.nil ?_
    refine St.norm ?_
    refine St.ret ?_
    refine St.frz 0 rfl rfl rfl h12 b14 ?_
    intro F179 l180 h181
    obtain rfl := sI hm
    exact St.doneR1 rfl rfl ⟨A10, c11, rfl, h181, rfl⟩ (fun w hs => Among.of Among.none w hs)

theorem m_ref13_Leaves_sp {F : PH} {g : Nat} {a0 : DSTree} {a1 : Int} {a2 : Int} {pA0_0 : Option Addr} {pc0_0 : Nat} (ph0_0 : Fsl 32 KDSTree F pA0_0 pc0_0 a0.Kids) {r : List Int × Bool × Int} (hm : m_ref13_Leaves g a0 a1 a2 = some r) :
    CallSp Try.prog 7 #[.agg #[.int .i64 a0.N, .slice pA0_0 a0.Kids.length pc0_0], .int .i64 a1, .int .i64 a2] F [] (fun u F' H' => ∃ (B0 : Option Addr) (d0 : Nat), u = (.tuple #[.slice B0 r.1.length d0, .bool r.2.1, .int .i64 r.2.2]) ∧ Fsl 8 (Kind.int .i64) F' B0 d0 r.1 ∧ H' = []) := by
  unfold m_ref13_Leaves at hm
  refine CallSp.enter (args := [.agg #[.int .i64 a0.N, .slice pA0_0 a0.Kids.length pc0_0], .int .i64 a1, .int .i64 a2]) Try.func7 rfl rfl ?_
  intro w0 m0 hm0
  refine St.seq ?_
  refine St.region ?_
  refine St.box rfl trivial rfl ?_
  intro b2
  refine St.val (v := (.slice none 0 0)) (Yields.assign rfl) trivial rfl rfl ?_
  refine St.val (v := (.bool false)) (Yields.assign rfl) trivial rfl rfl ?_
  refine St.val (v := (.int .i64 0)) (Yields.assign rfl) trivial rfl rfl ?_
  refine St.nil ?_
  refine St.norm ?_
  refine St.seq ?_
  refine St.seq ?_
  refine St.region ?_
  refine St.val (v := (.agg #[.int .i64 a0.N, .slice pA0_0 a0.Kids.length pc0_0])) (Yields.load rfl (Loads.Hk (vs := [.int .i64 a0.N, .slice pA0_0 a0.Kids.length pc0_0]) 0 rfl ta24 rfl rfl)) trivial rfl rfl ?_
  obtain ⟨q3, e4, hm⟩ := bS hm
  refine St.call [blk b2 (.cells #[.int .i64 a0.N, .slice pA0_0 a0.Kids.length pc0_0] 24 (0, 0))] (m_ref13_Validate_sp (a0 := a0) ph0_0 e4) rfl (fun _ ha => ev1 ha rfl) rfl en11 rfl rfl trivial ?_
  rintro _ F5 _ ⟨rfl, rfl⟩ l6
  refine St.val (v := (.int .i64 q3)) (Yields.assign rfl) trivial rfl rfl ?_
  refine St.nil ?_
  refine St.norm ?_
  refine St.seq ?_
  refine St.region ?_
  refine St.val (v := (.int .i64 q3)) (Yields.move rfl) trivial rfl rfl ?_
  refine St.val (v := (.bool (!decide (q3 = 0)))) (Yields.ne rfl rfl) trivial rfl rfl ?_
  refine St.nil ?_
  refine St.norm ?_
  refine St.cond_b rfl ?_ ?_
  · intro q7
    replace q7 : ¬ (q3 = 0) := nd_t q7
    replace hm := iF hm q7
    refine St.seq ?_
    refine St.region ?_
    refine St.val (v := (.int .i64 q3)) (Yields.move rfl) trivial rfl rfl ?_
    refine St.val (v := (.slice none 0 0)) (Yields.assign rfl) trivial rfl rfl ?_
    refine St.val (v := (.bool false)) (Yields.assign rfl) trivial rfl rfl ?_
    refine St.val (v := (.int .i64 q3)) (Yields.assign rfl) trivial rfl rfl ?_
    refine St.nil ?_
    refine St.norm ?_
    refine St.ret ?_
    refine St.thenret ?_
    obtain rfl := sI hm
    exact St.doneR3 rfl rfl rfl rfl ⟨none, 0, rfl, Fsl.nil, rfl⟩ (fun w hs => Among.of Among.none w hs)
  · intro q8
    replace q8 : q3 = 0 := nd_f q8
    replace hm := iT hm q8
    refine St.skip ?_
    refine St.norm ?_
    refine St.seq ?_
    obtain ⟨z9, hm, hk10⟩ := bS hm
    refine St.cutI (fun a w => Has Try.f7.ntmps a [(1, .int .i64 a1), (2, .int .i64 a2), (3, .pointer (some ⟨b2, 0, none⟩)), (32, .bool z9)] ∧ Sat ⟨w0, fun b => m0 b ≠ none, F⟩ F5 [blk b2 (.cells #[.int .i64 a0.N, .slice pA0_0 a0.Kids.length pc0_0] 24 (0, 0))] w) ?_ ?_
    · skip
      refine St.region ?_
      refine St.val (v := (.int .i64 a1)) (Yields.move rfl) trivial rfl rfl ?_
      by_cases q11 : a1 < 0
      · replace hm := iT hm q11
        refine St.val (v := (.bool true)) (Yields.is q11 (Yields.lt rfl rfl)) trivial rfl rfl ?_
        refine St.val (v := (.bool true)) (Yields.move rfl) trivial rfl rfl ?_
        refine St.unwanted rfl rfl rfl ?_
        refine St.unwanted rfl rfl rfl ?_
        refine St.val (v := (.bool true)) (Yields.pick_t rfl rfl) trivial rfl rfl ?_
        refine St.val (v := (.bool true)) (Yields.move rfl) trivial rfl rfl ?_
        refine St.unwanted rfl rfl rfl ?_
        refine St.unwanted rfl rfl rfl ?_
        refine St.val (v := (.bool true)) (Yields.pick_t rfl rfl) trivial rfl rfl ?_
        refine St.val (v := (.bool true)) (Yields.move rfl) trivial rfl rfl ?_
        refine St.unwanted rfl rfl rfl ?_
        refine St.unwanted rfl rfl rfl ?_
        refine St.val (v := (.bool true)) (Yields.pick_t rfl rfl) trivial rfl rfl ?_
        refine St.nil ?_
        obtain rfl := sI hm
        intro a w ha hs
        exact ⟨ha.covers ⟨rfl, rfl, rfl, rfl, trivial⟩, (Among.of (Among.take 0 rfl rfl Among.none) _ hs)⟩
      · replace hm := iF hm q11
        refine St.val (v := (.bool false)) (Yields.isnt q11 (Yields.lt rfl rfl)) trivial rfl rfl ?_
        refine St.val (v := (.bool false)) (Yields.move rfl) trivial rfl rfl ?_
        refine St.val (v := (.int .i64 a1)) (Yields.move rfl) rfl rfl rfl ?_
        by_cases q12 : a1 > 4
        · replace hm := iT hm q12
          refine St.val (v := (.bool true)) (Yields.is q12 (Yields.gt rfl rfl)) rfl rfl rfl ?_
          refine St.val (v := (.bool true)) (Yields.pick_f rfl rfl) trivial rfl rfl ?_
          refine St.val (v := (.bool true)) (Yields.move rfl) trivial rfl rfl ?_
          refine St.unwanted rfl rfl rfl ?_
          refine St.unwanted rfl rfl rfl ?_
          refine St.val (v := (.bool true)) (Yields.pick_t rfl rfl) trivial rfl rfl ?_
          refine St.val (v := (.bool true)) (Yields.move rfl) trivial rfl rfl ?_
          refine St.unwanted rfl rfl rfl ?_
          refine St.unwanted rfl rfl rfl ?_
          refine St.val (v := (.bool true)) (Yields.pick_t rfl rfl) trivial rfl rfl ?_
          refine St.nil ?_
          obtain rfl := sI hm
          intro a w ha hs
          exact ⟨ha.covers ⟨rfl, rfl, rfl, rfl, trivial⟩, (Among.of (Among.take 0 rfl rfl Among.none) _ hs)⟩
        · replace hm := iF hm q12
          refine St.val (v := (.bool false)) (Yields.isnt q12 (Yields.gt rfl rfl)) rfl rfl rfl ?_
          refine St.val (v := (.bool false)) (Yields.pick_f rfl rfl) trivial rfl rfl ?_
          refine St.val (v := (.bool false)) (Yields.move rfl) trivial rfl rfl ?_
          refine St.val (v := (.int .i64 a2)) (Yields.move rfl) rfl rfl rfl ?_
          by_cases q13 : a2 < 1
          · replace hm := iT hm q13
            refine St.val (v := (.bool true)) (Yields.is q13 (Yields.lt rfl rfl)) rfl rfl rfl ?_
            refine St.val (v := (.bool true)) (Yields.pick_f rfl rfl) trivial rfl rfl ?_
            refine St.val (v := (.bool true)) (Yields.move rfl) trivial rfl rfl ?_
            refine St.unwanted rfl rfl rfl ?_
            refine St.unwanted rfl rfl rfl ?_
            refine St.val (v := (.bool true)) (Yields.pick_t rfl rfl) trivial rfl rfl ?_
            refine St.nil ?_
            obtain rfl := sI hm
            intro a w ha hs
            exact ⟨ha.covers ⟨rfl, rfl, rfl, rfl, trivial⟩, (Among.of (Among.take 0 rfl rfl Among.none) _ hs)⟩
          · replace hm := iF hm q13
            refine St.val (v := (.bool false)) (Yields.isnt q13 (Yields.lt rfl rfl)) rfl rfl rfl ?_
            refine St.val (v := (.bool false)) (Yields.pick_f rfl rfl) trivial rfl rfl ?_
            refine St.val (v := (.bool false)) (Yields.move rfl) trivial rfl rfl ?_
            refine St.val (v := (.int .i64 a2)) (Yields.move rfl) rfl rfl rfl ?_
            refine St.val (v := (.bool (decide (a2 > 400)))) (Yields.gt rfl rfl) rfl rfl rfl ?_
            refine St.val (v := (.bool (decide (a2 > 400)))) (Yields.pick_f rfl rfl) trivial rfl rfl ?_
            refine St.nil ?_
            obtain rfl := sI hm
            intro a w ha hs
            exact ⟨ha.covers ⟨rfl, rfl, rfl, rfl, trivial⟩, (Among.of (Among.take 0 rfl rfl Among.none) _ hs)⟩
    · rintro a w ⟨ha, hs⟩
      replace hm := hk10
      refine St.use (?_ : St _ _ _ _ _ _) ha hs
      clear ha hs a w
      refine St.cond_b rfl ?_ ?_
      · intro q14
        replace q14 : z9 = true := q14
        replace hm := iT hm q14
        refine St.seq ?_
        refine St.region ?_
        refine St.val (v := (.slice none 0 0)) (Yields.assign rfl) trivial rfl rfl ?_
        refine St.val (v := (.bool false)) (Yields.assign rfl) trivial rfl rfl ?_
        refine St.val (v := (.int .i64 1)) (Yields.assign rfl) trivial rfl rfl ?_
        refine St.nil ?_
        refine St.norm ?_
        refine St.ret ?_
        refine St.thenret ?_
        obtain rfl := sI hm
        exact St.doneR3 rfl rfl rfl rfl ⟨none, 0, rfl, Fsl.nil, rfl⟩ (fun w hs => Among.of Among.none w hs)
      · intro q15
        replace q15 : ¬ (z9 = true) := bf q15
        replace hm := iF hm q15
        refine St.skip ?_
        refine St.norm ?_
        refine St.seq ?_
        refine St.region ?_
        refine St.val (v := (.agg #[.int .i64 a0.N, .slice pA0_0 a0.Kids.length pc0_0])) (Yields.load rfl (Loads.Hk (vs := [.int .i64 a0.N, .slice pA0_0 a0.Kids.length pc0_0]) 0 rfl ta24 rfl rfl)) trivial rfl rfl ?_
        refine St.val (v := (.int .i64 a1)) (Yields.move rfl) trivial rfl rfl ?_
        obtain ⟨q16, e17, hm⟩ := bS hm
        refine St.call [blk b2 (.cells #[.int .i64 a0.N, .slice pA0_0 a0.Kids.length pc0_0] 24 (0, 0))] (m_ref13_places_sp (a0 := a0) (Fsl.mono l6 ph0_0) e17) rfl (fun _ ha => ev2 ha rfl rfl) rfl en20 rfl rfl trivial ?_
        rintro _ F18 _ ⟨A20, c21, rfl, h22, rfl⟩ l19
        refine St.val (v := (.slice A20 q16.length c21)) (Yields.assign rfl) trivial rfl rfl ?_
        refine St.nil ?_
        refine St.norm ?_
        refine St.seq ?_
        refine St.region ?_
        refine St.val (v := (.slice none 0 0)) (Yields.assign rfl) trivial rfl rfl ?_
        refine St.nil ?_
        refine St.norm ?_
        obtain ⟨o33, hm, ho34⟩ := jS hm
        refine St.cutI (fun a w => ∃ z24 : List Int, o33 = .inl z24 ∧ ∃ (A28 : Option Addr) (c29 : Nat) (cells31 : List Value) (F25 : PH), PH.le F18 F25 ∧ Cat (Kind.int .i64) F25 cells31 z24 ∧ Bnd 8 z24 ∧ Has Try.f7.ntmps a [(11, .slice A28 z24.length c29)] ∧ Sat ⟨w0, fun b => m0 b ≠ none, F⟩ F25 [rowo A28 z24.length c29 3 1 cells31] w) ?_ ?_
        · skip
          refine St.seq ?_
          refine St.region ?_
          refine St.val (v := (.int .i64 0)) (Yields.assign rfl) trivial rfl rfl ?_
          refine St.nil ?_
          refine St.norm ?_
          refine St.block ?_
          refine St.loopM hm (fun s44 a w => ∃ (A49 : Option Addr) (c50 : Nat) (cells52 : List Value) (F54 : PH), PH.le F18 F54 ∧ Cat (Kind.int .i64) F54 cells52 s44.1 ∧ Bnd 8 s44.1 ∧ Has Try.f7.ntmps a [(2, .int .i64 a2), (3, .pointer (some ⟨b2, 0, none⟩)), (10, .slice A20 q16.length c21), (11, .slice A49 s44.1.length c50), (12, .int .i64 ((s44.2 : Nat) : Int))] ∧ Sat ⟨w0, fun b => m0 b ≠ none, F⟩ F54 [blk b2 (.cells #[.int .i64 a0.N, .slice pA0_0 a0.Kids.length pc0_0] 24 (0, 0)), rowo A49 s44.1.length c50 3 1 cells52] w) ?_ ?_
          · skip
            refine St.rowo_new 3 1 ?_
            intro a w ha hs
            exact ⟨none, 0, [], F18, (PH.le_refl _), (show Cat (Kind.int .i64) _ [] [] from rfl), Bnd.of_nil, ha.covers ⟨rfl, rfl, rfl, rfl, rfl, trivial⟩, (Among.of (Among.take 1 rfl rfl (Among.take 0 rfl rfl Among.none)) _ hs)⟩
          · rintro s44 o45 co46 hm ho47 a w ⟨A49, c50, cells52, F54, l55, h51, b53, ha, hs⟩
            refine St.use (?_ : St _ _ _ _ _ _) ha hs
            clear ha hs a w
            refine St.seq ?_
            refine St.seq ?_
            refine St.region ?_
            refine St.val (v := (.int .i64 ((s44.2 : Nat) : Int))) (Yields.move rfl) trivial rfl rfl ?_
            refine St.val (v := (.slice A20 q16.length c21)) (Yields.move rfl) trivial rfl rfl ?_
            refine St.val (v := (.int .i64 ((q16.length : Nat) : Int))) (Yields.lenSlice tu31 rfl) trivial rfl rfl ?_
            refine St.val (v := (.bool (decide (((s44.2 : Nat) : Int) < ((q16.length : Nat) : Int))))) (Yields.lt rfl rfl) trivial rfl rfl ?_
            refine St.nil ?_
            refine St.norm ?_
            refine St.cond_b rfl ?_ ?_
            · intro q57
              replace q57 : ((s44.2 : Nat) : Int) < ((q16.length : Nat) : Int) := of_decide_eq_true q57
              replace hm := iT hm q57
              refine St.skip ?_
              refine St.norm ?_
              obtain ⟨o67, hm, ho68⟩ := jS hm
              refine St.cutI (fun a w => ∃ z58 : List Int, o67 = .inl z58 ∧ ∃ (A62 : Option Addr) (c63 : Nat) (cells65 : List Value) (F59 : PH), PH.le F54 F59 ∧ Cat (Kind.int .i64) F59 cells65 z58 ∧ Bnd 8 z58 ∧ Has Try.f7.ntmps a [(2, .int .i64 a2), (3, .pointer (some ⟨b2, 0, none⟩)), (10, .slice A20 q16.length c21), (11, .slice A62 z58.length c63), (12, .int .i64 ((s44.2 : Nat) : Int))] ∧ Sat ⟨w0, fun b => m0 b ≠ none, F⟩ F59 [blk b2 (.cells #[.int .i64 a0.N, .slice pA0_0 a0.Kids.length pc0_0] 24 (0, 0)), rowo A62 z58.length c63 3 1 cells65] w) ?_ ?_
              · skip
                refine St.block ?_
                refine St.seq ?_
                refine StD.start [5] [blk b2 (.cells #[.int .i64 a0.N, .slice pA0_0 a0.Kids.length pc0_0] 24 (0, 0)), rowo A49 s44.1.length c50 3 1 cells52] hmix ?_
                refine StD.take [1, 2, 3, 6, 7] (i := 0) (v := (.agg #[.int .i64 a0.N, .slice pA0_0 a0.Kids.length pc0_0])) rfl (Yields.load rfl (Loads.Hk (vs := [.int .i64 a0.N, .slice pA0_0 a0.Kids.length pc0_0]) 0 rfl ta24 rfl rfl)) rfl rfl trivial Among.refl (by rintro _ _ _ ⟨_, _, _, _, h, _⟩; cases h) (by kernel_rfl) (listed' := #[true, false, false, false, false, false, false, false]) rfl ?_
                refine StD.takeP (i := 1) (v := (.slice A20 q16.length c21)) rfl (fun _ => Yields.move rfl) rfl rfl trivial (by rintro _ _ _ ⟨_, _, _, _, h, _⟩; cases h) (by kernel_rfl) (listed' := #[true, true, false, false, false, false, false, false]) rfl ?_
                refine StD.takeP (i := 2) (v := (.int .i64 ((s44.2 : Nat) : Int))) rfl (fun _ => Yields.move rfl) rfl rfl trivial (by rintro _ _ _ ⟨_, _, _, _, h, _⟩; cases h) (by kernel_rfl) (listed' := #[true, true, true, false, false, false, false, false]) rfl ?_
                obtain ⟨x69, e70, hm⟩ := bS hm
                obtain ⟨p71, cs72, jx73, R74, k75⟩ := (Fsl.mono l55 h22).nidx e70
                obtain ⟨A76, c77, rfl, h78⟩ := R74
                refine StD.takeP (i := 3) (v := (.pointer (some p71))) rfl (fun _ => Yields.idx jx73 ts31 rfl rfl) rfl rfl trivial (by rintro _ _ _ ⟨_, _, _, _, h, _⟩; cases h) (by kernel_rfl) (listed' := #[true, true, true, true, false, false, false, false]) rfl ?_
                refine StD.take [1, 2, 3, 6, 7] (i := 4) (v := (.slice A76 x69.length c77)) rfl (Yields.load rfl (Loads.Fat k75 tc27 rfl)) rfl rfl trivial Among.refl (by rintro _ _ _ ⟨_, _, _, _, h, _⟩; cases h) (by kernel_rfl) (listed' := #[true, true, true, true, true, false, false, false]) rfl ?_
                refine StD.only (i := 5) rfl (by kernel_rfl) (listed' := #[true, true, true, true, true, true, false, false]) rfl ?_
                intro hcl80
                obtain ⟨q81, e82, hm⟩ := bS hm
                refine St.call [blk b2 (.cells #[.int .i64 a0.N, .slice pA0_0 a0.Kids.length pc0_0] 24 (0, 0)), rowo A49 s44.1.length c50 3 1 cells52] (m_ref13_at_sp (a0 := a0) (Fsl.mono (PH.le_trans l6 (PH.le_trans l19 l55)) ph0_0) h78 e82) rfl (fun _ ha => ev2 ha rfl rfl) rfl en21 rfl rfl trivial ?_
                rintro _ F83 _ ⟨A85, c86, rfl, h87, rfl⟩ l84
                refine StD.next hcl80 (fun h => by cases h) ?_
                refine StD.takeP (i := 6) (v := (.int .i64 q81.N)) rfl (fun _ => Yields.field (v := (.int .i64 q81.N)) rfl (fun _ => by kernel_rfl)) rfl rfl trivial (by rintro _ _ _ ⟨_, _, _, _, h, _⟩; cases h) (by kernel_rfl) (listed' := #[true, true, true, true, true, true, true, false]) rfl ?_
                refine StD.takeP (i := 7) (v := (.int .i64 q81.N)) rfl (fun _ => Yields.assign rfl) rfl rfl trivial (by rintro _ _ _ ⟨_, _, _, _, h, _⟩; cases h) (by kernel_rfl) (listed' := #[true, true, true, true, true, true, true, true]) rfl ?_
                refine StD.done (by kernel_rfl) ?_
                refine St.norm ?_
                refine St.seq ?_
                refine St.seq ?_
                refine St.region ?_
                refine St.val (v := (.int .i64 q81.N)) (Yields.move rfl) trivial rfl rfl ?_
                refine St.val (v := (.bool (decide (q81.N < 0)))) (Yields.lt rfl rfl) trivial rfl rfl ?_
                refine St.nil ?_
                refine St.norm ?_
                refine St.cond_b rfl ?_ ?_
                · intro q89
                  replace q89 : q81.N < 0 := of_decide_eq_true q89
                  replace hm := iT hm q89
                  refine St.exit ?_
                  refine St.thenexit ?_
                  refine St.inexit ?_
                  obtain rfl := sI hm
                  intro a w ha hs
                  exact ⟨s44.1, rfl, A49, c50, cells52, F83, l84, (Cat.mono l84 h51), b53, ha.covers ⟨rfl, rfl, rfl, rfl, rfl, trivial⟩, (Among.of (Among.take 0 rfl rfl (Among.take 0 rfl rfl Among.none)) _ hs)⟩
                · intro q90
                  replace q90 : ¬ (q81.N < 0) := of_decide_eq_false q90
                  replace hm := iF hm q90
                  refine St.skip ?_
                  refine St.norm ?_
                  refine St.seq ?_
                  refine St.seq ?_
                  refine St.region ?_
                  refine St.val (v := (.slice A49 s44.1.length c50)) (Yields.move rfl) trivial rfl rfl ?_
                  refine St.val (v := (.int .i64 ((s44.1.length : Nat) : Int))) (Yields.lenSlice tu27 rfl) trivial rfl rfl ?_
                  refine St.val (v := (.int .i64 a2)) (Yields.move rfl) trivial rfl rfl ?_
                  refine St.val (v := (.bool (decide (((s44.1.length : Nat) : Int) = a2)))) (Yields.eq rfl rfl) trivial rfl rfl ?_
                  refine St.nil ?_
                  refine St.norm ?_
                  refine St.cond_b rfl ?_ ?_
                  · intro q91
                    replace q91 : ((s44.1.length : Nat) : Int) = a2 := of_decide_eq_true q91
                    replace hm := iT hm q91
                    refine St.seq ?_
                    refine St.region ?_
                    refine St.val (v := (.slice A49 s44.1.length c50)) (Yields.move rfl) trivial rfl rfl ?_
                    refine St.val (v := (.slice A49 s44.1.length c50)) (Yields.assign rfl) trivial rfl rfl ?_
                    refine St.val (v := (.bool true)) (Yields.assign rfl) trivial rfl rfl ?_
                    refine St.val (v := (.int .i64 0)) (Yields.assign rfl) trivial rfl rfl ?_
                    refine St.nil ?_
                    refine St.norm ?_
                    refine St.ret ?_
                    refine St.thenret ?_
                    refine St.inret ?_
                    refine St.thenret ?_
                    refine St.thenret ?_
                    refine St.inret ?_
                    refine St.thenret ?_
                    refine St.frz 1 rfl rfl rfl (Cat.mono l84 h51) b53 ?_
                    intro F92 l93 h94
                    obtain rfl := sI hm
                    obtain rfl := aR ho68
                    obtain rfl := aR ho47
                    obtain rfl := aR ho34
                    exact St.doneR3 rfl rfl rfl rfl ⟨A49, c50, rfl, h94, rfl⟩ (fun w hs => Among.of Among.none w hs)
                  · intro q95
                    replace q95 : ¬ (((s44.1.length : Nat) : Int) = a2) := of_decide_eq_false q95
                    replace hm := iF hm q95
                    refine St.skip ?_
                    refine St.norm ?_
                    refine St.region ?_
                    refine St.val (v := (.slice A49 s44.1.length c50)) (Yields.move rfl) trivial rfl rfl ?_
                    refine St.val (v := (.int .i64 q81.N)) (Yields.move rfl) trivial rfl rfl ?_
                    refine St.buildSlice (e := 3) (cells := #[.int .i64 q81.N]) (vs := #[(0, .int .i64 q81.N)]) (fun _ ha => evp1 ha rfl) (fun _ => by kernel_rfl) rfl trivial ?_
                    intro b96
                    obtain ⟨x101, e102, hm⟩ := bS hm
                    refine St.pushL (R := [blk b96 (.cells #[.int .i64 q81.N] 3 (0, 0)), blk b2 (.cells #[.int .i64 a0.N, .slice pA0_0 a0.Kids.length pc0_0] 24 (0, 0))]) (R3 := [blk b2 (.cells #[.int .i64 a0.N, .slice pA0_0 a0.Kids.length pc0_0] 24 (0, 0))]) e102 ts27 rfl rfl rfl rfl rfl 2 rfl rfl 0 rfl 0 rfl rfl (Cat.mono l84 h51) ⟨[.int .i64 q81.N], _, rfl, rfl, rfl⟩ rfl trivial ?_
                    intro A97 c98 cells99 h100
                    refine St.val (v := (.slice A97 x101.length c98)) (Yields.assign rfl) trivial rfl rfl ?_
                    refine St.nil ?_
                    refine St.innorm ?_
                    obtain rfl := sI hm
                    intro a w ha hs
                    exact ⟨x101, rfl, A97, c98, cells99, F83, l84, h100, (Bnd.of_push e102), ha.covers ⟨rfl, rfl, rfl, rfl, rfl, trivial⟩, (Among.of (Among.take 1 rfl rfl (Among.take 0 rfl rfl Among.none)) _ hs)⟩
              · rintro a w ⟨z58, rfl, A62, c63, cells65, F59, l60, h64, b66, ha, hs⟩
                replace hm := aL ho68
                refine St.use (?_ : St _ _ _ _ _ _) ha hs
                clear ha hs a w
                refine St.region ?_
                refine St.val (v := (.int .i64 ((s44.2 : Nat) : Int))) (Yields.move rfl) trivial rfl rfl ?_
                refine St.val (v := (.int .i64 ((s44.2 + 1 : Nat) : Int))) (Yields.addn (j := 1) rfl rfl rfl (by have q_0 := q57; have q_1 := h22.bnd.2; omega)) trivial rfl rfl ?_
                refine St.val (v := (.int .i64 ((s44.2 + 1 : Nat) : Int))) (Yields.assign rfl) trivial rfl rfl ?_
                refine St.nil ?_
                refine St.norm ?_
                obtain rfl := sI hm
                intro a w ha hs
                exact ⟨(z58, s44.2 + 1), aL ho47, A62, c63, cells65, F59, (PH.le_trans l55 l60), h64, b66, ha.covers ⟨rfl, rfl, rfl, rfl, rfl, trivial⟩, (Among.of (Among.take 0 rfl rfl (Among.take 0 rfl rfl Among.none)) _ hs)⟩
            · intro q104
              replace q104 : ¬ (((s44.2 : Nat) : Int) < ((q16.length : Nat) : Int)) := of_decide_eq_false q104
              replace hm := iF hm q104
              refine St.exit ?_
              refine St.thenexit ?_
              refine St.thenexit ?_
              refine St.inexit ?_
              obtain rfl := sI hm
              obtain rfl := aR ho47
              intro a w ha hs
              exact ⟨s44.1, rfl, A49, c50, cells52, F54, l55, h51, b53, ha.covers ⟨rfl, trivial⟩, (Among.of (Among.take 1 rfl rfl Among.none) _ hs)⟩
        · rintro a w ⟨z24, rfl, A28, c29, cells31, F25, l26, h30, b32, ha, hs⟩
          replace hm := aL ho34
          refine St.use (?_ : St _ _ _ _ _ _) ha hs
          clear ha hs a w
          refine St.seq ?_
          refine St.region ?_
          refine St.val (v := (.slice A28 z24.length c29)) (Yields.move rfl) trivial rfl rfl ?_
          refine St.val (v := (.slice A28 z24.length c29)) (Yields.assign rfl) trivial rfl rfl ?_
          refine St.val (v := (.bool false)) (Yields.assign rfl) trivial rfl rfl ?_
          refine St.val (v := (.int .i64 0)) (Yields.assign rfl) trivial rfl rfl ?_
          refine St.nil ?_
          refine St.norm ?_
          refine St.ret ?_
          refine St.frz 0 rfl rfl rfl h30 b32 ?_
          intro F105 l106 h107
          obtain rfl := sI hm
          exact St.doneR3 rfl rfl rfl rfl ⟨A28, c29, rfl, h107, rfl⟩ (fun w hs => Among.of Among.none w hs)

theorem m_search_Places_f1_sp {F : PH} {g : Nat} {a0 : List Int} {a1 : DSTree} {a2 : List (List Int)} {pbl0 : Nat} {pA0 : Option Addr} {pc0 : Nat} {pA1_0 : Option Addr} {pc1_0 : Nat} {pA2 : Option Addr} {pc2 : Nat} {pcl2 : List Value} (ph0 : Fsl 8 (Kind.int .i64) F pA0 pc0 a0) (ph1_0 : Fsl 32 KDSTree F pA1_0 pc1_0 a1.Kids) (ph2 : Cat (Kind.sl 8 (Kind.int .i64)) F pcl2 a2) (pbd2 : Bnd 24 a2) {r : Int × DSTree × Bool × List (List Int)} (hm : m_search_Places_f1 g a0 a1 a2 = some r) :
    CallSp Try.prog 22 #[.slice pA0 a0.length pc0, .agg #[.int .i64 a1.N, .slice pA1_0 a1.Kids.length pc1_0], .pointer (some ⟨pbl0, 0, none⟩)] F [blk pbl0 (.cells #[.slice pA2 a2.length pc2] 31 (0, 0)), rowo pA2 a2.length pc2 27 1 pcl2] (fun u F' H' => ∃ (B1_0 : Option Addr) (d1_0 : Nat) (G2 : Option Addr) (e2 : Nat) (gl2 : List Value), u = (.tuple #[.int .i64 r.1, .agg #[.int .i64 r.2.1.N, .slice B1_0 r.2.1.Kids.length d1_0], .bool r.2.2.1]) ∧ Fsl 32 KDSTree F' B1_0 d1_0 r.2.1.Kids ∧ Cat (Kind.sl 8 (Kind.int .i64)) F' gl2 r.2.2.2 ∧ Bnd 24 r.2.2.2 ∧ H' = [blk pbl0 (.cells #[.slice G2 r.2.2.2.length e2] 31 (0, 0)), rowo G2 r.2.2.2.length e2 27 1 gl2]) := by
  unfold m_search_Places_f1 at hm
  refine CallSp.enter (args := [.slice pA0 a0.length pc0, .agg #[.int .i64 a1.N, .slice pA1_0 a1.Kids.length pc1_0], .pointer (some ⟨pbl0, 0, none⟩)]) Try.func22 rfl rfl ?_
  intro w0 m0 hm0
  refine St.seq ?_
  refine St.region ?_
  refine St.box rfl trivial rfl ?_
  intro b4
  refine St.val (v := (.int .i64 0)) (Yields.assign rfl) trivial rfl rfl ?_
  refine St.alloc tz24 trivial rfl ?_
  intro b5
  refine St.val (v := (.bool false)) (Yields.assign rfl) trivial rfl rfl ?_
  refine St.nil ?_
  refine St.norm ?_
  obtain ⟨z6, hm, hk15⟩ := bS hm
  refine St.cutI (fun a w => ∃ (A10 : Option Addr) (c11 : Nat) (cells13 : List Value) (F7 : PH), PH.le F F7 ∧ Cat (Kind.sl 8 (Kind.int .i64)) F7 cells13 z6 ∧ Bnd 24 z6 ∧ Has Try.f22.ntmps a [(4, .pointer (some ⟨b4, 0, none⟩)), (6, .pointer (some ⟨b5, 0, none⟩))] ∧ Sat ⟨w0, fun b => m0 b ≠ none, F⟩ F7 [blk pbl0 (.cells #[.slice A10 z6.length c11] 31 (0, 0)), blk b4 (.cells #[.int .i64 a1.N, .slice pA1_0 a1.Kids.length pc1_0] 24 (0, 0)), blk b5 (.cells #[.int .i64 0, .slice none 0 0] 24 (0, 0)), rowo A10 z6.length c11 27 1 cells13] w) ?_ ?_
  · skip
    refine St.seq ?_
    refine St.region ?_
    refine St.val (v := (.pointer (some ⟨b4, 1, none⟩))) (Yields.fieldAddr (v := (.pointer (some ⟨b4, 1, none⟩))) rfl (fun _ => by kernel_rfl)) trivial rfl rfl ?_
    refine St.val (v := (.slice pA1_0 a1.Kids.length pc1_0)) (Yields.load rfl (Loads.H1 1 rfl tc22 rfl)) trivial rfl rfl ?_
    refine St.val (v := (.int .i64 ((a1.Kids.length : Nat) : Int))) (Yields.lenSlice tu22 rfl) trivial rfl rfl ?_
    refine St.val (v := (.bool (decide (((a1.Kids.length : Nat) : Int) = 0)))) (Yields.eq rfl rfl) trivial rfl rfl ?_
    refine St.nil ?_
    refine St.norm ?_
    refine St.cond_b rfl ?_ ?_
    · intro q16
      replace q16 : ((a1.Kids.length : Nat) : Int) = 0 := of_decide_eq_true q16
      replace hm := iT hm q16
      refine StD.start [4, 5] [blk b5 (.cells #[.int .i64 0, .slice none 0 0] 24 (0, 0)), blk b4 (.cells #[.int .i64 a1.N, .slice pA1_0 a1.Kids.length pc1_0] 24 (0, 0)), blk pbl0 (.cells #[.slice pA2 a2.length pc2] 31 (0, 0)), rowo pA2 a2.length pc2 27 1 pcl2] hmix ?_
      refine StD.take [1] (i := 0) (v := (.slice pA2 a2.length pc2)) rfl (Yields.load rfl (Loads.H1 2 rfl tc31 rfl)) rfl rfl trivial Among.refl (by rintro _ _ _ ⟨_, _, _, _, h, _⟩; cases h) (by kernel_rfl) (listed' := #[true, false, false, false, false, false]) rfl ?_
      refine StD.takeP (i := 1) (v := (.slice pA0 a0.length pc0)) rfl (fun _ => Yields.move rfl) rfl rfl trivial (by rintro _ _ _ ⟨_, _, _, _, h, _⟩; cases h) (by kernel_rfl) (listed' := #[true, true, false, false, false, false]) rfl ?_
      refine StD.only (i := 2) rfl (by kernel_rfl) (listed' := #[true, true, true, false, false, false]) rfl ?_
      intro hcl17
      refine St.rowo_new 3 1 ?_
      obtain ⟨x23, e24, hm⟩ := bS hm
      refine St.pushS (R := [blk b5 (.cells #[.int .i64 0, .slice none 0 0] 24 (0, 0)), blk b4 (.cells #[.int .i64 a1.N, .slice pA1_0 a1.Kids.length pc1_0] 24 (0, 0)), blk pbl0 (.cells #[.slice pA2 a2.length pc2] 31 (0, 0)), rowo pA2 a2.length pc2 27 1 pcl2]) e24 ts27 rfl rfl rfl rfl 0 rfl rfl (show Cat (Kind.int .i64) _ [] [] from rfl) ph0 rfl trivial ?_
      intro A19 c20 cells21 h22
      refine StD.next hcl17 (fun _ => (Among.of (Among.take 1 rfl rfl (Among.take 1 rfl rfl (Among.take 1 rfl rfl (Among.take 1 rfl rfl Among.none)))))) ?_
      refine StD.only (i := 3) rfl (by kernel_rfl) (listed' := #[true, true, true, true, false, false]) rfl ?_
      intro hcl26
      refine St.frz 0 rfl rfl rfl h22 (Bnd.of_push e24) ?_
      intro F27 l28 h29
      refine St.buildSlice (e := 27) (cells := #[.slice A19 x23.length c20]) (vs := #[(0, .slice A19 x23.length c20)]) (fun _ ha => evp1 ha rfl) (fun _ => by kernel_rfl) rfl trivial ?_
      intro b30
      refine StD.next hcl26 (fun _ => (Among.of_le l28 (PH.le_refl _) (Among.take 1 rfl rfl (Among.take 1 rfl rfl (Among.take 1 rfl rfl (Among.take 1 rfl rfl Among.none)))))) ?_
      refine StD.only (i := 4) rfl (by kernel_rfl) (listed' := #[true, true, true, true, true, false]) rfl ?_
      intro hcl31
      obtain ⟨x36, e37, hm⟩ := bS hm
      refine St.pushL (R := [blk b30 (.cells #[.slice A19 x23.length c20] 27 (0, 0)), blk b5 (.cells #[.int .i64 0, .slice none 0 0] 24 (0, 0)), blk b4 (.cells #[.int .i64 a1.N, .slice pA1_0 a1.Kids.length pc1_0] 24 (0, 0)), blk pbl0 (.cells #[.slice pA2 a2.length pc2] 31 (0, 0))]) (R3 := [blk b5 (.cells #[.int .i64 0, .slice none 0 0] 24 (0, 0)), blk b4 (.cells #[.int .i64 a1.N, .slice pA1_0 a1.Kids.length pc1_0] 24 (0, 0)), blk pbl0 (.cells #[.slice pA2 a2.length pc2] 31 (0, 0))]) e37 ts31 rfl rfl rfl rfl rfl 4 rfl rfl 0 rfl 0 rfl rfl (Cat.mono l28 ph2) ⟨[.slice A19 x23.length c20], _, rfl, ⟨_, _, rfl, h29⟩, rfl⟩ rfl trivial ?_
      intro A32 c33 cells34 h35
      refine StD.next hcl31 (fun h => by cases h) ?_
      refine StD.only (i := 5) rfl (by kernel_rfl) (listed' := #[true, true, true, true, true, true]) rfl ?_
      intro hcl39
      refine St.store (R := [rowo A32 x36.length c33 27 1 cells34, blk b5 (.cells #[.int .i64 0, .slice none 0 0] 24 (0, 0)), blk b4 (.cells #[.int .i64 a1.N, .slice pA1_0 a1.Kids.length pc1_0] 24 (0, 0))]) rfl rfl 3 rfl rfl tc31 rfl rfl trivial (cs' := #[.slice A32 x36.length c33]) rfl ?_
      refine StD.next hcl39 (fun h => by cases h) ?_
      refine StD.done (by kernel_rfl) ?_
      obtain rfl := sI hm
      intro a w ha hs
      exact ⟨A32, c33, cells34, F27, l28, h35, (Bnd.of_push e37), ha.covers ⟨rfl, rfl, trivial⟩, (Among.of (Among.take 0 rfl rfl (Among.take 2 rfl rfl (Among.take 1 rfl rfl (Among.take 0 rfl rfl Among.none)))) _ hs)⟩
    · intro q40
      replace q40 : ¬ (((a1.Kids.length : Nat) : Int) = 0) := of_decide_eq_false q40
      replace hm := iF hm q40
      refine St.skip ?_
      obtain rfl := sI hm
      intro a w ha hs
      exact ⟨pA2, pc2, pcl2, F, (PH.le_refl _), ph2, pbd2, ha.covers ⟨rfl, rfl, trivial⟩, (Among.of (Among.take 2 rfl rfl (Among.take 1 rfl rfl (Among.take 0 rfl rfl (Among.take 0 rfl rfl Among.none)))) _ hs)⟩
  · rintro a w ⟨A10, c11, cells13, F7, l8, h12, b14, ha, hs⟩
    replace hm := hk15
    refine St.use (?_ : St _ _ _ _ _ _) ha hs
    clear ha hs a w
    refine St.seq ?_
    refine StD.start [5] [blk pbl0 (.cells #[.slice A10 z6.length c11] 31 (0, 0)), blk b4 (.cells #[.int .i64 a1.N, .slice pA1_0 a1.Kids.length pc1_0] 24 (0, 0)), blk b5 (.cells #[.int .i64 0, .slice none 0 0] 24 (0, 0)), rowo A10 z6.length c11 27 1 cells13] hmix ?_
    refine StD.takeP (i := 0) (v := (.pointer (some ⟨b4, 1, none⟩))) rfl (fun _ => Yields.fieldAddr (v := (.pointer (some ⟨b4, 1, none⟩))) rfl (fun _ => by kernel_rfl)) rfl rfl trivial (by rintro _ _ _ ⟨_, _, _, _, h, _⟩; cases h) (by kernel_rfl) (listed' := #[true, false, false, false, false, false, false]) rfl ?_
    refine StD.take [0, 2, 4, 6] (i := 1) (v := (.slice pA1_0 a1.Kids.length pc1_0)) rfl (Yields.load rfl (Loads.H1 1 rfl tc22 rfl)) rfl rfl trivial Among.refl (by rintro _ _ _ ⟨_, _, _, _, h, _⟩; cases h) (by kernel_rfl) (listed' := #[true, true, false, false, false, false, false]) rfl ?_
    refine StD.takeP (i := 2) (v := (.int .i64 ((a1.Kids.length : Nat) : Int))) rfl (fun _ => Yields.lenSlice tu22 rfl) rfl rfl trivial (by rintro _ _ _ ⟨_, _, _, _, h, _⟩; cases h) (by kernel_rfl) (listed' := #[true, true, true, false, false, false, false]) rfl ?_
    refine StD.take [0, 2, 4, 6] (i := 3) (v := (.agg #[.int .i64 a1.N, .slice pA1_0 a1.Kids.length pc1_0])) rfl (Yields.load rfl (Loads.Hk (vs := [.int .i64 a1.N, .slice pA1_0 a1.Kids.length pc1_0]) 1 rfl ta24 rfl rfl)) rfl rfl trivial Among.refl (by rintro _ _ _ ⟨_, _, _, _, h, _⟩; cases h) (by kernel_rfl) (listed' := #[true, true, true, true, false, false, false]) rfl ?_
    refine StD.takeP (i := 4) (v := (.int .i64 ((a1.Kids.length : Nat) : Int))) rfl (fun _ => Yields.assign rfl) rfl rfl trivial (by rintro _ _ _ ⟨_, _, _, _, h, _⟩; cases h) (by kernel_rfl) (listed' := #[true, true, true, true, true, false, false]) rfl ?_
    refine StD.only (i := 5) rfl (by kernel_rfl) (listed' := #[true, true, true, true, true, true, false]) rfl ?_
    intro hcl41
    refine St.storen (R := [blk pbl0 (.cells #[.slice A10 z6.length c11] 31 (0, 0)), blk b4 (.cells #[.int .i64 a1.N, .slice pA1_0 a1.Kids.length pc1_0] 24 (0, 0)), rowo A10 z6.length c11 27 1 cells13]) rfl rfl 2 rfl rfl ta24 rfl rfl rfl trivial (cs' := #[.int .i64 a1.N, .slice pA1_0 a1.Kids.length pc1_0]) rfl ?_
    refine StD.next hcl41 (fun h => by cases h) ?_
    refine StD.takeP (i := 6) (v := (.bool true)) rfl (fun _ => Yields.assign rfl) rfl rfl trivial (by rintro _ _ _ ⟨_, _, _, _, h, _⟩; cases h) (by kernel_rfl) (listed' := #[true, true, true, true, true, true, true]) rfl ?_
    refine StD.done (by kernel_rfl) ?_
    refine St.norm ?_
    refine St.ret ?_
    obtain rfl := sI hm
    exact St.doneR3 rfl rfl (ResOk.cell rfl (Loads.Hk (vs := [.int .i64 a1.N, .slice pA1_0 a1.Kids.length pc1_0]) 0 rfl ta24 rfl rfl)) rfl ⟨pA1_0, pc1_0, A10, c11, cells13, rfl, (Fsl.mono l8 ph1_0), h12, b14, rfl⟩ (fun w hs => Among.of (Among.take 1 rfl rfl (Among.take 2 rfl rfl Among.none)) w hs)

theorem m_api_STree_4_sp {F : PH} {g : Nat} {a0 : DSTree} {a1 : List (List Int)} {pbl0 : Nat} {pA0_0 : Option Addr} {pc0_0 : Nat} {pA1 : Option Addr} {pc1 : Nat} {pcl1 : List Value} (ph0_0 : Fsl 32 KDSTree F pA0_0 pc0_0 a0.Kids) (ph1 : Cat (Kind.sl 8 (Kind.int .i64)) F pcl1 a1) (pbd1 : Bnd 24 a1) {r : Bool × List (List Int)} (hm : m_api_STree_4 g a0 a1 = some r) :
    CallSp Try.prog 28 #[.agg #[.int .i64 a0.N, .slice pA0_0 a0.Kids.length pc0_0], .func (.func 22) #[] #[.pointer (some ⟨pbl0, 0, none⟩)], .func (.func 19) #[] #[]] F [blk pbl0 (.cells #[.slice pA1 a1.length pc1] 31 (0, 0)), rowo pA1 a1.length pc1 27 1 pcl1] (fun u F' H' => ∃ (G1 : Option Addr) (e1 : Nat) (gl1 : List Value), u = (.bool r.1) ∧ Cat (Kind.sl 8 (Kind.int .i64)) F' gl1 r.2 ∧ Bnd 24 r.2 ∧ H' = [blk pbl0 (.cells #[.slice G1 r.2.length e1] 31 (0, 0)), rowo G1 r.2.length e1 27 1 gl1]) := by
  unfold m_api_STree_4 at hm
  refine CallSp.enter (args := [.agg #[.int .i64 a0.N, .slice pA0_0 a0.Kids.length pc0_0], .func (.func 22) #[] #[.pointer (some ⟨pbl0, 0, none⟩)], .func (.func 19) #[] #[]]) Try.func28 rfl rfl ?_
  intro w0 m0 hm0
  refine St.seq ?_
  refine St.region ?_
  refine St.box rfl trivial rfl ?_
  intro b3
  refine St.val (v := (.bool false)) (Yields.assign rfl) trivial rfl rfl ?_
  refine St.nil ?_
  refine St.norm ?_
  refine St.seq ?_
  refine St.region ?_
  refine St.val (v := (.agg #[.int .i64 a0.N, .slice pA0_0 a0.Kids.length pc0_0])) (Yields.load rfl (Loads.Hk (vs := [.int .i64 a0.N, .slice pA0_0 a0.Kids.length pc0_0]) 0 rfl ta24 rfl rfl)) trivial rfl rfl ?_
  refine St.val (v := (.agg #[.slice none 0 0, .int .i64 0, .int .i64 a0.N, .slice pA0_0 a0.Kids.length pc0_0])) (Yields.build (v := (.agg #[.slice none 0 0, .int .i64 0, .int .i64 a0.N, .slice pA0_0 a0.Kids.length pc0_0])) (vs := #[(2, .agg #[.int .i64 a0.N, .slice pA0_0 a0.Kids.length pc0_0])]) (fun _ ha => evp1 ha rfl) (fun _ => by kernel_rfl)) trivial rfl rfl ?_
  refine St.buildSlice (e := 58) (cells := #[.slice none 0 0, .int .i64 0, .int .i64 a0.N, .slice pA0_0 a0.Kids.length pc0_0]) (vs := #[(0, .agg #[.slice none 0 0, .int .i64 0, .int .i64 a0.N, .slice pA0_0 a0.Kids.length pc0_0])]) (fun _ ha => evp1 ha rfl) (fun _ => by kernel_rfl) rfl trivial ?_
  intro b4
  refine St.weak (R := [blk b3 (.cells #[.int .i64 a0.N, .slice pA0_0 a0.Kids.length pc0_0] 24 (0, 0)), blk pbl0 (.cells #[.slice pA1 a1.length pc1] 31 (0, 0)), rowo pA1 a1.length pc1 27 1 pcl1]) (c' := rowo (some ⟨b4, 0, none⟩) ([(DPlace.mk ([] : List Int) 0 a0)] : List DPlace).length 1 58 4 [.slice none 0 0, .int .i64 0, .int .i64 a0.N, .slice pA0_0 a0.Kids.length pc0_0]) 0 rfl rfl (fun m hm => rowo_of_row (row_of_blk (k := 1) rfl (by decide) hm)) ?_
  refine St.val (v := (.slice (some ⟨b4, 0, none⟩) ([(DPlace.mk ([] : List Int) 0 a0)] : List DPlace).length 1)) (Yields.assign rfl) trivial rfl rfl ?_
  refine St.nil ?_
  refine St.norm ?_
  obtain ⟨o15, hm, ho16⟩ := jS hm
  refine St.cutI (fun a w => ∃ z6 : List (List Int), o15 = .inl z6 ∧ ∃ (A10 : Option Addr) (c11 : Nat) (cells13 : List Value) (F7 : PH), PH.le F F7 ∧ Cat (Kind.sl 8 (Kind.int .i64)) F7 cells13 z6 ∧ Bnd 24 z6 ∧ Has Try.f28.ntmps a [] ∧ Sat ⟨w0, fun b => m0 b ≠ none, F⟩ F7 [blk pbl0 (.cells #[.slice A10 z6.length c11] 31 (0, 0)), rowo A10 z6.length c11 27 1 cells13] w) ?_ ?_
  · skip
    refine St.block ?_
    refine St.loopM hm (fun s32 a w => ∃ (A37 : Option Addr) (c38 : Nat) (cells40 : List Value) (A43 : Option Addr) (c44 : Nat) (cells46 : List Value) (F48 : PH), PH.le F F48 ∧ Cat (Kind.sl 8 (Kind.int .i64)) F48 cells40 s32.1 ∧ Bnd 24 s32.1 ∧ Cat KDPlace F48 cells46 s32.2 ∧ Bnd 64 s32.2 ∧ Has Try.f28.ntmps a [(1, .func (.func 22) #[] #[.pointer (some ⟨pbl0, 0, none⟩)]), (2, .func (.func 19) #[] #[]), (7, .slice A43 s32.2.length c44)] ∧ Sat ⟨w0, fun b => m0 b ≠ none, F⟩ F48 [blk pbl0 (.cells #[.slice A37 s32.1.length c38] 31 (0, 0)), rowo A37 s32.1.length c38 27 1 cells40, rowo A43 s32.2.length c44 58 4 cells46] w) ?_ ?_
    · skip
      intro a w ha hs
      exact ⟨pA1, pc1, pcl1, (some ⟨b4, 0, none⟩), 1, [.slice none 0 0, .int .i64 0, .int .i64 a0.N, .slice pA0_0 a0.Kids.length pc0_0], F, (PH.le_refl _), ph1, pbd1, (show Cat KDPlace F [.slice none 0 0, .int .i64 0, .int .i64 a0.N, .slice pA0_0 a0.Kids.length pc0_0] ([(DPlace.mk ([] : List Int) 0 a0)] : List DPlace) from ⟨[.slice none 0 0, .int .i64 0, .int .i64 a0.N, .slice pA0_0 a0.Kids.length pc0_0], _, rfl, (DPlace.shut Fsl.nil ph0_0), rfl⟩), (show Bnd 64 ([(DPlace.mk ([] : List Int) 0 a0)] : List DPlace) from ⟨by simp, by simp⟩), ha.covers ⟨rfl, rfl, rfl, trivial⟩, (Among.of (Among.take 2 rfl rfl (Among.take 2 rfl rfl (Among.take 0 rfl rfl Among.none))) _ hs)⟩
    · rintro s32 o33 co34 hm ho35 a w ⟨A37, c38, cells40, A43, c44, cells46, F48, l49, h39, b41, h45, b47, ha, hs⟩
      refine St.use (?_ : St _ _ _ _ _ _) ha hs
      clear ha hs a w
      refine St.seq ?_
      refine St.seq ?_
      refine St.region ?_
      refine St.val (v := (.slice A43 s32.2.length c44)) (Yields.move rfl) trivial rfl rfl ?_
      refine St.val (v := (.int .i64 ((s32.2.length : Nat) : Int))) (Yields.lenSlice tu53 rfl) trivial rfl rfl ?_
      refine St.val (v := (.bool (decide (((s32.2.length : Nat) : Int) > 0)))) (Yields.gt rfl rfl) trivial rfl rfl ?_
      refine St.nil ?_
      refine St.norm ?_
      refine St.cond_b rfl ?_ ?_
      · intro q50
        replace q50 : ((s32.2.length : Nat) : Int) > 0 := of_decide_eq_true q50
        replace hm := iT hm q50
        refine St.skip ?_
        refine St.norm ?_
        refine St.block ?_
        refine St.seq ?_
        refine St.region ?_
        refine St.val (v := (.slice A43 s32.2.length c44)) (Yields.move rfl) trivial rfl rfl ?_
        obtain ⟨x51, e52, hm⟩ := bS hm
        replace e52 := nlit e52
        obtain ⟨jx53, jx54, cs55, R56, k57⟩ := h45.idx e52
        obtain ⟨A58, c59, A61, c62, rfl, h60, h63⟩ := DPlace.opn R56
        refine St.rowo_at 2 rfl (by omega) ?_
        intro hA66
        refine St.val (v := (.pointer (some ⟨bk A43, bo A43 + (0 : Int).toNat * 4, none⟩))) (Yields.idx (IdxAt.own hA66 jx53 jx54) ts53 rfl rfl) trivial rfl rfl ?_
        refine St.val (v := (.agg #[.slice A58 x51.l.length c59, .int .i64 x51.rank, .int .i64 x51.x.N, .slice A61 x51.x.Kids.length c62])) (Yields.load rfl (Loads.rAn (us := [.slice A58 x51.l.length c59, .int .i64 x51.rank, .int .i64 x51.x.N, .slice A61 x51.x.Kids.length c62]) 2 rfl ta58 (k57))) trivial rfl rfl ?_
        refine St.alloc tz58 trivial rfl ?_
        intro b67
        refine St.storen (R := [blk pbl0 (.cells #[.slice A37 s32.1.length c38] 31 (0, 0)), rowo A37 s32.1.length c38 27 1 cells40, rowo A43 s32.2.length c44 58 4 cells46]) rfl rfl 0 rfl rfl ta58 rfl rfl rfl trivial (cs' := #[.slice A58 x51.l.length c59, .int .i64 x51.rank, .int .i64 x51.x.N, .slice A61 x51.x.Kids.length c62]) rfl ?_
        refine St.nil ?_
        refine St.norm ?_
        refine St.seq ?_
        refine St.region ?_
        refine St.val (v := (.slice A43 s32.2.length c44)) (Yields.move rfl) trivial rfl rfl ?_
        obtain ⟨x68, e69, hm⟩ := bS hm
        refine St.rowo_len 3 rfl ?_
        intro hk70
        obtain ⟨A71, c72, s73, hw74⟩ := subOwn (D := KDPlace) A43 58 hk70 e69
        refine St.val (v := (.slice A71 x68.length c72)) (Yields.subD s73 ts53 rfl rfl) trivial rfl rfl ?_
        refine St.shrink (R := [blk b67 (.cells #[.slice A58 x51.l.length c59, .int .i64 x51.rank, .int .i64 x51.x.N, .slice A61 x51.x.Kids.length c62] 58 (0, 0)), blk pbl0 (.cells #[.slice A37 s32.1.length c38] 31 (0, 0)), rowo A37 s32.1.length c38 27 1 cells40]) 3 rfl rfl h45 hw74 ?_
        intro cells76 h77
        refine St.val (v := (.slice A71 x68.length c72)) (Yields.assign rfl) trivial rfl rfl ?_
        refine St.nil ?_
        refine St.norm ?_
        refine St.block ?_
        refine St.loopM hm (fun s105 a w => ∃ (A110 : Option Addr) (c111 : Nat) (cells113 : List Value) (A116 : Option Addr) (c117 : Nat) (cells119 : List Value) (A122 : Option Addr) (c123 : Nat) (A126 : Option Addr) (c127 : Nat) (F129 : PH), PH.le F48 F129 ∧ Cat (Kind.sl 8 (Kind.int .i64)) F129 cells113 s105.1 ∧ Bnd 24 s105.1 ∧ Cat KDPlace F129 cells119 s105.2.1 ∧ Bnd 64 s105.2.1 ∧ Fsl 8 (Kind.int .i64) F129 A122 c123 s105.2.2.1 ∧ Fsl 32 KDSTree F129 A126 c127 s105.2.2.2.2.2 ∧ Has Try.f28.ntmps a [(1, .func (.func 22) #[] #[.pointer (some ⟨pbl0, 0, none⟩)]), (2, .func (.func 19) #[] #[]), (7, .slice A116 s105.2.1.length c117), (8, .pointer (some ⟨b67, 0, none⟩))] ∧ Sat ⟨w0, fun b => m0 b ≠ none, F⟩ F129 [blk pbl0 (.cells #[.slice A110 s105.1.length c111] 31 (0, 0)), blk b67 (.cells #[.slice A122 s105.2.2.1.length c123, .int .i64 s105.2.2.2.1, .int .i64 s105.2.2.2.2.1, .slice A126 s105.2.2.2.2.2.length c127] 58 (0, 0)), rowo A110 s105.1.length c111 27 1 cells113, rowo A116 s105.2.1.length c117 58 4 cells119] w) ?_ ?_
        · skip
          intro a w ha hs
          exact ⟨A37, c38, cells40, A71, c72, cells76, A58, c59, A61, c62, F48, (PH.le_refl _), h39, b41, h77, (Bnd.of_sub b47 e69), h60, h63, ha.covers ⟨rfl, rfl, rfl, rfl, trivial⟩, (Among.of (Among.take 2 rfl rfl (Among.take 1 rfl rfl (Among.take 1 rfl rfl (Among.take 0 rfl rfl Among.none)))) _ hs)⟩
        · rintro s105 o106 co107 hm ho108 a w ⟨A110, c111, cells113, A116, c117, cells119, A122, c123, A126, c127, F129, l130, h112, b114, h118, b120, h124, h128, ha, hs⟩
          refine St.use (?_ : St _ _ _ _ _ _) ha hs
          clear ha hs a w
          refine St.block ?_
          refine St.seq ?_
          refine St.region ?_
          refine St.val (v := (.func (.func 22) #[] #[.pointer (some ⟨pbl0, 0, none⟩)])) (Yields.move rfl) trivial rfl rfl ?_
          refine St.val (v := (.pointer (some ⟨b67, 0, none⟩))) (Yields.fieldAddr (v := (.pointer (some ⟨b67, 0, none⟩))) rfl (fun _ => by kernel_rfl)) trivial rfl rfl ?_
          refine St.val (v := (.slice A122 s105.2.2.1.length c123)) (Yields.load rfl (Loads.H1 1 rfl tc27 rfl)) trivial rfl rfl ?_
          refine St.val (v := (.pointer (some ⟨b67, 2, none⟩))) (Yields.fieldAddr (v := (.pointer (some ⟨b67, 2, none⟩))) rfl (fun _ => by kernel_rfl)) trivial rfl rfl ?_
          refine St.val (v := (.agg #[.int .i64 s105.2.2.2.2.1, .slice A126 s105.2.2.2.2.2.length c127])) (Yields.load rfl (Loads.Hk (vs := [.int .i64 s105.2.2.2.2.1, .slice A126 s105.2.2.2.2.2.length c127]) 1 rfl ta24 rfl rfl)) trivial rfl rfl ?_
          refine St.pick (R := [blk pbl0 (.cells #[.slice A110 s105.1.length c111] 31 (0, 0)), blk b67 (.cells #[.slice A122 s105.2.2.1.length c123, .int .i64 s105.2.2.2.1, .int .i64 s105.2.2.2.2.1, .slice A126 s105.2.2.2.2.2.length c127] 58 (0, 0)), rowo A116 s105.2.1.length c117 58 4 cells119]) 2 rfl rfl ?_
          refine St.pick (R := [rowo A110 s105.1.length c111 27 1 cells113, blk b67 (.cells #[.slice A122 s105.2.2.1.length c123, .int .i64 s105.2.2.2.1, .int .i64 s105.2.2.2.2.1, .slice A126 s105.2.2.2.2.2.length c127] 58 (0, 0)), rowo A116 s105.2.1.length c117 58 4 cells119]) 1 rfl rfl ?_
          obtain ⟨q131, e132, hm⟩ := bS hm
          refine St.call [blk b67 (.cells #[.slice A122 s105.2.2.1.length c123, .int .i64 s105.2.2.2.1, .int .i64 s105.2.2.2.2.1, .slice A126 s105.2.2.2.2.2.length c127] 58 (0, 0)), rowo A116 s105.2.1.length c117 58 4 cells119] (m_search_Places_f1_sp (a1 := (DSTree.mk s105.2.2.2.2.1 s105.2.2.2.2.2)) h124 h128 h112 b114 e132) rfl (fun _ ha => ev2 ha rfl rfl) rfl en22 rfl rfl trivial ?_
          rintro _ F133 _ ⟨A135, c136, A139, c140, cells143, rfl, h137, h141, b144, rfl⟩ l134
          refine St.val (v := (.tuple #[.int .i64 q131.1, .agg #[.int .i64 q131.2.1.N, .slice A135 q131.2.1.Kids.length c136], .bool q131.2.2.1])) (Yields.move rfl) trivial rfl rfl ?_
          refine St.val (v := (.int .i64 q131.1)) (Yields.extract rfl rfl) trivial rfl rfl ?_
          refine St.val (v := (.agg #[.int .i64 q131.2.1.N, .slice A135 q131.2.1.Kids.length c136])) (Yields.extract rfl rfl) trivial rfl rfl ?_
          refine St.val (v := (.bool q131.2.2.1)) (Yields.extract rfl rfl) trivial rfl rfl ?_
          refine St.alloc tz24 trivial rfl ?_
          intro b145
          refine St.val (v := (.int .i64 q131.1)) (Yields.assign rfl) trivial rfl rfl ?_
          refine St.storen (R := [blk pbl0 (.cells #[.slice A139 q131.2.2.2.length c140] 31 (0, 0)), rowo A139 q131.2.2.2.length c140 27 1 cells143, blk b67 (.cells #[.slice A122 s105.2.2.1.length c123, .int .i64 s105.2.2.2.1, .int .i64 s105.2.2.2.2.1, .slice A126 s105.2.2.2.2.2.length c127] 58 (0, 0)), rowo A116 s105.2.1.length c117 58 4 cells119]) rfl rfl 0 rfl rfl ta24 rfl rfl rfl trivial (cs' := #[.int .i64 q131.2.1.N, .slice A135 q131.2.1.Kids.length c136]) rfl ?_
          refine St.val (v := (.bool q131.2.2.1)) (Yields.assign rfl) trivial rfl rfl ?_
          refine St.nil ?_
          refine St.norm ?_
          obtain ⟨z146, hm, hk155⟩ := bS hm
          refine St.cutI (fun a w => ∃ (A150 : Option Addr) (c151 : Nat) (cells153 : List Value) (F147 : PH), PH.le F133 F147 ∧ Cat KDPlace F147 cells153 z146 ∧ Bnd 64 z146 ∧ Has Try.f28.ntmps a [(1, .func (.func 22) #[] #[.pointer (some ⟨pbl0, 0, none⟩)]), (2, .func (.func 19) #[] #[]), (7, .slice A150 z146.length c151), (8, .pointer (some ⟨b67, 0, none⟩)), (9, .int .i64 q131.1), (10, .pointer (some ⟨b145, 0, none⟩)), (11, .bool q131.2.2.1)] ∧ Sat ⟨w0, fun b => m0 b ≠ none, F⟩ F147 [blk pbl0 (.cells #[.slice A139 q131.2.2.2.length c140] 31 (0, 0)), blk b67 (.cells #[.slice A122 s105.2.2.1.length c123, .int .i64 s105.2.2.2.1, .int .i64 s105.2.2.2.2.1, .slice A126 s105.2.2.2.2.2.length c127] 58 (0, 0)), blk b145 (.cells #[.int .i64 q131.2.1.N, .slice A135 q131.2.1.Kids.length c136] 24 (0, 0)), rowo A139 q131.2.2.2.length c140 27 1 cells143, rowo A150 z146.length c151 58 4 cells153] w) ?_ ?_
          · skip
            refine St.seq ?_
            refine St.region ?_
            refine St.val (v := (.int .i64 1)) (Yields.assign rfl) trivial rfl rfl ?_
            refine St.nil ?_
            refine St.norm ?_
            refine St.block ?_
            refine St.loopM hm (fun s174 a w => ∃ (A179 : Option Addr) (c180 : Nat) (cells182 : List Value) (F184 : PH), PH.le F133 F184 ∧ Cat KDPlace F184 cells182 s174.1 ∧ Bnd 64 s174.1 ∧ Has Try.f28.ntmps a [(1, .func (.func 22) #[] #[.pointer (some ⟨pbl0, 0, none⟩)]), (2, .func (.func 19) #[] #[]), (7, .slice A179 s174.1.length c180), (8, .pointer (some ⟨b67, 0, none⟩)), (9, .int .i64 q131.1), (10, .pointer (some ⟨b145, 0, none⟩)), (11, .bool q131.2.2.1), (12, .int .i64 s174.2)] ∧ Sat ⟨w0, fun b => m0 b ≠ none, F⟩ F184 [blk pbl0 (.cells #[.slice A139 q131.2.2.2.length c140] 31 (0, 0)), blk b67 (.cells #[.slice A122 s105.2.2.1.length c123, .int .i64 s105.2.2.2.1, .int .i64 s105.2.2.2.2.1, .slice A126 s105.2.2.2.2.2.length c127] 58 (0, 0)), blk b145 (.cells #[.int .i64 q131.2.1.N, .slice A135 q131.2.1.Kids.length c136] 24 (0, 0)), rowo A139 q131.2.2.2.length c140 27 1 cells143, rowo A179 s174.1.length c180 58 4 cells182] w) ?_ ?_
            · skip
              intro a w ha hs
              exact ⟨A116, c117, cells119, F133, (PH.le_refl _), (Cat.mono l134 h118), b120, ha.covers ⟨rfl, rfl, rfl, rfl, rfl, rfl, rfl, rfl, trivial⟩, (Among.of (Among.take 1 rfl rfl (Among.take 2 rfl rfl (Among.take 0 rfl rfl (Among.take 0 rfl rfl (Among.take 0 rfl rfl Among.none))))) _ hs)⟩
            · rintro s174 o175 co176 hm ho177 a w ⟨A179, c180, cells182, F184, l185, h181, b183, ha, hs⟩
              refine St.use (?_ : St _ _ _ _ _ _) ha hs
              clear ha hs a w
              refine St.seq ?_
              refine St.seq ?_
              refine St.region ?_
              refine St.val (v := (.int .i64 s174.2)) (Yields.move rfl) trivial rfl rfl ?_
              refine St.val (v := (.int .i64 q131.1)) (Yields.move rfl) trivial rfl rfl ?_
              refine St.val (v := (.bool (decide (s174.2 < q131.1)))) (Yields.lt rfl rfl) trivial rfl rfl ?_
              refine St.nil ?_
              refine St.norm ?_
              refine St.cond_b rfl ?_ ?_
              · intro q186
                replace q186 : s174.2 < q131.1 := of_decide_eq_true q186
                replace hm := iT hm q186
                refine St.skip ?_
                refine St.norm ?_
                obtain ⟨z187, hm, hk196⟩ := bS hm
                refine St.cutI (fun a w => ∃ (A191 : Option Addr) (c192 : Nat) (cells194 : List Value) (F188 : PH), PH.le F184 F188 ∧ Cat KDPlace F188 cells194 z187 ∧ Bnd 64 z187 ∧ Has Try.f28.ntmps a [(1, .func (.func 22) #[] #[.pointer (some ⟨pbl0, 0, none⟩)]), (2, .func (.func 19) #[] #[]), (7, .slice A191 z187.length c192), (8, .pointer (some ⟨b67, 0, none⟩)), (9, .int .i64 q131.1), (10, .pointer (some ⟨b145, 0, none⟩)), (11, .bool q131.2.2.1), (12, .int .i64 s174.2)] ∧ Sat ⟨w0, fun b => m0 b ≠ none, F⟩ F188 [blk pbl0 (.cells #[.slice A139 q131.2.2.2.length c140] 31 (0, 0)), blk b67 (.cells #[.slice A122 s105.2.2.1.length c123, .int .i64 s105.2.2.2.1, .int .i64 s105.2.2.2.2.1, .slice A126 s105.2.2.2.2.2.length c127] 58 (0, 0)), blk b145 (.cells #[.int .i64 q131.2.1.N, .slice A135 q131.2.1.Kids.length c136] 24 (0, 0)), rowo A139 q131.2.2.2.length c140 27 1 cells143, rowo A191 z187.length c192 58 4 cells194] w) ?_ ?_
                · skip
                  refine St.block ?_
                  refine StD.start [10, 12, 13] [blk pbl0 (.cells #[.slice A139 q131.2.2.2.length c140] 31 (0, 0)), blk b67 (.cells #[.slice A122 s105.2.2.1.length c123, .int .i64 s105.2.2.2.1, .int .i64 s105.2.2.2.2.1, .slice A126 s105.2.2.2.2.2.length c127] 58 (0, 0)), blk b145 (.cells #[.int .i64 q131.2.1.N, .slice A135 q131.2.1.Kids.length c136] 24 (0, 0)), rowo A139 q131.2.2.2.length c140 27 1 cells143, rowo A179 s174.1.length c180 58 4 cells182] hmix ?_
                  refine StD.takeP (i := 0) (v := (.slice A179 s174.1.length c180)) rfl (fun _ => Yields.move rfl) rfl rfl trivial (by rintro _ _ _ ⟨_, _, _, _, h, _⟩; cases h) (by kernel_rfl) (listed' := #[true, false, false, false, false, false, false, false, false, false, false, false, false, false, false]) rfl ?_
                  refine StD.takeP (i := 1) (v := (.pointer (some ⟨b67, 0, none⟩))) rfl (fun _ => Yields.fieldAddr (v := (.pointer (some ⟨b67, 0, none⟩))) rfl (fun _ => by kernel_rfl)) rfl rfl trivial (by rintro _ _ _ ⟨_, _, _, _, h, _⟩; cases h) (by kernel_rfl) (listed' := #[true, true, false, false, false, false, false, false, false, false, false, false, false, false, false]) rfl ?_
                  refine StD.take [0, 1, 4, 7, 9, 11, 14] (i := 2) (v := (.slice A122 s105.2.2.1.length c123)) rfl (Yields.load rfl (Loads.H1 1 rfl tc27 rfl)) rfl rfl trivial Among.refl (by rintro _ _ _ ⟨_, _, _, _, h, _⟩; cases h) (by kernel_rfl) (listed' := #[true, true, true, false, false, false, false, false, false, false, false, false, false, false, false]) rfl ?_
                  refine StD.takeP (i := 4) (v := (.int .i64 s174.2)) rfl (fun _ => Yields.move rfl) rfl rfl trivial (by rintro _ _ _ ⟨_, _, _, _, h, _⟩; cases h) (by kernel_rfl) (listed' := #[true, true, true, false, true, false, false, false, false, false, false, false, false, false, false]) rfl ?_
                  refine StD.takeP (i := 7) (v := (.func (.func 19) #[] #[])) rfl (fun _ => Yields.move rfl) rfl rfl trivial (by rintro _ _ _ ⟨_, _, _, _, h, _⟩; cases h) (by kernel_rfl) (listed' := #[true, true, true, false, true, false, false, true, false, false, false, false, false, false, false]) rfl ?_
                  refine StD.take [0, 1, 4, 7, 9, 11, 14] (i := 8) (v := (.agg #[.int .i64 q131.2.1.N, .slice A135 q131.2.1.Kids.length c136])) rfl (Yields.load rfl (Loads.Hk (vs := [.int .i64 q131.2.1.N, .slice A135 q131.2.1.Kids.length c136]) 2 rfl ta24 rfl rfl)) rfl rfl trivial Among.refl (by rintro _ _ _ ⟨_, _, _, _, h, _⟩; cases h) (by kernel_rfl) (listed' := #[true, true, true, false, true, false, false, true, true, false, false, false, false, false, false]) rfl ?_
                  refine StD.takeP (i := 9) (v := (.int .i64 s174.2)) rfl (fun _ => Yields.move rfl) rfl rfl trivial (by rintro _ _ _ ⟨_, _, _, _, h, _⟩; cases h) (by kernel_rfl) (listed' := #[true, true, true, false, true, false, false, true, true, true, false, false, false, false, false]) rfl ?_
                  obtain ⟨x197, e198, hm⟩ := bS hm
                  refine StD.two (i := 3) (j := 5) rfl rfl (by kernel_rfl) (l1 := #[true, true, true, true, true, false, false, true, true, true, false, false, false, false, false]) (l2 := #[true, true, true, false, true, true, false, true, true, true, false, false, false, false, false]) rfl rfl ?_ ?_
                  · intro hcl199
                    refine St.rowo_new 3 1 ?_
                    refine St.pushS (R := [blk pbl0 (.cells #[.slice A139 q131.2.2.2.length c140] 31 (0, 0)), blk b67 (.cells #[.slice A122 s105.2.2.1.length c123, .int .i64 s105.2.2.2.1, .int .i64 s105.2.2.2.2.1, .slice A126 s105.2.2.2.2.2.length c127] 58 (0, 0)), blk b145 (.cells #[.int .i64 q131.2.1.N, .slice A135 q131.2.1.Kids.length c136] 24 (0, 0)), rowo A139 q131.2.2.2.length c140 27 1 cells143, rowo A179 s174.1.length c180 58 4 cells182]) e198 ts27 rfl rfl rfl rfl 0 rfl rfl (show Cat (Kind.int .i64) _ [] [] from rfl) (Fsl.mono (PH.le_trans l134 l185) h124) rfl trivial ?_
                    intro A201 c202 cells203 h204
                    refine StD.next hcl199 (fun _ => (Among.of (Among.take 1 rfl rfl (Among.take 1 rfl rfl (Among.take 1 rfl rfl (Among.take 1 rfl rfl (Among.take 1 rfl rfl Among.none))))))) ?_
                    refine StD.only (i := 5) rfl (by kernel_rfl) (listed' := #[true, true, true, true, true, true, false, true, true, true, false, false, false, false, false]) rfl ?_
                    intro hcl206
                    refine St.buildSlice (e := 3) (cells := #[.int .i64 s174.2]) (vs := #[(0, .int .i64 s174.2)]) (fun _ ha => evp1 ha rfl) (fun _ => by kernel_rfl) rfl trivial ?_
                    intro b207
                    refine StD.next hcl206 (fun _ => (Among.of (Among.take 2 rfl rfl (Among.take 2 rfl rfl (Among.take 2 rfl rfl (Among.take 2 rfl rfl (Among.take 2 rfl rfl Among.none))))))) ?_
                    refine StD.only (i := 6) rfl (by kernel_rfl) (listed' := #[true, true, true, true, true, true, true, true, true, true, false, false, false, false, false]) rfl ?_
                    intro hcl208
                    obtain ⟨x213, e214, hm⟩ := bS hm
                    refine St.pushL (R := [blk b207 (.cells #[.int .i64 s174.2] 3 (0, 0)), blk pbl0 (.cells #[.slice A139 q131.2.2.2.length c140] 31 (0, 0)), blk b67 (.cells #[.slice A122 s105.2.2.1.length c123, .int .i64 s105.2.2.2.1, .int .i64 s105.2.2.2.2.1, .slice A126 s105.2.2.2.2.2.length c127] 58 (0, 0)), blk b145 (.cells #[.int .i64 q131.2.1.N, .slice A135 q131.2.1.Kids.length c136] 24 (0, 0)), rowo A139 q131.2.2.2.length c140 27 1 cells143, rowo A179 s174.1.length c180 58 4 cells182]) (R3 := [blk pbl0 (.cells #[.slice A139 q131.2.2.2.length c140] 31 (0, 0)), blk b67 (.cells #[.slice A122 s105.2.2.1.length c123, .int .i64 s105.2.2.2.1, .int .i64 s105.2.2.2.2.1, .slice A126 s105.2.2.2.2.2.length c127] 58 (0, 0)), blk b145 (.cells #[.int .i64 q131.2.1.N, .slice A135 q131.2.1.Kids.length c136] 24 (0, 0)), rowo A139 q131.2.2.2.length c140 27 1 cells143, rowo A179 s174.1.length c180 58 4 cells182]) e214 ts27 rfl rfl rfl rfl rfl 1 rfl rfl 0 rfl 0 rfl rfl h204 ⟨[.int .i64 s174.2], _, rfl, rfl, rfl⟩ rfl trivial ?_
                    intro A209 c210 cells211 h212
                    refine StD.next hcl208 (fun _ => (Among.of (Among.take 1 rfl rfl (Among.take 1 rfl rfl (Among.take 1 rfl rfl (Among.take 1 rfl rfl (Among.take 1 rfl rfl Among.none))))))) ?_
                    refine StD.only (i := 10) rfl (by kernel_rfl) (listed' := #[true, true, true, true, true, true, true, true, true, true, true, false, false, false, false]) rfl ?_
                    intro hcl216
                    obtain ⟨q217, e218, hm⟩ := bS hm
                    refine St.call [rowo A209 x213.length c210 3 1 cells211, blk pbl0 (.cells #[.slice A139 q131.2.2.2.length c140] 31 (0, 0)), blk b67 (.cells #[.slice A122 s105.2.2.1.length c123, .int .i64 s105.2.2.2.1, .int .i64 s105.2.2.2.2.1, .slice A126 s105.2.2.2.2.2.length c127] 58 (0, 0)), blk b145 (.cells #[.int .i64 q131.2.1.N, .slice A135 q131.2.1.Kids.length c136] 24 (0, 0)), rowo A139 q131.2.2.2.length c140 27 1 cells143, rowo A179 s174.1.length c180 58 4 cells182] (m_search_below_sp (a0 := q131.2.1) (Fsl.mono l185 h137) e218) rfl (fun _ ha => ev2 ha rfl rfl) rfl en19 rfl rfl trivial ?_
                    rintro _ F219 _ ⟨A221, c222, rfl, h223, rfl⟩ l220
                    refine StD.next hcl216 (fun h => by cases h) ?_
                    refine StD.takeP (i := 11) (v := (.agg #[.slice A209 x213.length c210, .int .i64 0, .int .i64 q217.N, .slice A221 q217.Kids.length c222])) rfl (fun _ => Yields.build (v := (.agg #[.slice A209 x213.length c210, .int .i64 0, .int .i64 q217.N, .slice A221 q217.Kids.length c222])) (vs := #[(0, .slice A209 x213.length c210), (2, .agg #[.int .i64 q217.N, .slice A221 q217.Kids.length c222])]) (fun _ ha => evp2 ha rfl rfl) (fun _ => by kernel_rfl)) rfl rfl trivial (by rintro _ _ _ ⟨_, _, _, _, h, _⟩; cases h) (by kernel_rfl) (listed' := #[true, true, true, true, true, true, true, true, true, true, true, true, false, false, false]) rfl ?_
                    refine StD.only (i := 12) rfl (by kernel_rfl) (listed' := #[true, true, true, true, true, true, true, true, true, true, true, true, true, false, false]) rfl ?_
                    intro hcl225
                    refine St.frz 0 rfl rfl rfl (Cat.mono l220 h212) (Bnd.of_push e214) ?_
                    intro F226 l227 h228
                    refine St.buildSlice (e := 58) (cells := #[.slice A209 x213.length c210, .int .i64 0, .int .i64 q217.N, .slice A221 q217.Kids.length c222]) (vs := #[(0, .agg #[.slice A209 x213.length c210, .int .i64 0, .int .i64 q217.N, .slice A221 q217.Kids.length c222])]) (fun _ ha => evp1 ha rfl) (fun _ => by kernel_rfl) rfl trivial ?_
                    intro b229
                    refine StD.next hcl225 (fun h => by cases h) ?_
                    refine StD.only (i := 13) rfl (by kernel_rfl) (listed' := #[true, true, true, true, true, true, true, true, true, true, true, true, true, true, false]) rfl ?_
                    intro hcl230
                    obtain ⟨x235, e236, hm⟩ := bS hm
                    refine St.pushL (R := [blk b229 (.cells #[.slice A209 x213.length c210, .int .i64 0, .int .i64 q217.N, .slice A221 q217.Kids.length c222] 58 (0, 0)), blk pbl0 (.cells #[.slice A139 q131.2.2.2.length c140] 31 (0, 0)), blk b67 (.cells #[.slice A122 s105.2.2.1.length c123, .int .i64 s105.2.2.2.1, .int .i64 s105.2.2.2.2.1, .slice A126 s105.2.2.2.2.2.length c127] 58 (0, 0)), blk b145 (.cells #[.int .i64 q131.2.1.N, .slice A135 q131.2.1.Kids.length c136] 24 (0, 0)), rowo A139 q131.2.2.2.length c140 27 1 cells143]) (R3 := [blk pbl0 (.cells #[.slice A139 q131.2.2.2.length c140] 31 (0, 0)), blk b67 (.cells #[.slice A122 s105.2.2.1.length c123, .int .i64 s105.2.2.2.1, .int .i64 s105.2.2.2.2.1, .slice A126 s105.2.2.2.2.2.length c127] 58 (0, 0)), blk b145 (.cells #[.int .i64 q131.2.1.N, .slice A135 q131.2.1.Kids.length c136] 24 (0, 0)), rowo A139 q131.2.2.2.length c140 27 1 cells143]) e236 ts53 rfl rfl rfl rfl rfl 5 rfl rfl 0 rfl 0 rfl rfl (Cat.mono (PH.le_trans l220 l227) h181) ⟨[.slice A209 x213.length c210, .int .i64 0, .int .i64 q217.N, .slice A221 q217.Kids.length c222], _, rfl, (DPlace.shut h228 (Fsl.mono l227 h223)), rfl⟩ rfl trivial ?_
                    intro A231 c232 cells233 h234
                    refine StD.next hcl230 (fun h => by cases h) ?_
                    refine StD.takeP (i := 14) (v := (.slice A231 x235.length c232)) rfl (fun _ => Yields.assign rfl) rfl rfl trivial (by rintro _ _ _ ⟨_, _, _, _, h, _⟩; cases h) (by kernel_rfl) (listed' := #[true, true, true, true, true, true, true, true, true, true, true, true, true, true, true]) rfl ?_
                    refine StD.done (by kernel_rfl) ?_
                    refine St.innorm ?_
                    obtain rfl := sI hm
                    intro a w ha hs
                    exact ⟨A231, c232, cells233, F226, (PH.le_trans l220 l227), h234, (Bnd.of_push e236), ha.covers ⟨rfl, rfl, rfl, rfl, rfl, rfl, rfl, rfl, trivial⟩, (Among.of (Among.take 1 rfl rfl (Among.take 1 rfl rfl (Among.take 1 rfl rfl (Among.take 1 rfl rfl (Among.take 0 rfl rfl Among.none))))) _ hs)⟩
                  · intro hcl238
                    refine St.buildSlice (e := 3) (cells := #[.int .i64 s174.2]) (vs := #[(0, .int .i64 s174.2)]) (fun _ ha => evp1 ha rfl) (fun _ => by kernel_rfl) rfl trivial ?_
                    intro b239
                    refine StD.next hcl238 (fun _ => (Among.of (Among.take 1 rfl rfl (Among.take 1 rfl rfl (Among.take 1 rfl rfl (Among.take 1 rfl rfl (Among.take 1 rfl rfl Among.none))))))) ?_
                    refine StD.only (i := 3) rfl (by kernel_rfl) (listed' := #[true, true, true, true, true, true, false, true, true, true, false, false, false, false, false]) rfl ?_
                    intro hcl240
                    refine St.rowo_new 3 1 ?_
                    refine St.pushS (R := [blk b239 (.cells #[.int .i64 s174.2] 3 (0, 0)), blk pbl0 (.cells #[.slice A139 q131.2.2.2.length c140] 31 (0, 0)), blk b67 (.cells #[.slice A122 s105.2.2.1.length c123, .int .i64 s105.2.2.2.1, .int .i64 s105.2.2.2.2.1, .slice A126 s105.2.2.2.2.2.length c127] 58 (0, 0)), blk b145 (.cells #[.int .i64 q131.2.1.N, .slice A135 q131.2.1.Kids.length c136] 24 (0, 0)), rowo A139 q131.2.2.2.length c140 27 1 cells143, rowo A179 s174.1.length c180 58 4 cells182]) e198 ts27 rfl rfl rfl rfl 0 rfl rfl (show Cat (Kind.int .i64) _ [] [] from rfl) (Fsl.mono (PH.le_trans l134 l185) h124) rfl trivial ?_
                    intro A242 c243 cells244 h245
                    refine StD.next hcl240 (fun _ => (Among.of (Among.take 2 rfl rfl (Among.take 2 rfl rfl (Among.take 2 rfl rfl (Among.take 2 rfl rfl (Among.take 2 rfl rfl Among.none))))))) ?_
                    refine StD.only (i := 6) rfl (by kernel_rfl) (listed' := #[true, true, true, true, true, true, true, true, true, true, false, false, false, false, false]) rfl ?_
                    intro hcl247
                    obtain ⟨x252, e253, hm⟩ := bS hm
                    refine St.pushL (R := [blk b239 (.cells #[.int .i64 s174.2] 3 (0, 0)), blk pbl0 (.cells #[.slice A139 q131.2.2.2.length c140] 31 (0, 0)), blk b67 (.cells #[.slice A122 s105.2.2.1.length c123, .int .i64 s105.2.2.2.1, .int .i64 s105.2.2.2.2.1, .slice A126 s105.2.2.2.2.2.length c127] 58 (0, 0)), blk b145 (.cells #[.int .i64 q131.2.1.N, .slice A135 q131.2.1.Kids.length c136] 24 (0, 0)), rowo A139 q131.2.2.2.length c140 27 1 cells143, rowo A179 s174.1.length c180 58 4 cells182]) (R3 := [blk pbl0 (.cells #[.slice A139 q131.2.2.2.length c140] 31 (0, 0)), blk b67 (.cells #[.slice A122 s105.2.2.1.length c123, .int .i64 s105.2.2.2.1, .int .i64 s105.2.2.2.2.1, .slice A126 s105.2.2.2.2.2.length c127] 58 (0, 0)), blk b145 (.cells #[.int .i64 q131.2.1.N, .slice A135 q131.2.1.Kids.length c136] 24 (0, 0)), rowo A139 q131.2.2.2.length c140 27 1 cells143, rowo A179 s174.1.length c180 58 4 cells182]) e253 ts27 rfl rfl rfl rfl rfl 0 rfl rfl 1 rfl 0 rfl rfl h245 ⟨[.int .i64 s174.2], _, rfl, rfl, rfl⟩ rfl trivial ?_
                    intro A248 c249 cells250 h251
                    refine StD.next hcl247 (fun _ => (Among.of (Among.take 1 rfl rfl (Among.take 1 rfl rfl (Among.take 1 rfl rfl (Among.take 1 rfl rfl (Among.take 1 rfl rfl Among.none))))))) ?_
                    refine StD.only (i := 10) rfl (by kernel_rfl) (listed' := #[true, true, true, true, true, true, true, true, true, true, true, false, false, false, false]) rfl ?_
                    intro hcl255
                    obtain ⟨q256, e257, hm⟩ := bS hm
                    refine St.call [rowo A248 x252.length c249 3 1 cells250, blk pbl0 (.cells #[.slice A139 q131.2.2.2.length c140] 31 (0, 0)), blk b67 (.cells #[.slice A122 s105.2.2.1.length c123, .int .i64 s105.2.2.2.1, .int .i64 s105.2.2.2.2.1, .slice A126 s105.2.2.2.2.2.length c127] 58 (0, 0)), blk b145 (.cells #[.int .i64 q131.2.1.N, .slice A135 q131.2.1.Kids.length c136] 24 (0, 0)), rowo A139 q131.2.2.2.length c140 27 1 cells143, rowo A179 s174.1.length c180 58 4 cells182] (m_search_below_sp (a0 := q131.2.1) (Fsl.mono l185 h137) e257) rfl (fun _ ha => ev2 ha rfl rfl) rfl en19 rfl rfl trivial ?_
                    rintro _ F258 _ ⟨A260, c261, rfl, h262, rfl⟩ l259
                    refine StD.next hcl255 (fun h => by cases h) ?_
                    refine StD.takeP (i := 11) (v := (.agg #[.slice A248 x252.length c249, .int .i64 0, .int .i64 q256.N, .slice A260 q256.Kids.length c261])) rfl (fun _ => Yields.build (v := (.agg #[.slice A248 x252.length c249, .int .i64 0, .int .i64 q256.N, .slice A260 q256.Kids.length c261])) (vs := #[(0, .slice A248 x252.length c249), (2, .agg #[.int .i64 q256.N, .slice A260 q256.Kids.length c261])]) (fun _ ha => evp2 ha rfl rfl) (fun _ => by kernel_rfl)) rfl rfl trivial (by rintro _ _ _ ⟨_, _, _, _, h, _⟩; cases h) (by kernel_rfl) (listed' := #[true, true, true, true, true, true, true, true, true, true, true, true, false, false, false]) rfl ?_
                    refine StD.only (i := 12) rfl (by kernel_rfl) (listed' := #[true, true, true, true, true, true, true, true, true, true, true, true, true, false, false]) rfl ?_
                    intro hcl264
                    refine St.frz 0 rfl rfl rfl (Cat.mono l259 h251) (Bnd.of_push e253) ?_
                    intro F265 l266 h267
                    refine St.buildSlice (e := 58) (cells := #[.slice A248 x252.length c249, .int .i64 0, .int .i64 q256.N, .slice A260 q256.Kids.length c261]) (vs := #[(0, .agg #[.slice A248 x252.length c249, .int .i64 0, .int .i64 q256.N, .slice A260 q256.Kids.length c261])]) (fun _ ha => evp1 ha rfl) (fun _ => by kernel_rfl) rfl trivial ?_
                    intro b268
                    refine StD.next hcl264 (fun h => by cases h) ?_
                    refine StD.only (i := 13) rfl (by kernel_rfl) (listed' := #[true, true, true, true, true, true, true, true, true, true, true, true, true, true, false]) rfl ?_
                    intro hcl269
                    obtain ⟨x274, e275, hm⟩ := bS hm
                    refine St.pushL (R := [blk b268 (.cells #[.slice A248 x252.length c249, .int .i64 0, .int .i64 q256.N, .slice A260 q256.Kids.length c261] 58 (0, 0)), blk pbl0 (.cells #[.slice A139 q131.2.2.2.length c140] 31 (0, 0)), blk b67 (.cells #[.slice A122 s105.2.2.1.length c123, .int .i64 s105.2.2.2.1, .int .i64 s105.2.2.2.2.1, .slice A126 s105.2.2.2.2.2.length c127] 58 (0, 0)), blk b145 (.cells #[.int .i64 q131.2.1.N, .slice A135 q131.2.1.Kids.length c136] 24 (0, 0)), rowo A139 q131.2.2.2.length c140 27 1 cells143]) (R3 := [blk pbl0 (.cells #[.slice A139 q131.2.2.2.length c140] 31 (0, 0)), blk b67 (.cells #[.slice A122 s105.2.2.1.length c123, .int .i64 s105.2.2.2.1, .int .i64 s105.2.2.2.2.1, .slice A126 s105.2.2.2.2.2.length c127] 58 (0, 0)), blk b145 (.cells #[.int .i64 q131.2.1.N, .slice A135 q131.2.1.Kids.length c136] 24 (0, 0)), rowo A139 q131.2.2.2.length c140 27 1 cells143]) e275 ts53 rfl rfl rfl rfl rfl 5 rfl rfl 0 rfl 0 rfl rfl (Cat.mono (PH.le_trans l259 l266) h181) ⟨[.slice A248 x252.length c249, .int .i64 0, .int .i64 q256.N, .slice A260 q256.Kids.length c261], _, rfl, (DPlace.shut h267 (Fsl.mono l266 h262)), rfl⟩ rfl trivial ?_
                    intro A270 c271 cells272 h273
                    refine StD.next hcl269 (fun h => by cases h) ?_
                    refine StD.takeP (i := 14) (v := (.slice A270 x274.length c271)) rfl (fun _ => Yields.assign rfl) rfl rfl trivial (by rintro _ _ _ ⟨_, _, _, _, h, _⟩; cases h) (by kernel_rfl) (listed' := #[true, true, true, true, true, true, true, true, true, true, true, true, true, true, true]) rfl ?_
                    refine StD.done (by kernel_rfl) ?_
                    refine St.innorm ?_
                    obtain rfl := sI hm
                    intro a w ha hs
                    exact ⟨A270, c271, cells272, F265, (PH.le_trans l259 l266), h273, (Bnd.of_push e275), ha.covers ⟨rfl, rfl, rfl, rfl, rfl, rfl, rfl, rfl, trivial⟩, (Among.of (Among.take 1 rfl rfl (Among.take 1 rfl rfl (Among.take 1 rfl rfl (Among.take 1 rfl rfl (Among.take 0 rfl rfl Among.none))))) _ hs)⟩
                · rintro a w ⟨A191, c192, cells194, F188, l189, h193, b195, ha, hs⟩
                  replace hm := hk196
                  refine St.use (?_ : St _ _ _ _ _ _) ha hs
                  clear ha hs a w
                  refine St.region ?_
                  refine St.val (v := (.int .i64 s174.2)) (Yields.move rfl) trivial rfl rfl ?_
                  refine St.val (v := (.int .i64 (Mir.w64 (s174.2 + 1)))) (Yields.addw rfl rfl) trivial rfl rfl ?_
                  refine St.val (v := (.int .i64 (Mir.w64 (s174.2 + 1)))) (Yields.assign rfl) trivial rfl rfl ?_
                  refine St.nil ?_
                  refine St.norm ?_
                  obtain rfl := sI hm
                  intro a w ha hs
                  exact ⟨(z187, Mir.w64 (s174.2 + 1)), aL ho177, A191, c192, cells194, F188, (PH.le_trans l185 l189), h193, b195, ha.covers ⟨rfl, rfl, rfl, rfl, rfl, rfl, rfl, rfl, trivial⟩, (Among.of (Among.take 0 rfl rfl (Among.take 0 rfl rfl (Among.take 0 rfl rfl (Among.take 0 rfl rfl (Among.take 0 rfl rfl Among.none))))) _ hs)⟩
              · intro q277
                replace q277 : ¬ (s174.2 < q131.1) := of_decide_eq_false q277
                replace hm := iF hm q277
                refine St.exit ?_
                refine St.thenexit ?_
                refine St.thenexit ?_
                refine St.inexit ?_
                obtain rfl := sI hm
                obtain rfl := aR ho177
                intro a w ha hs
                exact ⟨A179, c180, cells182, F184, l185, h181, b183, ha.covers ⟨rfl, rfl, rfl, rfl, rfl, rfl, rfl, trivial⟩, (Among.of (Among.take 0 rfl rfl (Among.take 0 rfl rfl (Among.take 0 rfl rfl (Among.take 0 rfl rfl (Among.take 0 rfl rfl Among.none))))) _ hs)⟩
          · rintro a w ⟨A150, c151, cells153, F147, l148, h152, b154, ha, hs⟩
            replace hm := hk155
            refine St.use (?_ : St _ _ _ _ _ _) ha hs
            clear ha hs a w
            refine St.seq ?_
            refine St.seq ?_
            refine St.region ?_
            refine St.val (v := (.bool q131.2.2.1)) (Yields.move rfl) trivial rfl rfl ?_
            refine St.val (v := (.bool (!q131.2.2.1))) (Yields.not rfl) trivial rfl rfl ?_
            refine St.nil ?_
            refine St.norm ?_
            refine St.cond_b rfl ?_ ?_
            · intro q278
              replace q278 : ¬ (q131.2.2.1 = true) := nb_t q278
              replace hm := iF hm q278
              obtain ⟨z279, hm, hk280⟩ := bS hm
              refine St.cutI (fun a w => Has Try.f28.ntmps a [(6, .bool z279)] ∧ Sat ⟨w0, fun b => m0 b ≠ none, F⟩ F147 [blk pbl0 (.cells #[.slice A139 q131.2.2.2.length c140] 31 (0, 0)), rowo A139 q131.2.2.2.length c140 27 1 cells143] w) ?_ ?_
              · skip
                refine St.region ?_
                refine St.val (v := (.int .i64 q131.1)) (Yields.move rfl) trivial rfl rfl ?_
                by_cases q281 : q131.1 > 0
                · replace hm := iT hm q281
                  refine St.val (v := (.bool true)) (Yields.is q281 (Yields.gt rfl rfl)) trivial rfl rfl ?_
                  refine St.val (v := (.bool true)) (Yields.move rfl) trivial rfl rfl ?_
                  refine St.unwanted rfl rfl rfl ?_
                  refine St.unwanted rfl rfl rfl ?_
                  refine St.unwanted rfl rfl rfl ?_
                  refine St.val (v := (.bool true)) (Yields.pick_t rfl rfl) trivial rfl rfl ?_
                  refine St.val (v := (.bool true)) (Yields.assign rfl) trivial rfl rfl ?_
                  refine St.nil ?_
                  obtain rfl := sI hm
                  intro a w ha hs
                  exact ⟨ha.covers ⟨rfl, trivial⟩, (Among.of (Among.take 0 rfl rfl (Among.take 2 rfl rfl Among.none)) _ hs)⟩
                · replace hm := iF hm q281
                  refine St.val (v := (.bool false)) (Yields.isnt q281 (Yields.gt rfl rfl)) trivial rfl rfl ?_
                  refine St.val (v := (.bool false)) (Yields.move rfl) trivial rfl rfl ?_
                  refine St.val (v := (.slice A150 z146.length c151)) (Yields.move rfl) rfl rfl rfl ?_
                  refine St.val (v := (.int .i64 ((z146.length : Nat) : Int))) (Yields.lenSlice tu53 rfl) rfl rfl rfl ?_
                  refine St.val (v := (.bool (decide (((z146.length : Nat) : Int) > 0)))) (Yields.gt rfl rfl) rfl rfl rfl ?_
                  refine St.val (v := (.bool (decide (((z146.length : Nat) : Int) > 0)))) (Yields.pick_f rfl rfl) trivial rfl rfl ?_
                  refine St.val (v := (.bool (decide (((z146.length : Nat) : Int) > 0)))) (Yields.assign rfl) trivial rfl rfl ?_
                  refine St.nil ?_
                  obtain rfl := sI hm
                  intro a w ha hs
                  exact ⟨ha.covers ⟨rfl, trivial⟩, (Among.of (Among.take 0 rfl rfl (Among.take 2 rfl rfl Among.none)) _ hs)⟩
              · rintro a w ⟨ha, hs⟩
                replace hm := hk280
                refine St.use (?_ : St _ _ _ _ _ _) ha hs
                clear ha hs a w
                refine St.ret ?_
                refine St.thenret ?_
                refine St.inret ?_
                refine St.thenret ?_
                refine St.inret ?_
                refine St.inret ?_
                refine St.thenret ?_
                refine St.inret ?_
                refine St.thenret ?_
                obtain rfl := sI hm
                obtain rfl := aR ho108
                obtain rfl := aR ho35
                obtain rfl := aR ho16
                exact St.doneR1 rfl rfl ⟨A139, c140, cells143, rfl, (Cat.mono l148 h141), b144, rfl⟩ (fun w hs => Among.of (Among.take 0 rfl rfl (Among.take 0 rfl rfl Among.none)) w hs)
            · intro q282
              replace q282 : q131.2.2.1 = true := nb_f q282
              replace hm := iT hm q282
              refine St.skip ?_
              refine St.norm ?_
              refine St.seq ?_
              refine St.seq ?_
              refine St.region ?_
              refine St.val (v := (.int .i64 q131.1)) (Yields.move rfl) trivial rfl rfl ?_
              refine St.val (v := (.bool (decide (q131.1 = 0)))) (Yields.eq rfl rfl) trivial rfl rfl ?_
              refine St.nil ?_
              refine St.norm ?_
              refine St.cond_b rfl ?_ ?_
              · intro q283
                replace q283 : q131.1 = 0 := of_decide_eq_true q283
                replace hm := iT hm q283
                refine St.exit ?_
                refine St.thenexit ?_
                refine St.inpass rfl ?_
                refine St.thenexit ?_
                refine St.inexit ?_
                refine St.innorm ?_
                refine St.norm ?_
                obtain rfl := sI hm
                obtain rfl := aR ho108
                intro a w ha hs
                exact ⟨(q131.2.2.2, z146), aL ho35, A139, c140, cells143, A150, c151, cells153, F147, (PH.le_trans l49 (PH.le_trans l130 (PH.le_trans l134 l148))), (Cat.mono l148 h141), b144, h152, b154, ha.covers ⟨rfl, rfl, rfl, trivial⟩, (Among.of (Among.take 0 rfl rfl (Among.take 2 rfl rfl (Among.take 2 rfl rfl Among.none))) _ hs)⟩
              · intro q284
                replace q284 : ¬ (q131.1 = 0) := of_decide_eq_false q284
                replace hm := iF hm q284
                refine St.skip ?_
                refine St.norm ?_
                refine StD.start [7, 9] [blk pbl0 (.cells #[.slice A139 q131.2.2.2.length c140] 31 (0, 0)), blk b67 (.cells #[.slice A122 s105.2.2.1.length c123, .int .i64 s105.2.2.2.1, .int .i64 s105.2.2.2.2.1, .slice A126 s105.2.2.2.2.2.length c127] 58 (0, 0)), blk b145 (.cells #[.int .i64 q131.2.1.N, .slice A135 q131.2.1.Kids.length c136] 24 (0, 0)), rowo A139 q131.2.2.2.length c140 27 1 cells143, rowo A150 z146.length c151 58 4 cells153] hmix ?_
                refine StD.takeP (i := 0) (v := (.pointer (some ⟨b67, 0, none⟩))) rfl (fun _ => Yields.fieldAddr (v := (.pointer (some ⟨b67, 0, none⟩))) rfl (fun _ => by kernel_rfl)) rfl rfl trivial (by rintro _ _ _ ⟨_, _, _, _, h, _⟩; cases h) (by kernel_rfl) (listed' := #[true, false, false, false, false, false, false, false, false, false]) rfl ?_
                refine StD.take [0, 5, 8] (i := 1) (v := (.slice A122 s105.2.2.1.length c123)) rfl (Yields.load rfl (Loads.H1 1 rfl tc27 rfl)) rfl rfl trivial Among.refl (by rintro _ _ _ ⟨_, _, _, _, h, _⟩; cases h) (by kernel_rfl) (listed' := #[true, true, false, false, false, false, false, false, false, false]) rfl ?_
                refine StD.takeP (i := 5) (v := (.func (.func 19) #[] #[])) rfl (fun _ => Yields.move rfl) rfl rfl trivial (by rintro _ _ _ ⟨_, _, _, _, h, _⟩; cases h) (by kernel_rfl) (listed' := #[true, true, false, false, false, true, false, false, false, false]) rfl ?_
                refine StD.take [0, 5, 8] (i := 6) (v := (.agg #[.int .i64 q131.2.1.N, .slice A135 q131.2.1.Kids.length c136])) rfl (Yields.load rfl (Loads.Hk (vs := [.int .i64 q131.2.1.N, .slice A135 q131.2.1.Kids.length c136]) 2 rfl ta24 rfl rfl)) rfl rfl trivial Among.refl (by rintro _ _ _ ⟨_, _, _, _, h, _⟩; cases h) (by kernel_rfl) (listed' := #[true, true, false, false, false, true, true, false, false, false]) rfl ?_
                obtain ⟨x285, e286, hm⟩ := bS hm
                refine StD.two (i := 2) (j := 3) rfl rfl (by kernel_rfl) (l1 := #[true, true, true, false, false, true, true, false, false, false]) (l2 := #[true, true, false, true, false, true, true, false, false, false]) rfl rfl ?_ ?_
                · intro hcl287
                  refine St.rowo_new 3 1 ?_
                  refine St.pushS (R := [blk pbl0 (.cells #[.slice A139 q131.2.2.2.length c140] 31 (0, 0)), blk b67 (.cells #[.slice A122 s105.2.2.1.length c123, .int .i64 s105.2.2.2.1, .int .i64 s105.2.2.2.2.1, .slice A126 s105.2.2.2.2.2.length c127] 58 (0, 0)), blk b145 (.cells #[.int .i64 q131.2.1.N, .slice A135 q131.2.1.Kids.length c136] 24 (0, 0)), rowo A139 q131.2.2.2.length c140 27 1 cells143, rowo A150 z146.length c151 58 4 cells153]) e286 ts27 rfl rfl rfl rfl 0 rfl rfl (show Cat (Kind.int .i64) _ [] [] from rfl) (Fsl.mono (PH.le_trans l134 l148) h124) rfl trivial ?_
                  intro A289 c290 cells291 h292
                  refine StD.next hcl287 (fun _ => (Among.of (Among.take 1 rfl rfl (Among.take 1 rfl rfl (Among.take 1 rfl rfl (Among.take 1 rfl rfl (Among.take 1 rfl rfl Among.none))))))) ?_
                  refine StD.only (i := 3) rfl (by kernel_rfl) (listed' := #[true, true, true, true, false, true, true, false, false, false]) rfl ?_
                  intro hcl294
                  refine St.buildSlice (e := 3) (cells := #[.int .i64 0]) (vs := #[(0, .int .i64 0)]) (fun a _ => by simp only [List.map_toArray, List.map_cons, List.map_nil, Act.eval] <;> rfl) (fun _ => by kernel_rfl) rfl trivial ?_
                  intro b295
                  refine StD.next hcl294 (fun _ => (Among.of (Among.take 2 rfl rfl (Among.take 2 rfl rfl (Among.take 2 rfl rfl (Among.take 2 rfl rfl (Among.take 2 rfl rfl Among.none))))))) ?_
                  refine StD.only (i := 4) rfl (by kernel_rfl) (listed' := #[true, true, true, true, true, true, true, false, false, false]) rfl ?_
                  intro hcl296
                  obtain ⟨x301, e302, hm⟩ := bS hm
                  refine St.pushL (R := [blk b295 (.cells #[.int .i64 0] 3 (0, 0)), blk pbl0 (.cells #[.slice A139 q131.2.2.2.length c140] 31 (0, 0)), blk b67 (.cells #[.slice A122 s105.2.2.1.length c123, .int .i64 s105.2.2.2.1, .int .i64 s105.2.2.2.2.1, .slice A126 s105.2.2.2.2.2.length c127] 58 (0, 0)), blk b145 (.cells #[.int .i64 q131.2.1.N, .slice A135 q131.2.1.Kids.length c136] 24 (0, 0)), rowo A139 q131.2.2.2.length c140 27 1 cells143, rowo A150 z146.length c151 58 4 cells153]) (R3 := [blk pbl0 (.cells #[.slice A139 q131.2.2.2.length c140] 31 (0, 0)), blk b67 (.cells #[.slice A122 s105.2.2.1.length c123, .int .i64 s105.2.2.2.1, .int .i64 s105.2.2.2.2.1, .slice A126 s105.2.2.2.2.2.length c127] 58 (0, 0)), blk b145 (.cells #[.int .i64 q131.2.1.N, .slice A135 q131.2.1.Kids.length c136] 24 (0, 0)), rowo A139 q131.2.2.2.length c140 27 1 cells143, rowo A150 z146.length c151 58 4 cells153]) e302 ts27 rfl rfl rfl rfl rfl 1 rfl rfl 0 rfl 0 rfl rfl h292 ⟨[.int .i64 0], _, rfl, rfl, rfl⟩ rfl trivial ?_
                  intro A297 c298 cells299 h300
                  refine StD.next hcl296 (fun _ => (Among.of (Among.take 1 rfl rfl (Among.take 1 rfl rfl (Among.take 1 rfl rfl (Among.take 1 rfl rfl (Among.take 1 rfl rfl Among.none))))))) ?_
                  refine StD.only (i := 7) rfl (by kernel_rfl) (listed' := #[true, true, true, true, true, true, true, true, false, false]) rfl ?_
                  intro hcl304
                  obtain ⟨q305, e306, hm⟩ := bS hm
                  refine St.call [rowo A297 x301.length c298 3 1 cells299, blk pbl0 (.cells #[.slice A139 q131.2.2.2.length c140] 31 (0, 0)), blk b67 (.cells #[.slice A122 s105.2.2.1.length c123, .int .i64 s105.2.2.2.1, .int .i64 s105.2.2.2.2.1, .slice A126 s105.2.2.2.2.2.length c127] 58 (0, 0)), blk b145 (.cells #[.int .i64 q131.2.1.N, .slice A135 q131.2.1.Kids.length c136] 24 (0, 0)), rowo A139 q131.2.2.2.length c140 27 1 cells143, rowo A150 z146.length c151 58 4 cells153] (m_search_below_sp (a0 := q131.2.1) (Fsl.mono l148 h137) e306) rfl (fun _ ha => ev2 ha rfl rfl) rfl en19 rfl rfl trivial ?_
                  rintro _ F307 _ ⟨A309, c310, rfl, h311, rfl⟩ l308
                  refine StD.next hcl304 (fun h => by cases h) ?_
                  refine StD.takeP (i := 8) (v := (.agg #[.slice A297 x301.length c298, .int .i64 0, .int .i64 q305.N, .slice A309 q305.Kids.length c310])) rfl (fun _ => Yields.build (v := (.agg #[.slice A297 x301.length c298, .int .i64 0, .int .i64 q305.N, .slice A309 q305.Kids.length c310])) (vs := #[(0, .slice A297 x301.length c298), (2, .agg #[.int .i64 q305.N, .slice A309 q305.Kids.length c310])]) (fun _ ha => evp2 ha rfl rfl) (fun _ => by kernel_rfl)) rfl rfl trivial (by rintro _ _ _ ⟨_, _, _, _, h, _⟩; cases h) (by kernel_rfl) (listed' := #[true, true, true, true, true, true, true, true, true, false]) rfl ?_
                  refine StD.only (i := 9) rfl (by kernel_rfl) (listed' := #[true, true, true, true, true, true, true, true, true, true]) rfl ?_
                  intro hcl313
                  refine St.storen (R := [rowo A297 x301.length c298 3 1 cells299, blk pbl0 (.cells #[.slice A139 q131.2.2.2.length c140] 31 (0, 0)), blk b145 (.cells #[.int .i64 q131.2.1.N, .slice A135 q131.2.1.Kids.length c136] 24 (0, 0)), rowo A139 q131.2.2.2.length c140 27 1 cells143, rowo A150 z146.length c151 58 4 cells153]) rfl rfl 2 rfl rfl ta58 rfl rfl rfl trivial (cs' := #[.slice A297 x301.length c298, .int .i64 0, .int .i64 q305.N, .slice A309 q305.Kids.length c310]) rfl ?_
                  refine StD.next hcl313 (fun h => by cases h) ?_
                  refine StD.done (by kernel_rfl) ?_
                  refine St.innorm ?_
                  refine St.norm ?_
                  refine St.frz 1 rfl rfl rfl (Cat.mono l308 h300) (Bnd.of_push e302) ?_
                  intro F314 l315 h316
                  obtain rfl := sI hm
                  intro a w ha hs
                  exact ⟨(q131.2.2.2, z146, x301, (0 : Int), q305.N, q305.Kids), aL ho108, A139, c140, cells143, A150, c151, cells153, A297, c298, A309, c310, F314, (PH.le_trans l130 (PH.le_trans l134 (PH.le_trans l148 (PH.le_trans l308 l315)))), (Cat.mono (PH.le_trans l148 (PH.le_trans l308 l315)) h141), b144, (Cat.mono (PH.le_trans l308 l315) h152), b154, h316, (Fsl.mono l315 h311), ha.covers ⟨rfl, rfl, rfl, rfl, trivial⟩, (Among.of (Among.take 1 rfl rfl (Among.take 0 rfl rfl (Among.take 1 rfl rfl (Among.take 1 rfl rfl Among.none)))) _ hs)⟩
                · intro hcl317
                  refine St.buildSlice (e := 3) (cells := #[.int .i64 0]) (vs := #[(0, .int .i64 0)]) (fun a _ => by simp only [List.map_toArray, List.map_cons, List.map_nil, Act.eval] <;> rfl) (fun _ => by kernel_rfl) rfl trivial ?_
                  intro b318
                  refine StD.next hcl317 (fun _ => (Among.of (Among.take 1 rfl rfl (Among.take 1 rfl rfl (Among.take 1 rfl rfl (Among.take 1 rfl rfl (Among.take 1 rfl rfl Among.none))))))) ?_
                  refine StD.only (i := 2) rfl (by kernel_rfl) (listed' := #[true, true, true, true, false, true, true, false, false, false]) rfl ?_
                  intro hcl319
                  refine St.rowo_new 3 1 ?_
                  refine St.pushS (R := [blk b318 (.cells #[.int .i64 0] 3 (0, 0)), blk pbl0 (.cells #[.slice A139 q131.2.2.2.length c140] 31 (0, 0)), blk b67 (.cells #[.slice A122 s105.2.2.1.length c123, .int .i64 s105.2.2.2.1, .int .i64 s105.2.2.2.2.1, .slice A126 s105.2.2.2.2.2.length c127] 58 (0, 0)), blk b145 (.cells #[.int .i64 q131.2.1.N, .slice A135 q131.2.1.Kids.length c136] 24 (0, 0)), rowo A139 q131.2.2.2.length c140 27 1 cells143, rowo A150 z146.length c151 58 4 cells153]) e286 ts27 rfl rfl rfl rfl 0 rfl rfl (show Cat (Kind.int .i64) _ [] [] from rfl) (Fsl.mono (PH.le_trans l134 l148) h124) rfl trivial ?_
                  intro A321 c322 cells323 h324
                  refine StD.next hcl319 (fun _ => (Among.of (Among.take 2 rfl rfl (Among.take 2 rfl rfl (Among.take 2 rfl rfl (Among.take 2 rfl rfl (Among.take 2 rfl rfl Among.none))))))) ?_
                  refine StD.only (i := 4) rfl (by kernel_rfl) (listed' := #[true, true, true, true, true, true, true, false, false, false]) rfl ?_
                  intro hcl326
                  obtain ⟨x331, e332, hm⟩ := bS hm
                  refine St.pushL (R := [blk b318 (.cells #[.int .i64 0] 3 (0, 0)), blk pbl0 (.cells #[.slice A139 q131.2.2.2.length c140] 31 (0, 0)), blk b67 (.cells #[.slice A122 s105.2.2.1.length c123, .int .i64 s105.2.2.2.1, .int .i64 s105.2.2.2.2.1, .slice A126 s105.2.2.2.2.2.length c127] 58 (0, 0)), blk b145 (.cells #[.int .i64 q131.2.1.N, .slice A135 q131.2.1.Kids.length c136] 24 (0, 0)), rowo A139 q131.2.2.2.length c140 27 1 cells143, rowo A150 z146.length c151 58 4 cells153]) (R3 := [blk pbl0 (.cells #[.slice A139 q131.2.2.2.length c140] 31 (0, 0)), blk b67 (.cells #[.slice A122 s105.2.2.1.length c123, .int .i64 s105.2.2.2.1, .int .i64 s105.2.2.2.2.1, .slice A126 s105.2.2.2.2.2.length c127] 58 (0, 0)), blk b145 (.cells #[.int .i64 q131.2.1.N, .slice A135 q131.2.1.Kids.length c136] 24 (0, 0)), rowo A139 q131.2.2.2.length c140 27 1 cells143, rowo A150 z146.length c151 58 4 cells153]) e332 ts27 rfl rfl rfl rfl rfl 0 rfl rfl 1 rfl 0 rfl rfl h324 ⟨[.int .i64 0], _, rfl, rfl, rfl⟩ rfl trivial ?_
                  intro A327 c328 cells329 h330
                  refine StD.next hcl326 (fun _ => (Among.of (Among.take 1 rfl rfl (Among.take 1 rfl rfl (Among.take 1 rfl rfl (Among.take 1 rfl rfl (Among.take 1 rfl rfl Among.none))))))) ?_
                  refine StD.only (i := 7) rfl (by kernel_rfl) (listed' := #[true, true, true, true, true, true, true, true, false, false]) rfl ?_
                  intro hcl334
                  obtain ⟨q335, e336, hm⟩ := bS hm
                  refine St.call [rowo A327 x331.length c328 3 1 cells329, blk pbl0 (.cells #[.slice A139 q131.2.2.2.length c140] 31 (0, 0)), blk b67 (.cells #[.slice A122 s105.2.2.1.length c123, .int .i64 s105.2.2.2.1, .int .i64 s105.2.2.2.2.1, .slice A126 s105.2.2.2.2.2.length c127] 58 (0, 0)), blk b145 (.cells #[.int .i64 q131.2.1.N, .slice A135 q131.2.1.Kids.length c136] 24 (0, 0)), rowo A139 q131.2.2.2.length c140 27 1 cells143, rowo A150 z146.length c151 58 4 cells153] (m_search_below_sp (a0 := q131.2.1) (Fsl.mono l148 h137) e336) rfl (fun _ ha => ev2 ha rfl rfl) rfl en19 rfl rfl trivial ?_
                  rintro _ F337 _ ⟨A339, c340, rfl, h341, rfl⟩ l338
                  refine StD.next hcl334 (fun h => by cases h) ?_
                  refine StD.takeP (i := 8) (v := (.agg #[.slice A327 x331.length c328, .int .i64 0, .int .i64 q335.N, .slice A339 q335.Kids.length c340])) rfl (fun _ => Yields.build (v := (.agg #[.slice A327 x331.length c328, .int .i64 0, .int .i64 q335.N, .slice A339 q335.Kids.length c340])) (vs := #[(0, .slice A327 x331.length c328), (2, .agg #[.int .i64 q335.N, .slice A339 q335.Kids.length c340])]) (fun _ ha => evp2 ha rfl rfl) (fun _ => by kernel_rfl)) rfl rfl trivial (by rintro _ _ _ ⟨_, _, _, _, h, _⟩; cases h) (by kernel_rfl) (listed' := #[true, true, true, true, true, true, true, true, true, false]) rfl ?_
                  refine StD.only (i := 9) rfl (by kernel_rfl) (listed' := #[true, true, true, true, true, true, true, true, true, true]) rfl ?_
                  intro hcl343
                  refine St.storen (R := [rowo A327 x331.length c328 3 1 cells329, blk pbl0 (.cells #[.slice A139 q131.2.2.2.length c140] 31 (0, 0)), blk b145 (.cells #[.int .i64 q131.2.1.N, .slice A135 q131.2.1.Kids.length c136] 24 (0, 0)), rowo A139 q131.2.2.2.length c140 27 1 cells143, rowo A150 z146.length c151 58 4 cells153]) rfl rfl 2 rfl rfl ta58 rfl rfl rfl trivial (cs' := #[.slice A327 x331.length c328, .int .i64 0, .int .i64 q335.N, .slice A339 q335.Kids.length c340]) rfl ?_
                  refine StD.next hcl343 (fun h => by cases h) ?_
                  refine StD.done (by kernel_rfl) ?_
                  refine St.innorm ?_
                  refine St.norm ?_
                  refine St.frz 1 rfl rfl rfl (Cat.mono l338 h330) (Bnd.of_push e332) ?_
                  intro F344 l345 h346
                  obtain rfl := sI hm
                  intro a w ha hs
                  exact ⟨(q131.2.2.2, z146, x331, (0 : Int), q335.N, q335.Kids), aL ho108, A139, c140, cells143, A150, c151, cells153, A327, c328, A339, c340, F344, (PH.le_trans l130 (PH.le_trans l134 (PH.le_trans l148 (PH.le_trans l338 l345)))), (Cat.mono (PH.le_trans l148 (PH.le_trans l338 l345)) h141), b144, (Cat.mono (PH.le_trans l338 l345) h152), b154, h346, (Fsl.mono l345 h341), ha.covers ⟨rfl, rfl, rfl, rfl, trivial⟩, (Among.of (Among.take 1 rfl rfl (Among.take 0 rfl rfl (Among.take 1 rfl rfl (Among.take 1 rfl rfl Among.none)))) _ hs)⟩
      · intro q347
        replace q347 : ¬ (((s32.2.length : Nat) : Int) > 0) := of_decide_eq_false q347
        replace hm := iF hm q347
        refine St.exit ?_
        refine St.thenexit ?_
        refine St.thenexit ?_
        refine St.inexit ?_
        obtain rfl := sI hm
        obtain rfl := aR ho35
        intro a w ha hs
        exact ⟨s32.1, rfl, A37, c38, cells40, F48, l49, h39, b41, ha.covers trivial, (Among.of (Among.take 0 rfl rfl (Among.take 0 rfl rfl Among.none)) _ hs)⟩
  · rintro a w ⟨z6, rfl, A10, c11, cells13, F7, l8, h12, b14, ha, hs⟩
    replace hm := aL ho16
    refine St.use (?_ : St _ _ _ _ _ _) ha hs
    clear ha hs a w
    refine St.seq ?_
    refine St.region ?_
    refine St.val (v := (.bool false)) (Yields.assign rfl) trivial rfl rfl ?_
    refine St.nil ?_
    refine St.norm ?_
    refine St.ret ?_
    obtain rfl := sI hm
    exact St.doneR1 rfl rfl ⟨A10, c11, cells13, rfl, h12, b14, rfl⟩ (fun w hs => Among.of (Among.take 0 rfl rfl (Among.take 0 rfl rfl Among.none)) w hs)

theorem m_api_STree_3_sp {F : PH} {g : Nat} {a0 : Int} {a1 : DSTree} {a2 : List (List Int)} {pbl0 : Nat} {pA1_0 : Option Addr} {pc1_0 : Nat} {pA2 : Option Addr} {pc2 : Nat} {pcl2 : List Value} (ph1_0 : Fsl 32 KDSTree F pA1_0 pc1_0 a1.Kids) (ph2 : Cat (Kind.sl 8 (Kind.int .i64)) F pcl2 a2) (pbd2 : Bnd 24 a2) {r : Bool × List (List Int)} (hm : m_api_STree_3 g a0 a1 a2 = some r) :
    CallSp Try.prog 17 #[.int .i64 a0, .agg #[.int .i64 a1.N, .slice pA1_0 a1.Kids.length pc1_0], .func (.func 22) #[] #[.pointer (some ⟨pbl0, 0, none⟩)], .func (.func 19) #[] #[]] F [blk pbl0 (.cells #[.slice pA2 a2.length pc2] 31 (0, 0)), rowo pA2 a2.length pc2 27 1 pcl2] (fun u F' H' => ∃ (G2 : Option Addr) (e2 : Nat) (gl2 : List Value), u = (.bool r.1) ∧ Cat (Kind.sl 8 (Kind.int .i64)) F' gl2 r.2 ∧ Bnd 24 r.2 ∧ H' = [blk pbl0 (.cells #[.slice G2 r.2.length e2] 31 (0, 0)), rowo G2 r.2.length e2 27 1 gl2]) := by
  unfold m_api_STree_3 at hm
  refine CallSp.enter (args := [.int .i64 a0, .agg #[.int .i64 a1.N, .slice pA1_0 a1.Kids.length pc1_0], .func (.func 22) #[] #[.pointer (some ⟨pbl0, 0, none⟩)], .func (.func 19) #[] #[]]) Try.func17 rfl rfl ?_
  intro w0 m0 hm0
  refine St.seq ?_
  refine St.region ?_
  refine St.box rfl trivial rfl ?_
  intro b3
  refine St.val (v := (.bool false)) (Yields.assign rfl) trivial rfl rfl ?_
  refine St.nil ?_
  refine St.norm ?_
  refine St.seq ?_
  refine St.seq ?_
  refine St.region ?_
  refine St.val (v := (.int .i64 a0)) (Yields.move rfl) trivial rfl rfl ?_
  refine St.val (v := (.bool (decide (a0 = 4)))) (Yields.eq rfl rfl) trivial rfl rfl ?_
  refine St.nil ?_
  refine St.norm ?_
  refine St.cond_b rfl ?_ ?_
  · intro q4
    replace q4 : a0 = 4 := of_decide_eq_true q4
    replace hm := iT hm q4
    refine St.seq ?_
    refine St.region ?_
    refine St.val (v := (.agg #[.int .i64 a1.N, .slice pA1_0 a1.Kids.length pc1_0])) (Yields.load rfl (Loads.Hk (vs := [.int .i64 a1.N, .slice pA1_0 a1.Kids.length pc1_0]) 0 rfl ta24 rfl rfl)) trivial rfl rfl ?_
    refine St.val (v := (.func (.func 22) #[] #[.pointer (some ⟨pbl0, 0, none⟩)])) (Yields.move rfl) trivial rfl rfl ?_
    refine St.val (v := (.func (.func 19) #[] #[])) (Yields.move rfl) trivial rfl rfl ?_
    refine St.pick (R := [blk b3 (.cells #[.int .i64 a1.N, .slice pA1_0 a1.Kids.length pc1_0] 24 (0, 0)), blk pbl0 (.cells #[.slice pA2 a2.length pc2] 31 (0, 0))]) 2 rfl rfl ?_
    refine St.pick (R := [rowo pA2 a2.length pc2 27 1 pcl2, blk b3 (.cells #[.int .i64 a1.N, .slice pA1_0 a1.Kids.length pc1_0] 24 (0, 0))]) 2 rfl rfl ?_
    obtain ⟨q5, e6, hm⟩ := bS hm
    refine St.call [blk b3 (.cells #[.int .i64 a1.N, .slice pA1_0 a1.Kids.length pc1_0] 24 (0, 0))] (m_api_STree_4_sp (a0 := a1) ph1_0 ph2 pbd2 e6) rfl (fun _ ha => ev3 ha rfl rfl rfl) rfl en28 rfl rfl trivial ?_
    rintro _ F7 _ ⟨A9, c10, cells13, rfl, h11, b14, rfl⟩ l8
    refine St.val (v := (.bool q5.1)) (Yields.assign rfl) trivial rfl rfl ?_
    refine St.nil ?_
    refine St.norm ?_
    refine St.ret ?_
    refine St.thenret ?_
    obtain rfl := sI hm
    exact St.doneR1 rfl rfl ⟨A9, c10, cells13, rfl, h11, b14, rfl⟩ (fun w hs => Among.of (Among.take 0 rfl rfl (Among.take 0 rfl rfl Among.none)) w hs)
  · intro q15
    replace q15 : ¬ (a0 = 4) := of_decide_eq_false q15
    replace hm := iF hm q15
    refine St.skip ?_
    refine St.norm ?_
    refine St.seq ?_
    refine St.region ?_
    obtain ⟨q16, e17, hm⟩ := bS hm
    refine St.call [blk b3 (.cells #[.int .i64 a1.N, .slice pA1_0 a1.Kids.length pc1_0] 24 (0, 0)), blk pbl0 (.cells #[.slice pA2 a2.length pc2] 31 (0, 0)), rowo pA2 a2.length pc2 27 1 pcl2] (m_search_ranks_sp e17) rfl (fun _ _ => ev0) rfl en29 rfl rfl trivial ?_
    rintro _ F18 _ ⟨bl20, vs22, rfl, h23, b24, rfl⟩ l19
    refine St.val (v := (.int .i64 a0)) (Yields.move rfl) trivial rfl rfl ?_
    obtain ⟨f25, e26, hm⟩ := bS hm
    have h27 := FnIn.get b24 e26
    refine St.val (v := (.func (.func f25) #[] #[])) (Yields.lookf h23 e26 rfl rfl 0 rfl tm51 tk51 tz50) trivial rfl rfl ?_
    refine St.val (v := (.agg #[.slice none 0 0, .func (.func f25) #[] #[]])) (Yields.build (v := (.agg #[.slice none 0 0, .func (.func f25) #[] #[]])) (vs := #[(1, .func (.func f25) #[] #[])]) (fun _ ha => evp1 ha rfl) (fun _ => by kernel_rfl)) trivial rfl rfl ?_
    refine St.box rfl trivial rfl ?_
    intro b28
    refine St.val (v := (.pointer (some ⟨b28, 0, none⟩))) (Yields.assign rfl) trivial rfl rfl ?_
    refine St.nil ?_
    refine St.norm ?_
    refine St.seq ?_
    refine St.region ?_
    refine St.val (v := (.pointer (some ⟨b28, 0, none⟩))) (Yields.move rfl) trivial rfl rfl ?_
    refine St.val (v := (.iface 49 (.pointer (some ⟨b28, 0, none⟩)))) (Yields.makeInterface tp49 rfl) trivial rfl rfl ?_
    refine St.val (v := (.agg #[.int .i64 a1.N, .slice pA1_0 a1.Kids.length pc1_0])) (Yields.load rfl (Loads.Hk (vs := [.int .i64 a1.N, .slice pA1_0 a1.Kids.length pc1_0]) 2 rfl ta24 rfl rfl)) trivial rfl rfl ?_
    refine St.val (v := (.agg #[.slice none 0 0, .int .i64 0, .int .i64 a1.N, .slice pA1_0 a1.Kids.length pc1_0])) (Yields.build (v := (.agg #[.slice none 0 0, .int .i64 0, .int .i64 a1.N, .slice pA1_0 a1.Kids.length pc1_0])) (vs := #[(2, .agg #[.int .i64 a1.N, .slice pA1_0 a1.Kids.length pc1_0])]) (fun _ ha => evp1 ha rfl) (fun _ => by kernel_rfl)) trivial rfl rfl ?_
    refine St.val (v := (.iface 58 (.agg #[.slice none 0 0, .int .i64 0, .int .i64 a1.N, .slice pA1_0 a1.Kids.length pc1_0]))) (Yields.makeInterface tp58 rfl) trivial rfl rfl ?_
    refine St.rowo_new 58 4 ?_
    refine St.pick (R := [blk b28 (.cells #[.slice none ([] : List DPlace).length 0, .func (.func f25) #[] #[]] 55 (0, 0)), mapv keyInt bl20 vs22, blk b3 (.cells #[.int .i64 a1.N, .slice pA1_0 a1.Kids.length pc1_0] 24 (0, 0)), blk pbl0 (.cells #[.slice pA2 a2.length pc2] 31 (0, 0)), rowo pA2 a2.length pc2 27 1 pcl2]) 0 rfl rfl ?_
    refine St.pick (R := [rowo none ([] : List DPlace).length 0 58 4 [], mapv keyInt bl20 vs22, blk b3 (.cells #[.int .i64 a1.N, .slice pA1_0 a1.Kids.length pc1_0] 24 (0, 0)), blk pbl0 (.cells #[.slice pA2 a2.length pc2] 31 (0, 0)), rowo pA2 a2.length pc2 27 1 pcl2]) 1 rfl rfl ?_
    obtain ⟨q30, e31, hm⟩ := bS hm
    refine St.call [mapv keyInt bl20 vs22, blk b3 (.cells #[.int .i64 a1.N, .slice pA1_0 a1.Kids.length pc1_0] 24 (0, 0)), blk pbl0 (.cells #[.slice pA2 a2.length pc2] 31 (0, 0)), rowo pA2 a2.length pc2 27 1 pcl2] (m_heap_Push_sp (a0 := (DPlace.mk ([] : List Int) 0 a1)) Fsl.nil (Fsl.mono l19 ph1_0) (show Cat KDPlace _ [] [] from rfl) Bnd.of_nil h27 e31) rfl (fun _ ha => ev2 ha rfl rfl) rfl en30 rfl rfl trivial ?_
    rintro _ F32 _ ⟨A34, c35, cells38, rfl, h36, b39, rfl⟩ l33
    refine St.nil ?_
    refine St.norm ?_
    obtain ⟨o49, hm, ho50⟩ := jS hm
    refine St.cutI (fun a w => ∃ z40 : List (List Int), o49 = .inl z40 ∧ ∃ (A44 : Option Addr) (c45 : Nat) (cells47 : List Value) (F41 : PH), PH.le F32 F41 ∧ Cat (Kind.sl 8 (Kind.int .i64)) F41 cells47 z40 ∧ Bnd 24 z40 ∧ Has Try.f17.ntmps a [] ∧ Sat ⟨w0, fun b => m0 b ≠ none, F⟩ F41 [blk pbl0 (.cells #[.slice A44 z40.length c45] 31 (0, 0)), rowo A44 z40.length c45 27 1 cells47] w) ?_ ?_
    · skip
      refine St.block ?_
      refine St.loopM hm (fun s66 a w => ∃ (A71 : Option Addr) (c72 : Nat) (cells74 : List Value) (A77 : Option Addr) (c78 : Nat) (cells80 : List Value) (F82 : PH), PH.le F32 F82 ∧ Cat (Kind.sl 8 (Kind.int .i64)) F82 cells74 s66.1 ∧ Bnd 24 s66.1 ∧ Cat KDPlace F82 cells80 s66.2 ∧ Bnd 64 s66.2 ∧ Has Try.f17.ntmps a [(2, .func (.func 22) #[] #[.pointer (some ⟨pbl0, 0, none⟩)]), (3, .func (.func 19) #[] #[]), (9, .pointer (some ⟨b28, 0, none⟩))] ∧ Sat ⟨w0, fun b => m0 b ≠ none, F⟩ F82 [blk pbl0 (.cells #[.slice A71 s66.1.length c72] 31 (0, 0)), blk b28 (.cells #[.slice A77 s66.2.length c78, .func (.func f25) #[] #[]] 55 (0, 0)), rowo A71 s66.1.length c72 27 1 cells74, rowo A77 s66.2.length c78 58 4 cells80] w) ?_ ?_
      · skip
        intro a w ha hs
        exact ⟨pA2, pc2, pcl2, A34, c35, cells38, F32, (PH.le_refl _), (Cat.mono (PH.le_trans l19 l33) ph2), pbd2, h36, b39, ha.covers ⟨rfl, rfl, rfl, trivial⟩, (Among.of (Among.take 4 rfl rfl (Among.take 0 rfl rfl (Among.take 3 rfl rfl (Among.take 0 rfl rfl Among.none)))) _ hs)⟩
      · rintro s66 o67 co68 hm ho69 a w ⟨A71, c72, cells74, A77, c78, cells80, F82, l83, h73, b75, h79, b81, ha, hs⟩
        refine St.use (?_ : St _ _ _ _ _ _) ha hs
        clear ha hs a w
        refine St.seq ?_
        refine St.seq ?_
        refine St.region ?_
        refine St.val (v := (.pointer (some ⟨b28, 0, none⟩))) (Yields.move rfl) trivial rfl rfl ?_
        refine St.pick (R := [blk pbl0 (.cells #[.slice A71 s66.1.length c72] 31 (0, 0)), blk b28 (.cells #[.slice A77 s66.2.length c78, .func (.func f25) #[] #[]] 55 (0, 0)), rowo A71 s66.1.length c72 27 1 cells74]) 3 rfl rfl ?_
        refine St.pick (R := [rowo A77 s66.2.length c78 58 4 cells80, blk pbl0 (.cells #[.slice A71 s66.1.length c72] 31 (0, 0)), rowo A71 s66.1.length c72 27 1 cells74]) 2 rfl rfl ?_
        obtain ⟨q84, e85, hm⟩ := bS hm
        refine St.call [blk pbl0 (.cells #[.slice A71 s66.1.length c72] 31 (0, 0)), rowo A71 s66.1.length c72 27 1 cells74] (m_api_STree_Len_sp h79 b81 h27 e85) rfl (fun _ ha => ev1 ha rfl) rfl en31 rfl rfl trivial ?_
        rintro _ F86 _ ⟨rfl, rfl⟩ l87
        refine St.val (v := (.bool (decide (q84 > 0)))) (Yields.gt rfl rfl) trivial rfl rfl ?_
        refine St.nil ?_
        refine St.norm ?_
        refine St.cond_b rfl ?_ ?_
        · intro q88
          replace q88 : q84 > 0 := of_decide_eq_true q88
          replace hm := iT hm q88
          refine St.skip ?_
          refine St.norm ?_
          refine St.block ?_
          refine St.seq ?_
          refine St.region ?_
          refine St.val (v := (.pointer (some ⟨b28, 0, none⟩))) (Yields.move rfl) trivial rfl rfl ?_
          refine St.val (v := (.iface 49 (.pointer (some ⟨b28, 0, none⟩)))) (Yields.makeInterface tp49 rfl) trivial rfl rfl ?_
          refine St.pick (R := [blk b28 (.cells #[.slice A77 s66.2.length c78, .func (.func f25) #[] #[]] 55 (0, 0)), blk pbl0 (.cells #[.slice A71 s66.1.length c72] 31 (0, 0)), rowo A71 s66.1.length c72 27 1 cells74]) 1 rfl rfl ?_
          refine St.pick (R := [rowo A77 s66.2.length c78 58 4 cells80, blk pbl0 (.cells #[.slice A71 s66.1.length c72] 31 (0, 0)), rowo A71 s66.1.length c72 27 1 cells74]) 1 rfl rfl ?_
          obtain ⟨q89, e90, hm⟩ := bS hm
          refine St.call [blk pbl0 (.cells #[.slice A71 s66.1.length c72] 31 (0, 0)), rowo A71 s66.1.length c72 27 1 cells74] (m_heap_Pop_sp (Cat.mono l87 h79) b81 h27 e90) rfl (fun _ ha => ev1 ha rfl) rfl en32 rfl rfl trivial ?_
          rintro _ F91 _ ⟨A93, c94, A97, c98, A101, c102, cells105, rfl, h95, h99, h103, b106, rfl⟩ l92
          refine St.val (v := (.agg #[.slice A93 q89.1.l.length c94, .int .i64 q89.1.rank, .int .i64 q89.1.x.N, .slice A97 q89.1.x.Kids.length c98])) (Yields.typeAssert tp58 rfl) trivial rfl rfl ?_
          refine St.alloc tz58 trivial rfl ?_
          intro b107
          refine St.storen (R := [blk b28 (.cells #[.slice A101 q89.2.length c102, .func (.func f25) #[] #[]] 55 (0, 0)), rowo A101 q89.2.length c102 58 4 cells105, blk pbl0 (.cells #[.slice A71 s66.1.length c72] 31 (0, 0)), rowo A71 s66.1.length c72 27 1 cells74]) rfl rfl 0 rfl rfl ta58 rfl rfl rfl trivial (cs' := #[.slice A93 q89.1.l.length c94, .int .i64 q89.1.rank, .int .i64 q89.1.x.N, .slice A97 q89.1.x.Kids.length c98]) rfl ?_
          refine St.nil ?_
          refine St.norm ?_
          refine St.seq ?_
          refine St.region ?_
          refine St.val (v := (.func (.func 22) #[] #[.pointer (some ⟨pbl0, 0, none⟩)])) (Yields.move rfl) trivial rfl rfl ?_
          refine St.val (v := (.pointer (some ⟨b107, 0, none⟩))) (Yields.fieldAddr (v := (.pointer (some ⟨b107, 0, none⟩))) rfl (fun _ => by kernel_rfl)) trivial rfl rfl ?_
          refine St.val (v := (.slice A93 q89.1.l.length c94)) (Yields.load rfl (Loads.H1 0 rfl tc27 rfl)) trivial rfl rfl ?_
          refine St.val (v := (.pointer (some ⟨b107, 2, none⟩))) (Yields.fieldAddr (v := (.pointer (some ⟨b107, 2, none⟩))) rfl (fun _ => by kernel_rfl)) trivial rfl rfl ?_
          refine St.val (v := (.agg #[.int .i64 q89.1.x.N, .slice A97 q89.1.x.Kids.length c98])) (Yields.load rfl (Loads.Hk (vs := [.int .i64 q89.1.x.N, .slice A97 q89.1.x.Kids.length c98]) 0 rfl ta24 rfl rfl)) trivial rfl rfl ?_
          refine St.pick (R := [blk b107 (.cells #[.slice A93 q89.1.l.length c94, .int .i64 q89.1.rank, .int .i64 q89.1.x.N, .slice A97 q89.1.x.Kids.length c98] 58 (0, 0)), blk b28 (.cells #[.slice A101 q89.2.length c102, .func (.func f25) #[] #[]] 55 (0, 0)), rowo A101 q89.2.length c102 58 4 cells105, blk pbl0 (.cells #[.slice A71 s66.1.length c72] 31 (0, 0))]) 4 rfl rfl ?_
          refine St.pick (R := [rowo A71 s66.1.length c72 27 1 cells74, blk b107 (.cells #[.slice A93 q89.1.l.length c94, .int .i64 q89.1.rank, .int .i64 q89.1.x.N, .slice A97 q89.1.x.Kids.length c98] 58 (0, 0)), blk b28 (.cells #[.slice A101 q89.2.length c102, .func (.func f25) #[] #[]] 55 (0, 0)), rowo A101 q89.2.length c102 58 4 cells105]) 4 rfl rfl ?_
          obtain ⟨q108, e109, hm⟩ := bS hm
          refine St.call [blk b107 (.cells #[.slice A93 q89.1.l.length c94, .int .i64 q89.1.rank, .int .i64 q89.1.x.N, .slice A97 q89.1.x.Kids.length c98] 58 (0, 0)), blk b28 (.cells #[.slice A101 q89.2.length c102, .func (.func f25) #[] #[]] 55 (0, 0)), rowo A101 q89.2.length c102 58 4 cells105] (m_search_Places_f1_sp (a1 := q89.1.x) h95 h99 (Cat.mono (PH.le_trans l87 l92) h73) b75 e109) rfl (fun _ ha => ev2 ha rfl rfl) rfl en22 rfl rfl trivial ?_
          rintro _ F110 _ ⟨A112, c113, A116, c117, cells120, rfl, h114, h118, b121, rfl⟩ l111
          refine St.val (v := (.tuple #[.int .i64 q108.1, .agg #[.int .i64 q108.2.1.N, .slice A112 q108.2.1.Kids.length c113], .bool q108.2.2.1])) (Yields.move rfl) trivial rfl rfl ?_
          refine St.val (v := (.int .i64 q108.1)) (Yields.extract rfl rfl) trivial rfl rfl ?_
          refine St.val (v := (.agg #[.int .i64 q108.2.1.N, .slice A112 q108.2.1.Kids.length c113])) (Yields.extract rfl rfl) trivial rfl rfl ?_
          refine St.val (v := (.bool q108.2.2.1)) (Yields.extract rfl rfl) trivial rfl rfl ?_
          refine St.alloc tz24 trivial rfl ?_
          intro b122
          refine St.val (v := (.int .i64 q108.1)) (Yields.assign rfl) trivial rfl rfl ?_
          refine St.storen (R := [blk pbl0 (.cells #[.slice A116 q108.2.2.2.length c117] 31 (0, 0)), rowo A116 q108.2.2.2.length c117 27 1 cells120, blk b107 (.cells #[.slice A93 q89.1.l.length c94, .int .i64 q89.1.rank, .int .i64 q89.1.x.N, .slice A97 q89.1.x.Kids.length c98] 58 (0, 0)), blk b28 (.cells #[.slice A101 q89.2.length c102, .func (.func f25) #[] #[]] 55 (0, 0)), rowo A101 q89.2.length c102 58 4 cells105]) rfl rfl 0 rfl rfl ta24 rfl rfl rfl trivial (cs' := #[.int .i64 q108.2.1.N, .slice A112 q108.2.1.Kids.length c113]) rfl ?_
          refine St.val (v := (.bool q108.2.2.1)) (Yields.assign rfl) trivial rfl rfl ?_
          refine St.nil ?_
          refine St.norm ?_
          obtain ⟨z123, hm, hk132⟩ := bS hm
          refine St.cutI (fun a w => ∃ (A127 : Option Addr) (c128 : Nat) (cells130 : List Value) (F124 : PH), PH.le F110 F124 ∧ Cat KDPlace F124 cells130 z123 ∧ Bnd 64 z123 ∧ Has Try.f17.ntmps a [(2, .func (.func 22) #[] #[.pointer (some ⟨pbl0, 0, none⟩)]), (3, .func (.func 19) #[] #[]), (9, .pointer (some ⟨b28, 0, none⟩)), (13, .bool q108.2.2.1)] ∧ Sat ⟨w0, fun b => m0 b ≠ none, F⟩ F124 [blk pbl0 (.cells #[.slice A116 q108.2.2.2.length c117] 31 (0, 0)), blk b28 (.cells #[.slice A127 z123.length c128, .func (.func f25) #[] #[]] 55 (0, 0)), rowo A116 q108.2.2.2.length c117 27 1 cells120, rowo A127 z123.length c128 58 4 cells130] w) ?_ ?_
          · skip
            refine St.seq ?_
            refine St.region ?_
            refine St.val (v := (.int .i64 0)) (Yields.assign rfl) trivial rfl rfl ?_
            refine St.nil ?_
            refine St.norm ?_
            refine St.block ?_
            refine St.loopM hm (fun s151 a w => ∃ (A156 : Option Addr) (c157 : Nat) (cells159 : List Value) (F161 : PH), PH.le F110 F161 ∧ Cat KDPlace F161 cells159 s151.1 ∧ Bnd 64 s151.1 ∧ Has Try.f17.ntmps a [(2, .func (.func 22) #[] #[.pointer (some ⟨pbl0, 0, none⟩)]), (3, .func (.func 19) #[] #[]), (9, .pointer (some ⟨b28, 0, none⟩)), (10, .pointer (some ⟨b107, 0, none⟩)), (11, .int .i64 q108.1), (12, .pointer (some ⟨b122, 0, none⟩)), (13, .bool q108.2.2.1), (14, .int .i64 s151.2)] ∧ Sat ⟨w0, fun b => m0 b ≠ none, F⟩ F161 [blk pbl0 (.cells #[.slice A116 q108.2.2.2.length c117] 31 (0, 0)), blk b28 (.cells #[.slice A156 s151.1.length c157, .func (.func f25) #[] #[]] 55 (0, 0)), blk b107 (.cells #[.slice A93 q89.1.l.length c94, .int .i64 q89.1.rank, .int .i64 q89.1.x.N, .slice A97 q89.1.x.Kids.length c98] 58 (0, 0)), blk b122 (.cells #[.int .i64 q108.2.1.N, .slice A112 q108.2.1.Kids.length c113] 24 (0, 0)), rowo A116 q108.2.2.2.length c117 27 1 cells120, rowo A156 s151.1.length c157 58 4 cells159] w) ?_ ?_
            · skip
              intro a w ha hs
              exact ⟨A101, c102, cells105, F110, (PH.le_refl _), (Cat.mono l111 h103), b106, ha.covers ⟨rfl, rfl, rfl, rfl, rfl, rfl, rfl, rfl, trivial⟩, (Among.of (Among.take 1 rfl rfl (Among.take 3 rfl rfl (Among.take 2 rfl rfl (Among.take 0 rfl rfl (Among.take 0 rfl rfl (Among.take 0 rfl rfl Among.none)))))) _ hs)⟩
            · rintro s151 o152 co153 hm ho154 a w ⟨A156, c157, cells159, F161, l162, h158, b160, ha, hs⟩
              refine St.use (?_ : St _ _ _ _ _ _) ha hs
              clear ha hs a w
              refine St.seq ?_
              refine St.seq ?_
              refine St.region ?_
              refine St.val (v := (.int .i64 s151.2)) (Yields.move rfl) trivial rfl rfl ?_
              refine St.val (v := (.int .i64 q108.1)) (Yields.move rfl) trivial rfl rfl ?_
              refine St.val (v := (.bool (decide (s151.2 < q108.1)))) (Yields.lt rfl rfl) trivial rfl rfl ?_
              refine St.nil ?_
              refine St.norm ?_
              refine St.cond_b rfl ?_ ?_
              · intro q163
                replace q163 : s151.2 < q108.1 := of_decide_eq_true q163
                replace hm := iT hm q163
                refine St.skip ?_
                refine St.norm ?_
                refine St.seq ?_
                refine St.block ?_
                refine St.seq ?_
                refine St.region ?_
                refine St.val (v := (.pointer (some ⟨b107, 0, none⟩))) (Yields.fieldAddr (v := (.pointer (some ⟨b107, 0, none⟩))) rfl (fun _ => by kernel_rfl)) trivial rfl rfl ?_
                refine St.val (v := (.slice A93 q89.1.l.length c94)) (Yields.load rfl (Loads.H1 2 rfl tc27 rfl)) trivial rfl rfl ?_
                refine St.rowo_new 3 1 ?_
                obtain ⟨x169, e170, hm⟩ := bS hm
                refine St.pushS (R := [blk pbl0 (.cells #[.slice A116 q108.2.2.2.length c117] 31 (0, 0)), blk b28 (.cells #[.slice A156 s151.1.length c157, .func (.func f25) #[] #[]] 55 (0, 0)), blk b107 (.cells #[.slice A93 q89.1.l.length c94, .int .i64 q89.1.rank, .int .i64 q89.1.x.N, .slice A97 q89.1.x.Kids.length c98] 58 (0, 0)), blk b122 (.cells #[.int .i64 q108.2.1.N, .slice A112 q108.2.1.Kids.length c113] 24 (0, 0)), rowo A116 q108.2.2.2.length c117 27 1 cells120, rowo A156 s151.1.length c157 58 4 cells159]) e170 ts27 rfl rfl rfl rfl 0 rfl rfl (show Cat (Kind.int .i64) _ [] [] from rfl) (Fsl.mono (PH.le_trans l111 l162) h95) rfl trivial ?_
                intro A165 c166 cells167 h168
                refine St.val (v := (.int .i64 s151.2)) (Yields.move rfl) trivial rfl rfl ?_
                refine St.buildSlice (e := 3) (cells := #[.int .i64 s151.2]) (vs := #[(0, .int .i64 s151.2)]) (fun _ ha => evp1 ha rfl) (fun _ => by kernel_rfl) rfl trivial ?_
                intro b172
                obtain ⟨x177, e178, hm⟩ := bS hm
                refine St.pushL (R := [blk b172 (.cells #[.int .i64 s151.2] 3 (0, 0)), blk pbl0 (.cells #[.slice A116 q108.2.2.2.length c117] 31 (0, 0)), blk b28 (.cells #[.slice A156 s151.1.length c157, .func (.func f25) #[] #[]] 55 (0, 0)), blk b107 (.cells #[.slice A93 q89.1.l.length c94, .int .i64 q89.1.rank, .int .i64 q89.1.x.N, .slice A97 q89.1.x.Kids.length c98] 58 (0, 0)), blk b122 (.cells #[.int .i64 q108.2.1.N, .slice A112 q108.2.1.Kids.length c113] 24 (0, 0)), rowo A116 q108.2.2.2.length c117 27 1 cells120, rowo A156 s151.1.length c157 58 4 cells159]) (R3 := [blk pbl0 (.cells #[.slice A116 q108.2.2.2.length c117] 31 (0, 0)), blk b28 (.cells #[.slice A156 s151.1.length c157, .func (.func f25) #[] #[]] 55 (0, 0)), blk b107 (.cells #[.slice A93 q89.1.l.length c94, .int .i64 q89.1.rank, .int .i64 q89.1.x.N, .slice A97 q89.1.x.Kids.length c98] 58 (0, 0)), blk b122 (.cells #[.int .i64 q108.2.1.N, .slice A112 q108.2.1.Kids.length c113] 24 (0, 0)), rowo A116 q108.2.2.2.length c117 27 1 cells120, rowo A156 s151.1.length c157 58 4 cells159]) e178 ts27 rfl rfl rfl rfl rfl 1 rfl rfl 0 rfl 0 rfl rfl h168 ⟨[.int .i64 s151.2], _, rfl, rfl, rfl⟩ rfl trivial ?_
                intro A173 c174 cells175 h176
                refine St.val (v := (.slice A173 x177.length c174)) (Yields.assign rfl) trivial rfl rfl ?_
                refine St.nil ?_
                refine St.norm ?_
                refine StD.start [12, 15] [rowo A173 x177.length c174 3 1 cells175, blk pbl0 (.cells #[.slice A116 q108.2.2.2.length c117] 31 (0, 0)), blk b28 (.cells #[.slice A156 s151.1.length c157, .func (.func f25) #[] #[]] 55 (0, 0)), blk b107 (.cells #[.slice A93 q89.1.l.length c94, .int .i64 q89.1.rank, .int .i64 q89.1.x.N, .slice A97 q89.1.x.Kids.length c98] 58 (0, 0)), blk b122 (.cells #[.int .i64 q108.2.1.N, .slice A112 q108.2.1.Kids.length c113] 24 (0, 0)), rowo A116 q108.2.2.2.length c117 27 1 cells120, rowo A156 s151.1.length c157 58 4 cells159] hmix ?_
                refine StD.takeP (i := 0) (v := (.pointer (some ⟨b28, 0, none⟩))) rfl (fun _ => Yields.move rfl) rfl rfl trivial (by rintro _ _ _ ⟨_, _, _, _, h, _⟩; cases h) (by kernel_rfl) (listed' := #[true, false, false, false, false, false, false, false, false, false, false, false, false, false, false, false]) rfl ?_
                refine StD.takeP (i := 1) (v := (.iface 49 (.pointer (some ⟨b28, 0, none⟩)))) rfl (fun _ => Yields.makeInterface tp49 rfl) rfl rfl trivial (by rintro _ _ _ ⟨_, _, _, _, h, _⟩; cases h) (by kernel_rfl) (listed' := #[true, true, false, false, false, false, false, false, false, false, false, false, false, false, false, false]) rfl ?_
                refine StD.takeP (i := 2) (v := (.slice A173 x177.length c174)) rfl (fun _ => Yields.move rfl) rfl rfl trivial (by rintro _ _ _ ⟨_, _, _, _, h, _⟩; cases h) (by kernel_rfl) (listed' := #[true, true, true, false, false, false, false, false, false, false, false, false, false, false, false, false]) rfl ?_
                refine StD.takeP (i := 3) (v := (.pointer (some ⟨b28, 0, none⟩))) rfl (fun _ => Yields.move rfl) rfl rfl trivial (by rintro _ _ _ ⟨_, _, _, _, h, _⟩; cases h) (by kernel_rfl) (listed' := #[true, true, true, true, false, false, false, false, false, false, false, false, false, false, false, false]) rfl ?_
                refine StD.takeP (i := 4) (v := (.pointer (some ⟨b28, 0, none⟩))) rfl (fun _ => Yields.nilCheck rfl) rfl rfl trivial (by rintro _ _ _ ⟨_, _, _, _, h, _⟩; cases h) (by kernel_rfl) (listed' := #[true, true, true, true, true, false, false, false, false, false, false, false, false, false, false, false]) rfl ?_
                refine StD.takeP (i := 5) (v := (.pointer (some ⟨b28, 1, none⟩))) rfl (fun _ => Yields.fieldAddr (v := (.pointer (some ⟨b28, 1, none⟩))) rfl (fun _ => by kernel_rfl)) rfl rfl trivial (by rintro _ _ _ ⟨_, _, _, _, h, _⟩; cases h) (by kernel_rfl) (listed' := #[true, true, true, true, true, true, false, false, false, false, false, false, false, false, false, false]) rfl ?_
                refine StD.take [0, 1, 2, 3, 4, 5, 7, 9, 11, 13, 14] (i := 6) (v := (.func (.func f25) #[] #[])) rfl (Yields.load rfl (Loads.H1 2 rfl tc50 rfl)) rfl rfl trivial Among.refl (by rintro _ _ _ ⟨_, _, _, _, h, _⟩; cases h) (by kernel_rfl) (listed' := #[true, true, true, true, true, true, true, false, false, false, false, false, false, false, false, false]) rfl ?_
                refine StD.takeP (i := 7) (v := (.slice A173 x177.length c174)) rfl (fun _ => Yields.move rfl) rfl rfl trivial (by rintro _ _ _ ⟨_, _, _, _, h, _⟩; cases h) (by kernel_rfl) (listed' := #[true, true, true, true, true, true, true, true, false, false, false, false, false, false, false, false]) rfl ?_
                refine StD.takeP (i := 9) (v := (.func (.func 19) #[] #[])) rfl (fun _ => Yields.move rfl) rfl rfl trivial (by rintro _ _ _ ⟨_, _, _, _, h, _⟩; cases h) (by kernel_rfl) (listed' := #[true, true, true, true, true, true, true, true, false, true, false, false, false, false, false, false]) rfl ?_
                refine StD.take [0, 1, 2, 3, 4, 5, 7, 9, 11, 13, 14] (i := 10) (v := (.agg #[.int .i64 q108.2.1.N, .slice A112 q108.2.1.Kids.length c113])) rfl (Yields.load rfl (Loads.Hk (vs := [.int .i64 q108.2.1.N, .slice A112 q108.2.1.Kids.length c113]) 4 rfl ta24 rfl rfl)) rfl rfl trivial Among.refl (by rintro _ _ _ ⟨_, _, _, _, h, _⟩; cases h) (by kernel_rfl) (listed' := #[true, true, true, true, true, true, true, true, false, true, true, false, false, false, false, false]) rfl ?_
                refine StD.takeP (i := 11) (v := (.int .i64 s151.2)) rfl (fun _ => Yields.move rfl) rfl rfl trivial (by rintro _ _ _ ⟨_, _, _, _, h, _⟩; cases h) (by kernel_rfl) (listed' := #[true, true, true, true, true, true, true, true, false, true, true, true, false, false, false, false]) rfl ?_
                refine StD.only (i := 8) rfl (by kernel_rfl) (listed' := #[true, true, true, true, true, true, true, true, true, true, true, true, false, false, false, false]) rfl ?_
                intro hcl180
                refine St.pick (R := [blk pbl0 (.cells #[.slice A116 q108.2.2.2.length c117] 31 (0, 0)), blk b28 (.cells #[.slice A156 s151.1.length c157, .func (.func f25) #[] #[]] 55 (0, 0)), blk b107 (.cells #[.slice A93 q89.1.l.length c94, .int .i64 q89.1.rank, .int .i64 q89.1.x.N, .slice A97 q89.1.x.Kids.length c98] 58 (0, 0)), blk b122 (.cells #[.int .i64 q108.2.1.N, .slice A112 q108.2.1.Kids.length c113] 24 (0, 0)), rowo A116 q108.2.2.2.length c117 27 1 cells120, rowo A156 s151.1.length c157 58 4 cells159]) 0 rfl rfl ?_
                obtain ⟨q181, e182, hm⟩ := bS hm
                refine St.call [blk pbl0 (.cells #[.slice A116 q108.2.2.2.length c117] 31 (0, 0)), blk b28 (.cells #[.slice A156 s151.1.length c157, .func (.func f25) #[] #[]] 55 (0, 0)), blk b107 (.cells #[.slice A93 q89.1.l.length c94, .int .i64 q89.1.rank, .int .i64 q89.1.x.N, .slice A97 q89.1.x.Kids.length c98] 58 (0, 0)), blk b122 (.cells #[.int .i64 q108.2.1.N, .slice A112 q108.2.1.Kids.length c113] 24 (0, 0)), rowo A116 q108.2.2.2.length c117 27 1 cells120, rowo A156 s151.1.length c157 58 4 cells159] (CallSp.lend (Hl := [rowo A173 x177.length c174 3 1 cells175]) (fun m_ hm_ hd_ h1_ h2_ => (m_table1_sp h27 (lentR hm_ 0 rfl rfl h176 (Bnd.of_push e178) h1_ h2_) e182).mono (fun _ _ _ h_ _ _ => h_))) rfl (fun _ ha => ev1 ha rfl) rfl (m_table1_en h27) rfl rfl trivial ?_
                rintro _ F183 _ ⟨_, rfl, rfl, rfl⟩ l184
                refine StD.next hcl180 (fun _ => (Among.of_le l184 (PH.le_trans l19 (PH.le_trans l33 (PH.le_trans l83 (PH.le_trans l87 (PH.le_trans l92 (PH.le_trans l111 l162)))))) (Among.take 0 rfl rfl (Among.take 0 rfl rfl (Among.take 0 rfl rfl (Among.take 0 rfl rfl (Among.take 0 rfl rfl (Among.take 0 rfl rfl (Among.take 0 rfl rfl Among.none))))))))) ?_
                refine StD.only (i := 12) rfl (by kernel_rfl) (listed' := #[true, true, true, true, true, true, true, true, true, true, true, true, true, false, false, false]) rfl ?_
                intro hcl185
                obtain ⟨q186, e187, hm⟩ := bS hm
                refine St.call [rowo A173 x177.length c174 3 1 cells175, blk pbl0 (.cells #[.slice A116 q108.2.2.2.length c117] 31 (0, 0)), blk b28 (.cells #[.slice A156 s151.1.length c157, .func (.func f25) #[] #[]] 55 (0, 0)), blk b107 (.cells #[.slice A93 q89.1.l.length c94, .int .i64 q89.1.rank, .int .i64 q89.1.x.N, .slice A97 q89.1.x.Kids.length c98] 58 (0, 0)), blk b122 (.cells #[.int .i64 q108.2.1.N, .slice A112 q108.2.1.Kids.length c113] 24 (0, 0)), rowo A116 q108.2.2.2.length c117 27 1 cells120, rowo A156 s151.1.length c157 58 4 cells159] (m_search_below_sp (a0 := q108.2.1) (Fsl.mono (PH.le_trans l162 l184) h114) e187) rfl (fun _ ha => ev2 ha rfl rfl) rfl en19 rfl rfl trivial ?_
                rintro _ F188 _ ⟨A190, c191, rfl, h192, rfl⟩ l189
                refine StD.next hcl185 (fun h => by cases h) ?_
                refine StD.takeP (i := 13) (v := (.agg #[.slice A173 x177.length c174, .int .i64 q181, .int .i64 q186.N, .slice A190 q186.Kids.length c191])) rfl (fun _ => Yields.build (v := (.agg #[.slice A173 x177.length c174, .int .i64 q181, .int .i64 q186.N, .slice A190 q186.Kids.length c191])) (vs := #[(0, .slice A173 x177.length c174), (1, .int .i64 q181), (2, .agg #[.int .i64 q186.N, .slice A190 q186.Kids.length c191])]) (fun _ ha => evp3 ha rfl rfl rfl) (fun _ => by kernel_rfl)) rfl rfl trivial (by rintro _ _ _ ⟨_, _, _, _, h, _⟩; cases h) (by kernel_rfl) (listed' := #[true, true, true, true, true, true, true, true, true, true, true, true, true, true, false, false]) rfl ?_
                refine StD.takeP (i := 14) (v := (.iface 58 (.agg #[.slice A173 x177.length c174, .int .i64 q181, .int .i64 q186.N, .slice A190 q186.Kids.length c191]))) rfl (fun _ => Yields.makeInterface tp58 rfl) rfl rfl trivial (by rintro _ _ _ ⟨_, _, _, _, h, _⟩; cases h) (by kernel_rfl) (listed' := #[true, true, true, true, true, true, true, true, true, true, true, true, true, true, true, false]) rfl ?_
                refine StD.only (i := 15) rfl (by kernel_rfl) (listed' := #[true, true, true, true, true, true, true, true, true, true, true, true, true, true, true, true]) rfl ?_
                intro hcl194
                refine St.frz 0 rfl rfl rfl (Cat.mono (PH.le_trans l184 l189) h176) (Bnd.of_push e178) ?_
                intro F195 l196 h197
                refine St.pick (R := [blk pbl0 (.cells #[.slice A116 q108.2.2.2.length c117] 31 (0, 0)), blk b28 (.cells #[.slice A156 s151.1.length c157, .func (.func f25) #[] #[]] 55 (0, 0)), blk b107 (.cells #[.slice A93 q89.1.l.length c94, .int .i64 q89.1.rank, .int .i64 q89.1.x.N, .slice A97 q89.1.x.Kids.length c98] 58 (0, 0)), blk b122 (.cells #[.int .i64 q108.2.1.N, .slice A112 q108.2.1.Kids.length c113] 24 (0, 0)), rowo A116 q108.2.2.2.length c117 27 1 cells120]) 5 rfl rfl ?_
                refine St.pick (R := [rowo A156 s151.1.length c157 58 4 cells159, blk pbl0 (.cells #[.slice A116 q108.2.2.2.length c117] 31 (0, 0)), blk b107 (.cells #[.slice A93 q89.1.l.length c94, .int .i64 q89.1.rank, .int .i64 q89.1.x.N, .slice A97 q89.1.x.Kids.length c98] 58 (0, 0)), blk b122 (.cells #[.int .i64 q108.2.1.N, .slice A112 q108.2.1.Kids.length c113] 24 (0, 0)), rowo A116 q108.2.2.2.length c117 27 1 cells120]) 2 rfl rfl ?_
                obtain ⟨q198, e199, hm⟩ := bS hm
                refine St.call [blk pbl0 (.cells #[.slice A116 q108.2.2.2.length c117] 31 (0, 0)), blk b107 (.cells #[.slice A93 q89.1.l.length c94, .int .i64 q89.1.rank, .int .i64 q89.1.x.N, .slice A97 q89.1.x.Kids.length c98] 58 (0, 0)), blk b122 (.cells #[.int .i64 q108.2.1.N, .slice A112 q108.2.1.Kids.length c113] 24 (0, 0)), rowo A116 q108.2.2.2.length c117 27 1 cells120] (m_heap_Push_sp (a0 := (DPlace.mk x177 q181 q186)) h197 (Fsl.mono l196 h192) (Cat.mono (PH.le_trans l184 (PH.le_trans l189 l196)) h158) b160 h27 e199) rfl (fun _ ha => ev2 ha rfl rfl) rfl en30 rfl rfl trivial ?_
                rintro _ F200 _ ⟨A202, c203, cells206, rfl, h204, b207, rfl⟩ l201
                refine StD.next hcl194 (fun h => by cases h) ?_
                refine StD.done (by kernel_rfl) ?_
                refine St.innorm ?_
                refine St.norm ?_
                refine St.region ?_
                refine St.val (v := (.int .i64 s151.2)) (Yields.move rfl) trivial rfl rfl ?_
                refine St.val (v := (.int .i64 (Mir.w64 (s151.2 + 1)))) (Yields.addw rfl rfl) trivial rfl rfl ?_
                refine St.val (v := (.int .i64 (Mir.w64 (s151.2 + 1)))) (Yields.assign rfl) trivial rfl rfl ?_
                refine St.nil ?_
                refine St.norm ?_
                obtain rfl := sI hm
                intro a w ha hs
                exact ⟨(q198, Mir.w64 (s151.2 + 1)), aL ho154, A202, c203, cells206, F200, (PH.le_trans l162 (PH.le_trans l184 (PH.le_trans l189 (PH.le_trans l196 l201)))), h204, b207, ha.covers ⟨rfl, rfl, rfl, rfl, rfl, rfl, rfl, rfl, trivial⟩, (Among.of (Among.take 2 rfl rfl (Among.take 0 rfl rfl (Among.take 1 rfl rfl (Among.take 1 rfl rfl (Among.take 1 rfl rfl (Among.take 0 rfl rfl Among.none)))))) _ hs)⟩
              · intro q208
                replace q208 : ¬ (s151.2 < q108.1) := of_decide_eq_false q208
                replace hm := iF hm q208
                refine St.exit ?_
                refine St.thenexit ?_
                refine St.thenexit ?_
                refine St.inexit ?_
                obtain rfl := sI hm
                obtain rfl := aR ho154
                intro a w ha hs
                exact ⟨A156, c157, cells159, F161, l162, h158, b160, ha.covers ⟨rfl, rfl, rfl, rfl, trivial⟩, (Among.of (Among.take 0 rfl rfl (Among.take 0 rfl rfl (Among.take 2 rfl rfl (Among.take 2 rfl rfl Among.none)))) _ hs)⟩
          · rintro a w ⟨A127, c128, cells130, F124, l125, h129, b131, ha, hs⟩
            replace hm := hk132
            refine St.use (?_ : St _ _ _ _ _ _) ha hs
            clear ha hs a w
            refine St.seq ?_
            refine St.region ?_
            refine St.val (v := (.bool q108.2.2.1)) (Yields.move rfl) trivial rfl rfl ?_
            refine St.val (v := (.bool (!q108.2.2.1))) (Yields.not rfl) trivial rfl rfl ?_
            refine St.nil ?_
            refine St.norm ?_
            refine St.cond_b rfl ?_ ?_
            · intro q209
              replace q209 : ¬ (q108.2.2.1 = true) := nb_t q209
              replace hm := iF hm q209
              refine St.seq ?_
              refine St.region ?_
              refine St.val (v := (.pointer (some ⟨b28, 0, none⟩))) (Yields.move rfl) trivial rfl rfl ?_
              refine St.pick (R := [blk pbl0 (.cells #[.slice A116 q108.2.2.2.length c117] 31 (0, 0)), blk b28 (.cells #[.slice A127 z123.length c128, .func (.func f25) #[] #[]] 55 (0, 0)), rowo A116 q108.2.2.2.length c117 27 1 cells120]) 3 rfl rfl ?_
              refine St.pick (R := [rowo A127 z123.length c128 58 4 cells130, blk pbl0 (.cells #[.slice A116 q108.2.2.2.length c117] 31 (0, 0)), rowo A116 q108.2.2.2.length c117 27 1 cells120]) 2 rfl rfl ?_
              obtain ⟨q210, e211, hm⟩ := bS hm
              refine St.call [blk pbl0 (.cells #[.slice A116 q108.2.2.2.length c117] 31 (0, 0)), rowo A116 q108.2.2.2.length c117 27 1 cells120] (m_api_STree_Len_sp h129 b131 h27 e211) rfl (fun _ ha => ev1 ha rfl) rfl en31 rfl rfl trivial ?_
              rintro _ F212 _ ⟨rfl, rfl⟩ l213
              refine St.val (v := (.bool (decide (q210 > 0)))) (Yields.gt rfl rfl) trivial rfl rfl ?_
              refine St.val (v := (.bool (decide (q210 > 0)))) (Yields.assign rfl) trivial rfl rfl ?_
              refine St.nil ?_
              refine St.norm ?_
              refine St.ret ?_
              refine St.inret ?_
              refine St.thenret ?_
              refine St.inret ?_
              refine St.thenret ?_
              obtain rfl := sI hm
              obtain rfl := aR ho69
              obtain rfl := aR ho50
              exact St.doneR1 rfl rfl ⟨A116, c117, cells120, rfl, (Cat.mono (PH.le_trans l125 l213) h118), b121, rfl⟩ (fun w hs => Among.of (Among.take 2 rfl rfl (Among.take 2 rfl rfl Among.none)) w hs)
            · intro q214
              replace q214 : q108.2.2.1 = true := nb_f q214
              replace hm := iT hm q214
              refine St.skip ?_
              refine St.innorm ?_
              refine St.norm ?_
              obtain rfl := sI hm
              intro a w ha hs
              exact ⟨(q108.2.2.2, z123), aL ho69, A116, c117, cells120, A127, c128, cells130, F124, (PH.le_trans l83 (PH.le_trans l87 (PH.le_trans l92 (PH.le_trans l111 l125)))), (Cat.mono l125 h118), b121, h129, b131, ha.covers ⟨rfl, rfl, rfl, trivial⟩, (Among.of (Among.take 0 rfl rfl (Among.take 0 rfl rfl (Among.take 0 rfl rfl (Among.take 0 rfl rfl Among.none)))) _ hs)⟩
        · intro q215
          replace q215 : ¬ (q84 > 0) := of_decide_eq_false q215
          replace hm := iF hm q215
          refine St.exit ?_
          refine St.thenexit ?_
          refine St.thenexit ?_
          refine St.inexit ?_
          obtain rfl := sI hm
          obtain rfl := aR ho69
          intro a w ha hs
          exact ⟨s66.1, rfl, A71, c72, cells74, F86, (PH.le_trans l83 l87), (Cat.mono l87 h73), b75, ha.covers trivial, (Among.of (Among.take 2 rfl rfl (Among.take 2 rfl rfl Among.none)) _ hs)⟩
    · rintro a w ⟨z40, rfl, A44, c45, cells47, F41, l42, h46, b48, ha, hs⟩
      replace hm := aL ho50
      refine St.use (?_ : St _ _ _ _ _ _) ha hs
      clear ha hs a w
      refine St.seq ?_
      refine St.region ?_
      refine St.val (v := (.bool false)) (Yields.assign rfl) trivial rfl rfl ?_
      refine St.nil ?_
      refine St.norm ?_
      refine St.ret ?_
      obtain rfl := sI hm
      exact St.doneR1 rfl rfl ⟨A44, c45, cells47, rfl, h46, b48, rfl⟩ (fun w hs => Among.of (Among.take 0 rfl rfl (Among.take 0 rfl rfl Among.none)) w hs)

end Go.Proofs.Ytjjmdiddgcllkaa
