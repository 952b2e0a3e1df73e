/- Each function does what its plain words tell. -/
import Derived.Test.YtchecaeeiejjjaaWRb
namespace Go.Proofs.Ytchecaeeiejjjaa
open Go Go.Sy Go.RowKit
set_option linter.unusedVariables false
open Go.Mir
abbrev m_ref08_isValue_S (g : Nat) : Prop := ∀ {F : PH} {a0 : DValue} {pA0_0 : Option Addr} {pc0_0 : Nat} (ph0_0 : Fsl 56 KDValue F pA0_0 pc0_0 a0.Kids) {r : Bool} (_ : m_ref08_isValue g a0 = some r),
    CallSp Try.prog 47 #[.agg #[.int .i64 a0.Op, .string (bs a0.Name), .int .i64 a0.N, .slice pA0_0 a0.Kids.length pc0_0]] F [] (fun u F' H' => u = (.bool r) ∧ H' = [])
theorem m_ref08_isValue_st {g : Nat} (ih_m_ref08_isValue : m_ref08_isValue_S g) : m_ref08_isValue_S (g + 1) := by
  intro F a0 pA0_0 pc0_0 ph0_0 r hm
  rw [m_ref08_isValue] at hm
  refine CallSp.enter (args := [.agg #[.int .i64 a0.Op, .string (bs a0.Name), .int .i64 a0.N, .slice pA0_0 a0.Kids.length pc0_0]]) Try.func47 rfl rfl ?_
  intro w0 m0 hm0
  refine St.seq ?_
  refine St.region ?_
  refine St.box rfl trivial rfl ?_
  intro b2
  refine St.val (v := (.bool false)) (Yields.assign rfl) trivial rfl rfl ?_
  refine St.nil ?_
  refine St.norm ?_
  refine St.seq ?_
  refine St.seq ?_
  refine St.region ?_
  refine St.val (v := (.agg #[.int .i64 a0.Op, .string (bs a0.Name), .int .i64 a0.N, .slice pA0_0 a0.Kids.length pc0_0])) (Yields.load rfl (Loads.Hk (vs := [.int .i64 a0.Op, .string (bs a0.Name), .int .i64 a0.N, .slice pA0_0 a0.Kids.length pc0_0]) 0 rfl ta24 rfl rfl)) trivial rfl rfl ?_
  obtain ⟨q3, e4, hm⟩ := bS hm
  refine St.call [blk b2 (.cells #[.int .i64 a0.Op, .string (bs a0.Name), .int .i64 a0.N, .slice pA0_0 a0.Kids.length pc0_0] 24 (0, 0))] (m_ref08_isNode_sp (a0 := a0) ph0_0 e4) rfl (fun _ ha => ev1 ha rfl) rfl en82 rfl rfl trivial ?_
  rintro _ F5 _ ⟨rfl, rfl⟩ l6
  refine St.val (v := (.bool (!q3))) (Yields.not rfl) trivial rfl rfl ?_
  refine St.nil ?_
  refine St.norm ?_
  refine St.cond_b rfl ?_ ?_
  · intro q7
    replace q7 : ¬ (q3 = true) := nb_t q7
    replace hm := iF hm q7
    refine St.seq ?_
    refine St.region ?_
    refine St.val (v := (.bool false)) (Yields.assign rfl) trivial rfl rfl ?_
    refine St.nil ?_
    refine St.norm ?_
    refine St.ret ?_
    refine St.thenret ?_
    obtain rfl := sI hm
    exact St.doneR1 rfl rfl ⟨rfl, rfl⟩ (fun w hs => Among.of Among.none w hs)
  · intro q8
    replace q8 : q3 = true := nb_f q8
    replace hm := iT hm q8
    refine St.skip ?_
    refine St.norm ?_
    obtain ⟨o12, hm, ho13⟩ := jS hm
    refine St.cutI (fun a w => ∃ z9 : Unit, o12 = .inl z9 ∧ ∃ (F10 : PH), PH.le F5 F10 ∧ Has Try.f47.ntmps a [] ∧ Sat ⟨w0, fun b => m0 b ≠ none, F⟩ F10 [] w) ?_ ?_
    · skip
      refine St.seq ?_
      refine St.region ?_
      refine St.val (v := (.int .i64 0)) (Yields.assign rfl) trivial rfl rfl ?_
      refine St.nil ?_
      refine St.norm ?_
      refine St.block ?_
      refine St.loopM hm (fun s16 a w => ∃ (F20 : PH), PH.le F5 F20 ∧ Has Try.f47.ntmps a [(1, .pointer (some ⟨b2, 0, none⟩)), (3, .int .i64 ((s16 : Nat) : Int))] ∧ Sat ⟨w0, fun b => m0 b ≠ none, F⟩ F20 [blk b2 (.cells #[.int .i64 a0.Op, .string (bs a0.Name), .int .i64 a0.N, .slice pA0_0 a0.Kids.length pc0_0] 24 (0, 0))] w) ?_ ?_
      · skip
        intro a w ha hs
        exact ⟨F5, (PH.le_refl _), ha.covers ⟨rfl, rfl, trivial⟩, (Among.of (Among.take 0 rfl rfl Among.none) _ hs)⟩
      · rintro s16 o17 co18 hm ho19 a w ⟨F20, l21, ha, hs⟩
        refine St.use (?_ : St _ _ _ _ _ _) ha hs
        clear ha hs a w
        refine St.seq ?_
        refine St.seq ?_
        refine St.region ?_
        refine St.val (v := (.int .i64 ((s16 : Nat) : Int))) (Yields.move rfl) trivial rfl rfl ?_
        refine St.val (v := (.pointer (some ⟨b2, 3, none⟩))) (Yields.fieldAddr (v := (.pointer (some ⟨b2, 3, none⟩))) rfl (fun _ => by kernel_rfl)) trivial rfl rfl ?_
        refine St.val (v := (.slice pA0_0 a0.Kids.length pc0_0)) (Yields.load rfl (Loads.H1 0 rfl tc22 rfl)) trivial rfl rfl ?_
        refine St.val (v := (.int .i64 ((a0.Kids.length : Nat) : Int))) (Yields.lenSlice tu22 rfl) trivial rfl rfl ?_
        refine St.val (v := (.bool (decide (((s16 : Nat) : Int) < ((a0.Kids.length : Nat) : Int))))) (Yields.lt rfl rfl) trivial rfl rfl ?_
        refine St.nil ?_
        refine St.norm ?_
        refine St.cond_b rfl ?_ ?_
        · intro q22
          replace q22 : ((s16 : Nat) : Int) < ((a0.Kids.length : Nat) : Int) := of_decide_eq_true q22
          replace hm := iT hm q22
          refine St.skip ?_
          refine St.norm ?_
          refine St.seq ?_
          refine St.block ?_
          refine St.seq ?_
          refine St.region ?_
          refine St.val (v := (.pointer (some ⟨b2, 3, none⟩))) (Yields.fieldAddr (v := (.pointer (some ⟨b2, 3, none⟩))) rfl (fun _ => by kernel_rfl)) trivial rfl rfl ?_
          refine St.val (v := (.slice pA0_0 a0.Kids.length pc0_0)) (Yields.load rfl (Loads.H1 0 rfl tc22 rfl)) trivial rfl rfl ?_
          refine St.val (v := (.int .i64 ((s16 : Nat) : Int))) (Yields.move rfl) trivial rfl rfl ?_
          obtain ⟨x23, e24, hm⟩ := bS hm
          obtain ⟨p25, cs26, jx27, R28, k29⟩ := (Fsl.mono (PH.le_trans l6 l21) ph0_0).nidx e24
          obtain ⟨A30, c31, rfl, h32⟩ := DValue.opn R28
          refine St.val (v := (.pointer (some p25))) (Yields.idx jx27 ts22 rfl rfl) trivial rfl rfl ?_
          refine St.val (v := (.agg #[.int .i64 x23.Op, .string (bs x23.Name), .int .i64 x23.N, .slice A30 x23.Kids.length c31])) (Yields.load rfl (Loads.Fatn0 k29 ta24)) trivial rfl rfl ?_
          obtain ⟨q34, e35, hm⟩ := bS hm
          refine St.call [blk b2 (.cells #[.int .i64 a0.Op, .string (bs a0.Name), .int .i64 a0.N, .slice pA0_0 a0.Kids.length pc0_0] 24 (0, 0))] (ih_m_ref08_isValue (a0 := x23) h32 e35) rfl (fun _ ha => ev1 ha rfl) rfl en47 rfl rfl trivial ?_
          rintro _ F36 _ ⟨rfl, rfl⟩ l37
          refine St.val (v := (.bool (!q34))) (Yields.not rfl) trivial rfl rfl ?_
          refine St.nil ?_
          refine St.norm ?_
          refine St.cond_b rfl ?_ ?_
          · intro q38
            replace q38 : ¬ (q34 = true) := nb_t q38
            replace hm := iF hm q38
            refine St.seq ?_
            refine St.region ?_
            refine St.val (v := (.bool false)) (Yields.assign rfl) trivial rfl rfl ?_
            refine St.nil ?_
            refine St.norm ?_
            refine St.ret ?_
            refine St.inret ?_
            refine St.thenret ?_
            refine St.thenret ?_
            refine St.inret ?_
            refine St.thenret ?_
            obtain rfl := sI hm
            obtain rfl := aR ho19
            obtain rfl := aR ho13
            exact St.doneR1 rfl rfl ⟨rfl, rfl⟩ (fun w hs => Among.of Among.none w hs)
          · intro q39
            replace q39 : q34 = true := nb_f q39
            replace hm := iT hm q39
            refine St.skip ?_
            refine St.innorm ?_
            refine St.norm ?_
            refine St.region ?_
            refine St.val (v := (.int .i64 ((s16 : Nat) : Int))) (Yields.move rfl) trivial rfl rfl ?_
            refine St.val (v := (.int .i64 ((s16 + 1 : Nat) : Int))) (Yields.addn (j := 1) rfl rfl rfl (by have q_0 := q22; have q_1 := ph0_0.bnd.2; omega)) trivial rfl rfl ?_
            refine St.val (v := (.int .i64 ((s16 + 1 : Nat) : Int))) (Yields.assign rfl) trivial rfl rfl ?_
            refine St.nil ?_
            refine St.norm ?_
            obtain rfl := sI hm
            intro a w ha hs
            exact ⟨s16 + 1, aL ho19, F36, (PH.le_trans l21 l37), ha.covers ⟨rfl, rfl, trivial⟩, (Among.of (Among.take 0 rfl rfl Among.none) _ hs)⟩
        · intro q40
          replace q40 : ¬ (((s16 : Nat) : Int) < ((a0.Kids.length : Nat) : Int)) := of_decide_eq_false q40
          replace hm := iF hm q40
          refine St.exit ?_
          refine St.thenexit ?_
          refine St.thenexit ?_
          refine St.inexit ?_
          obtain rfl := sI hm
          obtain rfl := aR ho19
          intro a w ha hs
          exact ⟨(), rfl, F20, l21, ha.covers trivial, (Among.of Among.none _ hs)⟩
    · rintro a w ⟨z9, rfl, F10, l11, ha, hs⟩
      replace hm := aL ho13
      refine St.use (?_ : St _ _ _ _ _ _) ha hs
      clear ha hs a w
      refine St.seq ?_
      refine St.region ?_
      refine St.val (v := (.bool true)) (Yields.assign rfl) trivial rfl rfl ?_
      refine St.nil ?_
      refine St.norm ?_
      refine St.ret ?_
      obtain rfl := sI hm
      exact St.doneR1 rfl rfl ⟨rfl, rfl⟩ (fun w hs => Among.of Among.none w hs)
theorem m_ref08_isValue_all : ∀ g, m_ref08_isValue_S g
  | 0 => (by (try unfold m_ref08_isValue_S); intros; rename_i hm; exact nomatch (show (none : Option _) = some _ from hm))
  | g + 1 => m_ref08_isValue_st (m_ref08_isValue_all g)
theorem m_ref08_isValue_sp {F : PH} {g : Nat} {a0 : DValue} {pA0_0 : Option Addr} {pc0_0 : Nat} (ph0_0 : Fsl 56 KDValue F pA0_0 pc0_0 a0.Kids) {r : Bool} (hm : m_ref08_isValue g a0 = some r) :
    CallSp Try.prog 47 #[.agg #[.int .i64 a0.Op, .string (bs a0.Name), .int .i64 a0.N, .slice pA0_0 a0.Kids.length pc0_0]] F [] (fun u F' H' => u = (.bool r) ∧ H' = []) := (m_ref08_isValue_all g) ph0_0 hm

theorem m_ref08_Validate_sp {F : PH} {g : Nat} {a0 : DValue} {pA0_0 : Option Addr} {pc0_0 : Nat} (ph0_0 : Fsl 56 KDValue F pA0_0 pc0_0 a0.Kids) {r : Int} (hm : m_ref08_Validate g a0 = some r) :
    CallSp Try.prog 33 #[.agg #[.int .i64 a0.Op, .string (bs a0.Name), .int .i64 a0.N, .slice pA0_0 a0.Kids.length pc0_0]] F [] (fun u F' H' => u = (.int .i64 r) ∧ H' = []) := by
  unfold m_ref08_Validate at hm
  refine CallSp.enter (args := [.agg #[.int .i64 a0.Op, .string (bs a0.Name), .int .i64 a0.N, .slice pA0_0 a0.Kids.length pc0_0]]) Try.func33 rfl rfl ?_
  intro w0 m0 hm0
  refine St.seq ?_
  refine St.region ?_
  refine St.box rfl trivial rfl ?_
  intro b2
  refine St.val (v := (.int .i64 0)) (Yields.assign rfl) trivial rfl rfl ?_
  refine St.nil ?_
  refine St.norm ?_
  refine St.seq ?_
  refine St.seq ?_
  refine St.region ?_
  refine St.val (v := (.agg #[.int .i64 a0.Op, .string (bs a0.Name), .int .i64 a0.N, .slice pA0_0 a0.Kids.length pc0_0])) (Yields.load rfl (Loads.Hk (vs := [.int .i64 a0.Op, .string (bs a0.Name), .int .i64 a0.N, .slice pA0_0 a0.Kids.length pc0_0]) 0 rfl ta24 rfl rfl)) trivial rfl rfl ?_
  obtain ⟨q3, e4, hm⟩ := bS hm
  refine St.call [blk b2 (.cells #[.int .i64 a0.Op, .string (bs a0.Name), .int .i64 a0.N, .slice pA0_0 a0.Kids.length pc0_0] 24 (0, 0))] (m_ref08_isLarge_sp (a0 := a0) ph0_0 e4) rfl (fun _ ha => ev1 ha rfl) rfl en45 rfl rfl trivial ?_
  rintro _ F5 _ ⟨rfl, rfl⟩ l6
  refine St.nil ?_
  refine St.norm ?_
  refine St.cond_b rfl ?_ ?_
  · intro q7
    replace q7 : q3 = true := q7
    replace hm := iT hm q7
    refine St.seq ?_
    refine St.region ?_
    refine St.val (v := (.int .i64 3)) (Yields.assign rfl) trivial rfl rfl ?_
    refine St.nil ?_
    refine St.norm ?_
    refine St.ret ?_
    refine St.thenret ?_
    obtain rfl := sI hm
    exact St.doneR1 rfl rfl ⟨rfl, rfl⟩ (fun w hs => Among.of Among.none w hs)
  · intro q8
    replace q8 : ¬ (q3 = true) := bf q8
    replace hm := iF hm q8
    refine St.skip ?_
    refine St.norm ?_
    refine St.seq ?_
    refine St.seq ?_
    refine St.region ?_
    refine St.val (v := (.agg #[.int .i64 a0.Op, .string (bs a0.Name), .int .i64 a0.N, .slice pA0_0 a0.Kids.length pc0_0])) (Yields.load rfl (Loads.Hk (vs := [.int .i64 a0.Op, .string (bs a0.Name), .int .i64 a0.N, .slice pA0_0 a0.Kids.length pc0_0]) 0 rfl ta24 rfl rfl)) trivial rfl rfl ?_
    obtain ⟨q9, e10, hm⟩ := bS hm
    refine St.call [blk b2 (.cells #[.int .i64 a0.Op, .string (bs a0.Name), .int .i64 a0.N, .slice pA0_0 a0.Kids.length pc0_0] 24 (0, 0))] (m_ref08_isValue_sp (a0 := a0) (Fsl.mono l6 ph0_0) e10) rfl (fun _ ha => ev1 ha rfl) rfl en47 rfl rfl trivial ?_
    rintro _ F11 _ ⟨rfl, rfl⟩ l12
    refine St.val (v := (.bool (!q9))) (Yields.not rfl) trivial rfl rfl ?_
    refine St.nil ?_
    refine St.norm ?_
    refine St.cond_b rfl ?_ ?_
    · intro q13
      replace q13 : ¬ (q9 = true) := nb_t q13
      replace hm := iF hm q13
      refine St.seq ?_
      refine St.region ?_
      refine St.val (v := (.int .i64 1)) (Yields.assign rfl) trivial rfl rfl ?_
      refine St.nil ?_
      refine St.norm ?_
      refine St.ret ?_
      refine St.thenret ?_
      obtain rfl := sI hm
      exact St.doneR1 rfl rfl ⟨rfl, rfl⟩ (fun w hs => Among.of Among.none w hs)
    · intro q14
      replace q14 : q9 = true := nb_f q14
      replace hm := iT hm q14
      refine St.skip ?_
      refine St.norm ?_
      refine St.seq ?_
      refine St.region ?_
      refine St.val (v := (.int .i64 0)) (Yields.assign rfl) trivial rfl rfl ?_
      refine St.nil ?_
      refine St.norm ?_
      refine St.ret ?_
      obtain rfl := sI hm
      exact St.doneR1 rfl rfl ⟨rfl, rfl⟩ (fun w hs => Among.of Among.none w hs)

theorem m_ref08_Parse_sp {F : PH} {g : Nat} {a0 : List UInt8} {r : DValue × Int × Int} (hm : m_ref08_Parse g a0 = some r) :
    CallSp Try.prog 7 #[.string (bs a0)] F [] (fun u F' H' => ∃ (B0_0 : Option Addr) (d0_0 : Nat), u = (.tuple #[.agg #[.int .i64 r.1.Op, .string (bs r.1.Name), .int .i64 r.1.N, .slice B0_0 r.1.Kids.length d0_0], .int .i64 r.2.1, .int .i64 r.2.2]) ∧ Fsl 56 KDValue F' B0_0 d0_0 r.1.Kids ∧ H' = []) := by
  unfold m_ref08_Parse at hm
  refine CallSp.enter (args := [.string (bs a0)]) Try.func7 rfl rfl ?_
  intro w0 m0 hm0
  refine St.seq ?_
  refine St.region ?_
  refine St.alloc tz24 trivial rfl ?_
  intro b1
  refine St.val (v := (.int .i64 0)) (Yields.assign rfl) trivial rfl rfl ?_
  refine St.val (v := (.int .i64 0)) (Yields.assign rfl) trivial rfl rfl ?_
  refine St.nil ?_
  refine St.norm ?_
  refine St.seq ?_
  refine St.seq ?_
  refine St.region ?_
  refine St.val (v := (.string (bs a0))) (Yields.move rfl) trivial rfl rfl ?_
  refine St.val (v := (.int .i64 ((a0.length : Nat) : Int))) (Yields.lenStr tu9 rfl) trivial rfl rfl ?_
  refine St.val (v := (.bool (decide (((a0.length : Nat) : Int) > 20000)))) (Yields.gt rfl rfl) trivial rfl rfl ?_
  refine St.nil ?_
  refine St.norm ?_
  refine St.cond_b rfl ?_ ?_
  · intro q2
    replace q2 : ((a0.length : Nat) : Int) > 20000 := of_decide_eq_true q2
    replace hm := iT hm q2
    refine St.seq ?_
    refine St.region ?_
    refine St.val (v := (.agg #[.int .i64 0, .string (bs []), .int .i64 0, .slice none 0 0])) (Yields.build (v := (.agg #[.int .i64 0, .string (bs []), .int .i64 0, .slice none 0 0])) (vs := #[]) (fun a _ => by simp) (fun _ => by kernel_rfl)) trivial rfl rfl ?_
    refine St.storen (R := []) rfl rfl 0 rfl rfl ta24 rfl rfl rfl trivial (cs' := #[.int .i64 0, .string (bs []), .int .i64 0, .slice none 0 0]) rfl ?_
    refine St.val (v := (.int .i64 0)) (Yields.assign rfl) trivial rfl rfl ?_
    refine St.val (v := (.int .i64 3)) (Yields.assign rfl) trivial rfl rfl ?_
    refine St.nil ?_
    refine St.norm ?_
    refine St.ret ?_
    refine St.thenret ?_
    obtain rfl := sI hm
    exact St.doneR3 rfl (ResOk.cell rfl (Loads.Hk (vs := [.int .i64 0, .string (bs []), .int .i64 0, .slice none 0 0]) 0 rfl ta24 rfl rfl)) rfl rfl ⟨none, 0, rfl, Fsl.nil, rfl⟩ (fun w hs => Among.of Among.none w hs)
  · intro q3
    replace q3 : ¬ (((a0.length : Nat) : Int) > 20000) := of_decide_eq_false q3
    replace hm := iF hm q3
    refine St.skip ?_
    refine St.norm ?_
    refine St.seq ?_
    refine St.region ?_
    refine St.val (v := (.string (bs a0))) (Yields.move rfl) trivial rfl rfl ?_
    obtain ⟨q4, e5, hm⟩ := bS hm
    refine St.call [blk b1 (.cells #[.int .i64 0, .string (bs []), .int .i64 0, .slice none 0 0] 24 (0, 0))] (m_ref08_tokens_sp e5) rfl (fun _ ha => ev1 ha rfl) rfl en31 rfl rfl trivial ?_
    rintro _ F6 _ ⟨A8, c9, rfl, h10, rfl⟩ l7
    refine St.val (v := (.slice A8 q4.length c9)) (Yields.assign rfl) trivial rfl rfl ?_
    refine St.nil ?_
    refine St.norm ?_
    refine St.seq ?_
    refine St.region ?_
    refine St.val (v := (.slice A8 q4.length c9)) (Yields.move rfl) trivial rfl rfl ?_
    obtain ⟨q12, e13, hm⟩ := bS hm
    refine St.call [blk b1 (.cells #[.int .i64 0, .string (bs []), .int .i64 0, .slice none 0 0] 24 (0, 0))] (m_ref08_value_sp h10 e13) rfl (fun _ ha => ev2 ha rfl rfl) rfl en32 rfl rfl trivial ?_
    rintro _ F14 _ ⟨A16, c17, rfl, h18, rfl⟩ l15
    refine St.val (v := (.tuple #[.agg #[.int .i64 q12.1.Op, .string (bs q12.1.Name), .int .i64 q12.1.N, .slice A16 q12.1.Kids.length c17], .int .i64 q12.2.1, .bool q12.2.2])) (Yields.move rfl) trivial rfl rfl ?_
    refine St.val (v := (.agg #[.int .i64 q12.1.Op, .string (bs q12.1.Name), .int .i64 q12.1.N, .slice A16 q12.1.Kids.length c17])) (Yields.extract rfl rfl) trivial rfl rfl ?_
    refine St.val (v := (.int .i64 q12.2.1)) (Yields.extract rfl rfl) trivial rfl rfl ?_
    refine St.val (v := (.bool q12.2.2)) (Yields.extract rfl rfl) trivial rfl rfl ?_
    refine St.alloc tz24 trivial rfl ?_
    intro b20
    refine St.storen (R := [blk b1 (.cells #[.int .i64 0, .string (bs []), .int .i64 0, .slice none 0 0] 24 (0, 0))]) rfl rfl 0 rfl rfl ta24 rfl rfl rfl trivial (cs' := #[.int .i64 q12.1.Op, .string (bs q12.1.Name), .int .i64 q12.1.N, .slice A16 q12.1.Kids.length c17]) rfl ?_
    refine St.val (v := (.int .i64 q12.2.1)) (Yields.assign rfl) trivial rfl rfl ?_
    refine St.val (v := (.bool q12.2.2)) (Yields.assign rfl) trivial rfl rfl ?_
    refine St.nil ?_
    refine St.norm ?_
    refine St.seq ?_
    refine St.seq ?_
    refine St.region ?_
    refine St.val (v := (.bool q12.2.2)) (Yields.move rfl) trivial rfl rfl ?_
    refine St.val (v := (.bool (!q12.2.2))) (Yields.not rfl) trivial rfl rfl ?_
    refine St.nil ?_
    refine St.norm ?_
    refine St.cond_b rfl ?_ ?_
    · intro q21
      replace q21 : ¬ (q12.2.2 = true) := nb_t q21
      replace hm := iF hm q21
      refine St.seq ?_
      refine StD.start [] [blk b20 (.cells #[.int .i64 q12.1.Op, .string (bs q12.1.Name), .int .i64 q12.1.N, .slice A16 q12.1.Kids.length c17] 24 (0, 0)), blk b1 (.cells #[.int .i64 0, .string (bs []), .int .i64 0, .slice none 0 0] 24 (0, 0))] hmix ?_
      refine StD.takeP (i := 0) (v := (.agg #[.int .i64 0, .string (bs []), .int .i64 0, .slice none 0 0])) rfl (fun _ => Yields.build (v := (.agg #[.int .i64 0, .string (bs []), .int .i64 0, .slice none 0 0])) (vs := #[]) (fun a _ => by simp) (fun _ => by kernel_rfl)) rfl rfl trivial (by rintro _ _ _ ⟨_, _, _, _, h, _⟩; cases h) (by kernel_rfl) (listed' := #[true, false, false, false, false, false, false, false, false]) rfl ?_
      refine StD.takeP (i := 1) (v := (.slice A8 q4.length c9)) rfl (fun _ => Yields.move rfl) rfl rfl trivial (by rintro _ _ _ ⟨_, _, _, _, h, _⟩; cases h) (by kernel_rfl) (listed' := #[true, true, false, false, false, false, false, false, false]) rfl ?_
      refine StD.takeP (i := 2) (v := (.int .i64 q12.2.1)) rfl (fun _ => Yields.move rfl) rfl rfl trivial (by rintro _ _ _ ⟨_, _, _, _, h, _⟩; cases h) (by kernel_rfl) (listed' := #[true, true, true, false, false, false, false, false, false]) rfl ?_
      obtain ⟨x22, e23, hm⟩ := bS hm
      obtain ⟨p24, cs25, jx26, R27, k28⟩ := (Fsl.mono l15 h10).idx e23
      obtain rfl := DToken.opn R27
      refine StD.takeP (i := 3) (v := (.pointer (some p24))) rfl (fun _ => Yields.idx jx26 ts56 rfl rfl) rfl rfl trivial (by rintro _ _ _ ⟨_, _, _, _, h, _⟩; cases h) (by kernel_rfl) (listed' := #[true, true, true, true, false, false, false, false, false]) rfl ?_
      refine StD.takeP (i := 4) (v := (.pointer (some (p24.add 1)))) rfl (fun _ => Yields.fieldAddr (v := (.pointer (some (p24.add 1)))) rfl (fun _ => by kernel_rfl)) rfl rfl trivial (by rintro _ _ _ ⟨_, _, _, _, h, _⟩; cases h) (by kernel_rfl) (listed' := #[true, true, true, true, true, false, false, false, false]) rfl ?_
      refine StD.take [0, 1, 2, 3, 4, 7, 8] (i := 5) (v := (.int .i64 x22.f_at)) rfl (Yields.load rfl (Loads.Fatk 1 k28 tc3 rfl)) rfl rfl trivial Among.refl (by rintro _ _ _ ⟨_, _, _, _, h, _⟩; cases h) (by kernel_rfl) (listed' := #[true, true, true, true, true, true, false, false, false]) rfl ?_
      refine StD.only (i := 6) rfl (by kernel_rfl) (listed' := #[true, true, true, true, true, true, true, false, false]) rfl ?_
      intro hcl29
      refine St.storen (R := [blk b20 (.cells #[.int .i64 q12.1.Op, .string (bs q12.1.Name), .int .i64 q12.1.N, .slice A16 q12.1.Kids.length c17] 24 (0, 0))]) rfl rfl 1 rfl rfl ta24 rfl rfl rfl trivial (cs' := #[.int .i64 0, .string (bs []), .int .i64 0, .slice none 0 0]) rfl ?_
      refine StD.next hcl29 (fun _ => (Among.of (Among.take 1 rfl rfl (Among.take 0 rfl rfl Among.none)))) ?_
      refine StD.takeP (i := 7) (v := (.int .i64 x22.f_at)) rfl (fun _ => Yields.assign rfl) rfl rfl trivial (by rintro _ _ _ ⟨_, _, _, _, h, _⟩; cases h) (by kernel_rfl) (listed' := #[true, true, true, true, true, true, true, true, false]) rfl ?_
      refine StD.takeP (i := 8) (v := (.int .i64 2)) rfl (fun _ => Yields.assign rfl) rfl rfl trivial (by rintro _ _ _ ⟨_, _, _, _, h, _⟩; cases h) (by kernel_rfl) (listed' := #[true, true, true, true, true, true, true, true, true]) rfl ?_
      refine StD.done (by kernel_rfl) ?_
      refine St.norm ?_
      refine St.ret ?_
      refine St.thenret ?_
      obtain rfl := sI hm
      exact St.doneR3 rfl (ResOk.cell rfl (Loads.Hk (vs := [.int .i64 0, .string (bs []), .int .i64 0, .slice none 0 0]) 0 rfl ta24 rfl rfl)) rfl rfl ⟨none, 0, rfl, Fsl.nil, rfl⟩ (fun w hs => Among.of Among.none w hs)
    · intro q30
      replace q30 : q12.2.2 = true := nb_f q30
      replace hm := iT hm q30
      refine St.skip ?_
      refine St.norm ?_
      refine St.seq ?_
      refine St.seq ?_
      refine St.region ?_
      refine St.val (v := (.slice A8 q4.length c9)) (Yields.move rfl) trivial rfl rfl ?_
      refine St.val (v := (.int .i64 q12.2.1)) (Yields.move rfl) trivial rfl rfl ?_
      obtain ⟨x31, e32, hm⟩ := bS hm
      obtain ⟨p33, cs34, jx35, R36, k37⟩ := (Fsl.mono l15 h10).idx e32
      obtain rfl := DToken.opn R36
      refine St.val (v := (.pointer (some p33))) (Yields.idx jx35 ts56 rfl rfl) trivial rfl rfl ?_
      refine St.val (v := (.pointer (some p33))) (Yields.fieldAddr (v := (.pointer (some p33))) rfl (fun _ => by kernel_rfl)) trivial rfl rfl ?_
      refine St.val (v := (.string (bs x31.s))) (Yields.load rfl (Loads.Fat k37 tc9 rfl)) trivial rfl rfl ?_
      refine St.val (v := (.bool (!decide (x31.s = ([] : List UInt8))))) (Yields.neStr rfl rfl) trivial rfl rfl ?_
      refine St.nil ?_
      refine St.norm ?_
      refine St.cond_b rfl ?_ ?_
      · intro q38
        replace q38 : ¬ (x31.s = ([] : List UInt8)) := nd_t q38
        replace hm := iF hm q38
        refine St.seq ?_
        refine StD.start [] [blk b20 (.cells #[.int .i64 q12.1.Op, .string (bs q12.1.Name), .int .i64 q12.1.N, .slice A16 q12.1.Kids.length c17] 24 (0, 0)), blk b1 (.cells #[.int .i64 0, .string (bs []), .int .i64 0, .slice none 0 0] 24 (0, 0))] hmix ?_
        refine StD.takeP (i := 0) (v := (.agg #[.int .i64 0, .string (bs []), .int .i64 0, .slice none 0 0])) rfl (fun _ => Yields.build (v := (.agg #[.int .i64 0, .string (bs []), .int .i64 0, .slice none 0 0])) (vs := #[]) (fun a _ => by simp) (fun _ => by kernel_rfl)) rfl rfl trivial (by rintro _ _ _ ⟨_, _, _, _, h, _⟩; cases h) (by kernel_rfl) (listed' := #[true, false, false, false, false, false, false, false, false]) rfl ?_
        refine StD.takeP (i := 1) (v := (.slice A8 q4.length c9)) rfl (fun _ => Yields.move rfl) rfl rfl trivial (by rintro _ _ _ ⟨_, _, _, _, h, _⟩; cases h) (by kernel_rfl) (listed' := #[true, true, false, false, false, false, false, false, false]) rfl ?_
        refine StD.takeP (i := 2) (v := (.int .i64 q12.2.1)) rfl (fun _ => Yields.move rfl) rfl rfl trivial (by rintro _ _ _ ⟨_, _, _, _, h, _⟩; cases h) (by kernel_rfl) (listed' := #[true, true, true, false, false, false, false, false, false]) rfl ?_
        obtain ⟨x39, e40, hm⟩ := bS hm
        obtain ⟨p41, cs42, jx43, R44, k45⟩ := (Fsl.mono l15 h10).idx e40
        obtain rfl := DToken.opn R44
        refine StD.takeP (i := 3) (v := (.pointer (some p41))) rfl (fun _ => Yields.idx jx43 ts56 rfl rfl) rfl rfl trivial (by rintro _ _ _ ⟨_, _, _, _, h, _⟩; cases h) (by kernel_rfl) (listed' := #[true, true, true, true, false, false, false, false, false]) rfl ?_
        refine StD.takeP (i := 4) (v := (.pointer (some (p41.add 1)))) rfl (fun _ => Yields.fieldAddr (v := (.pointer (some (p41.add 1)))) rfl (fun _ => by kernel_rfl)) rfl rfl trivial (by rintro _ _ _ ⟨_, _, _, _, h, _⟩; cases h) (by kernel_rfl) (listed' := #[true, true, true, true, true, false, false, false, false]) rfl ?_
        refine StD.take [0, 1, 2, 3, 4, 7, 8] (i := 5) (v := (.int .i64 x39.f_at)) rfl (Yields.load rfl (Loads.Fatk 1 k45 tc3 rfl)) rfl rfl trivial Among.refl (by rintro _ _ _ ⟨_, _, _, _, h, _⟩; cases h) (by kernel_rfl) (listed' := #[true, true, true, true, true, true, false, false, false]) rfl ?_
        refine StD.only (i := 6) rfl (by kernel_rfl) (listed' := #[true, true, true, true, true, true, true, false, false]) rfl ?_
        intro hcl46
        refine St.storen (R := [blk b20 (.cells #[.int .i64 q12.1.Op, .string (bs q12.1.Name), .int .i64 q12.1.N, .slice A16 q12.1.Kids.length c17] 24 (0, 0))]) rfl rfl 1 rfl rfl ta24 rfl rfl rfl trivial (cs' := #[.int .i64 0, .string (bs []), .int .i64 0, .slice none 0 0]) rfl ?_
        refine StD.next hcl46 (fun _ => (Among.of (Among.take 1 rfl rfl (Among.take 0 rfl rfl Among.none)))) ?_
        refine StD.takeP (i := 7) (v := (.int .i64 x39.f_at)) rfl (fun _ => Yields.assign rfl) rfl rfl trivial (by rintro _ _ _ ⟨_, _, _, _, h, _⟩; cases h) (by kernel_rfl) (listed' := #[true, true, true, true, true, true, true, true, false]) rfl ?_
        refine StD.takeP (i := 8) (v := (.int .i64 2)) rfl (fun _ => Yields.assign rfl) rfl rfl trivial (by rintro _ _ _ ⟨_, _, _, _, h, _⟩; cases h) (by kernel_rfl) (listed' := #[true, true, true, true, true, true, true, true, true]) rfl ?_
        refine StD.done (by kernel_rfl) ?_
        refine St.norm ?_
        refine St.ret ?_
        refine St.thenret ?_
        obtain rfl := sI hm
        exact St.doneR3 rfl (ResOk.cell rfl (Loads.Hk (vs := [.int .i64 0, .string (bs []), .int .i64 0, .slice none 0 0]) 0 rfl ta24 rfl rfl)) rfl rfl ⟨none, 0, rfl, Fsl.nil, rfl⟩ (fun w hs => Among.of Among.none w hs)
      · intro q47
        replace q47 : x31.s = ([] : List UInt8) := nd_f q47
        replace hm := iT hm q47
        refine St.skip ?_
        refine St.norm ?_
        refine St.seq ?_
        refine St.seq ?_
        refine St.region ?_
        refine St.val (v := (.agg #[.int .i64 q12.1.Op, .string (bs q12.1.Name), .int .i64 q12.1.N, .slice A16 q12.1.Kids.length c17])) (Yields.load rfl (Loads.Hk (vs := [.int .i64 q12.1.Op, .string (bs q12.1.Name), .int .i64 q12.1.N, .slice A16 q12.1.Kids.length c17]) 0 rfl ta24 rfl rfl)) trivial rfl rfl ?_
        obtain ⟨q48, e49, hm⟩ := bS hm
        refine St.call [blk b20 (.cells #[.int .i64 q12.1.Op, .string (bs q12.1.Name), .int .i64 q12.1.N, .slice A16 q12.1.Kids.length c17] 24 (0, 0)), blk b1 (.cells #[.int .i64 0, .string (bs []), .int .i64 0, .slice none 0 0] 24 (0, 0))] (m_ref08_Validate_sp (a0 := q12.1) h18 e49) rfl (fun _ ha => ev1 ha rfl) rfl en33 rfl rfl trivial ?_
        rintro _ F50 _ ⟨rfl, rfl⟩ l51
        refine St.val (v := (.int .i64 q48)) (Yields.assign rfl) trivial rfl rfl ?_
        refine St.nil ?_
        refine St.norm ?_
        refine St.seq ?_
        refine St.region ?_
        refine St.val (v := (.int .i64 q48)) (Yields.move rfl) trivial rfl rfl ?_
        refine St.val (v := (.bool (!decide (q48 = 0)))) (Yields.ne rfl rfl) trivial rfl rfl ?_
        refine St.nil ?_
        refine St.norm ?_
        refine St.cond_b rfl ?_ ?_
        · intro q52
          replace q52 : ¬ (q48 = 0) := nd_t q52
          replace hm := iF hm q52
          refine St.seq ?_
          refine St.region ?_
          refine St.val (v := (.agg #[.int .i64 0, .string (bs []), .int .i64 0, .slice none 0 0])) (Yields.build (v := (.agg #[.int .i64 0, .string (bs []), .int .i64 0, .slice none 0 0])) (vs := #[]) (fun a _ => by simp) (fun _ => by kernel_rfl)) trivial rfl rfl ?_
          refine St.val (v := (.int .i64 q48)) (Yields.move rfl) trivial rfl rfl ?_
          refine St.storen (R := [blk b20 (.cells #[.int .i64 q12.1.Op, .string (bs q12.1.Name), .int .i64 q12.1.N, .slice A16 q12.1.Kids.length c17] 24 (0, 0))]) rfl rfl 1 rfl rfl ta24 rfl rfl rfl trivial (cs' := #[.int .i64 0, .string (bs []), .int .i64 0, .slice none 0 0]) rfl ?_
          refine St.val (v := (.int .i64 0)) (Yields.assign rfl) trivial rfl rfl ?_
          refine St.val (v := (.int .i64 q48)) (Yields.assign rfl) trivial rfl rfl ?_
          refine St.nil ?_
          refine St.norm ?_
          refine St.ret ?_
          refine St.thenret ?_
          obtain rfl := sI hm
          exact St.doneR3 rfl (ResOk.cell rfl (Loads.Hk (vs := [.int .i64 0, .string (bs []), .int .i64 0, .slice none 0 0]) 0 rfl ta24 rfl rfl)) rfl rfl ⟨none, 0, rfl, Fsl.nil, rfl⟩ (fun w hs => Among.of Among.none w hs)
        · intro q53
          replace q53 : q48 = 0 := nd_f q53
          replace hm := iT hm q53
          refine St.skip ?_
          refine St.norm ?_
          refine St.seq ?_
          refine St.region ?_
          refine St.val (v := (.agg #[.int .i64 q12.1.Op, .string (bs q12.1.Name), .int .i64 q12.1.N, .slice A16 q12.1.Kids.length c17])) (Yields.load rfl (Loads.Hk (vs := [.int .i64 q12.1.Op, .string (bs q12.1.Name), .int .i64 q12.1.N, .slice A16 q12.1.Kids.length c17]) 0 rfl ta24 rfl rfl)) trivial rfl rfl ?_
          refine St.storen (R := [blk b20 (.cells #[.int .i64 q12.1.Op, .string (bs q12.1.Name), .int .i64 q12.1.N, .slice A16 q12.1.Kids.length c17] 24 (0, 0))]) rfl rfl 1 rfl rfl ta24 rfl rfl rfl trivial (cs' := #[.int .i64 q12.1.Op, .string (bs q12.1.Name), .int .i64 q12.1.N, .slice A16 q12.1.Kids.length c17]) rfl ?_
          refine St.val (v := (.int .i64 0)) (Yields.assign rfl) trivial rfl rfl ?_
          refine St.val (v := (.int .i64 0)) (Yields.assign rfl) trivial rfl rfl ?_
          refine St.nil ?_
          refine St.norm ?_
          refine St.ret ?_
          obtain rfl := sI hm
          exact St.doneR3 rfl (ResOk.cell rfl (Loads.Hk (vs := [.int .i64 q12.1.Op, .string (bs q12.1.Name), .int .i64 q12.1.N, .slice A16 q12.1.Kids.length c17]) 0 rfl ta24 rfl rfl)) rfl rfl ⟨A16, c17, rfl, (Fsl.mono l51 h18), rfl⟩ (fun w hs => Among.of Among.none w hs)

abbrev m_ref08_Exact_S (g : Nat) : Prop := ∀ {F : PH} {a0 : DValue} {a1 : DValue} {pA0_0 : Option Addr} {pc0_0 : Nat} {pA1_0 : Option Addr} {pc1_0 : Nat} (ph0_0 : Fsl 56 KDValue F pA0_0 pc0_0 a0.Kids) (ph1_0 : Fsl 56 KDValue F pA1_0 pc1_0 a1.Kids) {r : Bool} (_ : m_ref08_Exact g a0 a1 = some r),
    CallSp Try.prog 8 #[.agg #[.int .i64 a0.Op, .string (bs a0.Name), .int .i64 a0.N, .slice pA0_0 a0.Kids.length pc0_0], .agg #[.int .i64 a1.Op, .string (bs a1.Name), .int .i64 a1.N, .slice pA1_0 a1.Kids.length pc1_0]] F [] (fun u F' H' => u = (.bool r) ∧ H' = [])
theorem m_ref08_Exact_st {g : Nat} (ih_m_ref08_Exact : m_ref08_Exact_S g) : m_ref08_Exact_S (g + 1) := by
  intro F a0 a1 pA0_0 pc0_0 pA1_0 pc1_0 ph0_0 ph1_0 r hm
  rw [m_ref08_Exact] at hm
  refine CallSp.enter (args := [.agg #[.int .i64 a0.Op, .string (bs a0.Name), .int .i64 a0.N, .slice pA0_0 a0.Kids.length pc0_0], .agg #[.int .i64 a1.Op, .string (bs a1.Name), .int .i64 a1.N, .slice pA1_0 a1.Kids.length pc1_0]]) Try.func8 rfl rfl ?_
  intro w0 m0 hm0
  refine St.seq ?_
  refine St.region ?_
  refine St.box rfl trivial rfl ?_
  intro b3
  refine St.box rfl trivial rfl ?_
  intro b4
  refine St.val (v := (.bool false)) (Yields.assign rfl) trivial rfl rfl ?_
  refine St.nil ?_
  refine St.norm ?_
  refine St.seq ?_
  obtain ⟨z5, hm, hk6⟩ := bS hm
  refine St.cutI (fun a w => Has Try.f8.ntmps a [(2, .pointer (some ⟨b3, 0, none⟩)), (3, .pointer (some ⟨b4, 0, none⟩)), (33, .bool z5)] ∧ Sat ⟨w0, fun b => m0 b ≠ none, F⟩ F [blk b3 (.cells #[.int .i64 a0.Op, .string (bs a0.Name), .int .i64 a0.N, .slice pA0_0 a0.Kids.length pc0_0] 24 (0, 0)), blk b4 (.cells #[.int .i64 a1.Op, .string (bs a1.Name), .int .i64 a1.N, .slice pA1_0 a1.Kids.length pc1_0] 24 (0, 0))] w) ?_ ?_
  · skip
    refine St.region ?_
    refine St.val (v := (.pointer (some ⟨b3, 0, none⟩))) (Yields.fieldAddr (v := (.pointer (some ⟨b3, 0, none⟩))) rfl (fun _ => by kernel_rfl)) trivial rfl rfl ?_
    refine St.val (v := (.int .i64 a0.Op)) (Yields.load rfl (Loads.H1 1 rfl tc3 rfl)) trivial rfl rfl ?_
    refine St.val (v := (.pointer (some ⟨b4, 0, none⟩))) (Yields.fieldAddr (v := (.pointer (some ⟨b4, 0, none⟩))) rfl (fun _ => by kernel_rfl)) trivial rfl rfl ?_
    refine St.val (v := (.int .i64 a1.Op)) (Yields.load rfl (Loads.H1 0 rfl tc3 rfl)) trivial rfl rfl ?_
    by_cases q7 : a0.Op = a1.Op
    · replace hm := iT hm q7
      refine St.val (v := (.bool false)) (Yields.nis q7 (Yields.ne rfl rfl)) trivial rfl rfl ?_
      refine St.val (v := (.bool false)) (Yields.move rfl) trivial rfl rfl ?_
      refine St.val (v := (.pointer (some ⟨b3, 1, none⟩))) (Yields.fieldAddr (v := (.pointer (some ⟨b3, 1, none⟩))) rfl (fun _ => by kernel_rfl)) rfl rfl rfl ?_
      refine St.val (v := (.string (bs a0.Name))) (Yields.load rfl (Loads.H1 1 rfl tc9 rfl)) rfl rfl rfl ?_
      refine St.val (v := (.pointer (some ⟨b4, 1, none⟩))) (Yields.fieldAddr (v := (.pointer (some ⟨b4, 1, none⟩))) rfl (fun _ => by kernel_rfl)) rfl rfl rfl ?_
      refine St.val (v := (.string (bs a1.Name))) (Yields.load rfl (Loads.H1 0 rfl tc9 rfl)) rfl rfl rfl ?_
      by_cases q8 : a0.Name = a1.Name
      · replace hm := iT hm q8
        refine St.val (v := (.bool false)) (Yields.nis q8 (Yields.neStr rfl rfl)) rfl rfl rfl ?_
        refine St.val (v := (.bool false)) (Yields.pick_f rfl rfl) trivial rfl rfl ?_
        refine St.val (v := (.bool false)) (Yields.move rfl) trivial rfl rfl ?_
        refine St.val (v := (.pointer (some ⟨b3, 2, none⟩))) (Yields.fieldAddr (v := (.pointer (some ⟨b3, 2, none⟩))) rfl (fun _ => by kernel_rfl)) rfl rfl rfl ?_
        refine St.val (v := (.int .i64 a0.N)) (Yields.load rfl (Loads.H1 1 rfl tc3 rfl)) rfl rfl rfl ?_
        refine St.val (v := (.pointer (some ⟨b4, 2, none⟩))) (Yields.fieldAddr (v := (.pointer (some ⟨b4, 2, none⟩))) rfl (fun _ => by kernel_rfl)) rfl rfl rfl ?_
        refine St.val (v := (.int .i64 a1.N)) (Yields.load rfl (Loads.H1 0 rfl tc3 rfl)) rfl rfl rfl ?_
        by_cases q9 : a0.N = a1.N
        · replace hm := iT hm q9
          refine St.val (v := (.bool false)) (Yields.nis q9 (Yields.ne rfl rfl)) rfl rfl rfl ?_
          refine St.val (v := (.bool false)) (Yields.pick_f rfl rfl) trivial rfl rfl ?_
          refine St.val (v := (.bool false)) (Yields.move rfl) trivial rfl rfl ?_
          refine St.val (v := (.pointer (some ⟨b3, 3, none⟩))) (Yields.fieldAddr (v := (.pointer (some ⟨b3, 3, none⟩))) rfl (fun _ => by kernel_rfl)) rfl rfl rfl ?_
          refine St.val (v := (.slice pA0_0 a0.Kids.length pc0_0)) (Yields.load rfl (Loads.H1 1 rfl tc22 rfl)) rfl rfl rfl ?_
          refine St.val (v := (.int .i64 ((a0.Kids.length : Nat) : Int))) (Yields.lenSlice tu22 rfl) rfl rfl rfl ?_
          refine St.val (v := (.pointer (some ⟨b4, 3, none⟩))) (Yields.fieldAddr (v := (.pointer (some ⟨b4, 3, none⟩))) rfl (fun _ => by kernel_rfl)) rfl rfl rfl ?_
          refine St.val (v := (.slice pA1_0 a1.Kids.length pc1_0)) (Yields.load rfl (Loads.H1 0 rfl tc22 rfl)) rfl rfl rfl ?_
          refine St.val (v := (.int .i64 ((a1.Kids.length : Nat) : Int))) (Yields.lenSlice tu22 rfl) rfl rfl rfl ?_
          refine St.val (v := (.bool (!decide (((a0.Kids.length : Nat) : Int) = ((a1.Kids.length : Nat) : Int))))) (Yields.ne rfl rfl) rfl rfl rfl ?_
          refine St.val (v := (.bool (!decide (((a0.Kids.length : Nat) : Int) = ((a1.Kids.length : Nat) : Int))))) (Yields.pick_f rfl rfl) trivial rfl rfl ?_
          refine St.nil ?_
          obtain rfl := sI hm
          intro a w ha hs
          exact ⟨ha.covers ⟨rfl, rfl, rfl, trivial⟩, (Among.of (Among.take 1 rfl rfl (Among.take 0 rfl rfl Among.none)) _ hs)⟩
        · replace hm := iF hm q9
          refine St.val (v := (.bool true)) (Yields.nisnt q9 (Yields.ne rfl rfl)) rfl rfl rfl ?_
          refine St.val (v := (.bool true)) (Yields.pick_f rfl rfl) trivial rfl rfl ?_
          refine St.val (v := (.bool true)) (Yields.move rfl) trivial rfl rfl ?_
          refine St.unwanted rfl rfl rfl ?_
          refine St.unwanted rfl rfl rfl ?_
          refine St.unwanted rfl rfl rfl ?_
          refine St.unwanted rfl rfl rfl ?_
          refine St.unwanted rfl rfl rfl ?_
          refine St.unwanted rfl rfl rfl ?_
          refine St.unwanted rfl rfl rfl ?_
          refine St.val (v := (.bool true)) (Yields.pick_t rfl rfl) trivial rfl rfl ?_
          refine St.nil ?_
          obtain rfl := sI hm
          intro a w ha hs
          exact ⟨ha.covers ⟨rfl, rfl, rfl, trivial⟩, (Among.of (Among.take 1 rfl rfl (Among.take 0 rfl rfl Among.none)) _ hs)⟩
      · replace hm := iF hm q8
        refine St.val (v := (.bool true)) (Yields.nisnt q8 (Yields.neStr rfl rfl)) rfl rfl rfl ?_
        refine St.val (v := (.bool true)) (Yields.pick_f rfl rfl) trivial rfl rfl ?_
        refine St.val (v := (.bool true)) (Yields.move rfl) trivial rfl rfl ?_
        refine St.unwanted rfl rfl rfl ?_
        refine St.unwanted rfl rfl rfl ?_
        refine St.unwanted rfl rfl rfl ?_
        refine St.unwanted rfl rfl rfl ?_
        refine St.unwanted rfl rfl rfl ?_
        refine St.val (v := (.bool true)) (Yields.pick_t rfl rfl) trivial rfl rfl ?_
        refine St.val (v := (.bool true)) (Yields.move rfl) trivial rfl rfl ?_
        refine St.unwanted rfl rfl rfl ?_
        refine St.unwanted rfl rfl rfl ?_
        refine St.unwanted rfl rfl rfl ?_
        refine St.unwanted rfl rfl rfl ?_
        refine St.unwanted rfl rfl rfl ?_
        refine St.unwanted rfl rfl rfl ?_
        refine St.unwanted rfl rfl rfl ?_
        refine St.val (v := (.bool true)) (Yields.pick_t rfl rfl) trivial rfl rfl ?_
        refine St.nil ?_
        obtain rfl := sI hm
        intro a w ha hs
        exact ⟨ha.covers ⟨rfl, rfl, rfl, trivial⟩, (Among.of (Among.take 1 rfl rfl (Among.take 0 rfl rfl Among.none)) _ hs)⟩
    · replace hm := iF hm q7
      refine St.val (v := (.bool true)) (Yields.nisnt q7 (Yields.ne rfl rfl)) trivial rfl rfl ?_
      refine St.val (v := (.bool true)) (Yields.move rfl) trivial rfl rfl ?_
      refine St.unwanted rfl rfl rfl ?_
      refine St.unwanted rfl rfl rfl ?_
      refine St.unwanted rfl rfl rfl ?_
      refine St.unwanted rfl rfl rfl ?_
      refine St.unwanted rfl rfl rfl ?_
      refine St.val (v := (.bool true)) (Yields.pick_t rfl rfl) trivial rfl rfl ?_
      refine St.val (v := (.bool true)) (Yields.move rfl) trivial rfl rfl ?_
      refine St.unwanted rfl rfl rfl ?_
      refine St.unwanted rfl rfl rfl ?_
      refine St.unwanted rfl rfl rfl ?_
      refine St.unwanted rfl rfl rfl ?_
      refine St.unwanted rfl rfl rfl ?_
      refine St.val (v := (.bool true)) (Yields.pick_t rfl rfl) trivial rfl rfl ?_
      refine St.val (v := (.bool true)) (Yields.move rfl) trivial rfl rfl ?_
      refine St.unwanted rfl rfl rfl ?_
      refine St.unwanted rfl rfl rfl ?_
      refine St.unwanted rfl rfl rfl ?_
      refine St.unwanted rfl rfl rfl ?_
      refine St.unwanted rfl rfl rfl ?_
      refine St.unwanted rfl rfl rfl ?_
      refine St.unwanted rfl rfl rfl ?_
      refine St.val (v := (.bool true)) (Yields.pick_t rfl rfl) trivial rfl rfl ?_
      refine St.nil ?_
      obtain rfl := sI hm
      intro a w ha hs
      exact ⟨ha.covers ⟨rfl, rfl, rfl, trivial⟩, (Among.of (Among.take 1 rfl rfl (Among.take 0 rfl rfl Among.none)) _ hs)⟩
  · rintro a w ⟨ha, hs⟩
    replace hm := hk6
    refine St.use (?_ : St _ _ _ _ _ _) ha hs
    clear ha hs a w
    refine St.cond_b rfl ?_ ?_
    · intro q10
      replace q10 : z5 = true := q10
      replace hm := iT hm q10
      refine St.seq ?_
      refine St.region ?_
      refine St.val (v := (.bool false)) (Yields.assign rfl) trivial rfl rfl ?_
      refine St.nil ?_
      refine St.norm ?_
      refine St.ret ?_
      refine St.thenret ?_
      obtain rfl := sI hm
      exact St.doneR1 rfl rfl ⟨rfl, rfl⟩ (fun w hs => Among.of Among.none w hs)
    · intro q11
      replace q11 : ¬ (z5 = true) := bf q11
      replace hm := iF hm q11
      refine St.skip ?_
      refine St.norm ?_
      obtain ⟨o15, hm, ho16⟩ := jS hm
      refine St.cutI (fun a w => ∃ z12 : Unit, o15 = .inl z12 ∧ ∃ (F13 : PH), PH.le F F13 ∧ Has Try.f8.ntmps a [] ∧ Sat ⟨w0, fun b => m0 b ≠ none, F⟩ F13 [] w) ?_ ?_
      · skip
        refine St.seq ?_
        refine St.region ?_
        refine St.val (v := (.int .i64 0)) (Yields.assign rfl) trivial rfl rfl ?_
        refine St.nil ?_
        refine St.norm ?_
        refine St.block ?_
        refine St.loopM hm (fun s19 a w => ∃ (F23 : PH), PH.le F F23 ∧ Has Try.f8.ntmps a [(2, .pointer (some ⟨b3, 0, none⟩)), (3, .pointer (some ⟨b4, 0, none⟩)), (5, .int .i64 ((s19 : Nat) : Int))] ∧ Sat ⟨w0, fun b => m0 b ≠ none, F⟩ F23 [blk b3 (.cells #[.int .i64 a0.Op, .string (bs a0.Name), .int .i64 a0.N, .slice pA0_0 a0.Kids.length pc0_0] 24 (0, 0)), blk b4 (.cells #[.int .i64 a1.Op, .string (bs a1.Name), .int .i64 a1.N, .slice pA1_0 a1.Kids.length pc1_0] 24 (0, 0))] w) ?_ ?_
        · skip
          intro a w ha hs
          exact ⟨F, (PH.le_refl _), ha.covers ⟨rfl, rfl, rfl, trivial⟩, (Among.of (Among.take 0 rfl rfl (Among.take 0 rfl rfl Among.none)) _ hs)⟩
        · rintro s19 o20 co21 hm ho22 a w ⟨F23, l24, ha, hs⟩
          refine St.use (?_ : St _ _ _ _ _ _) ha hs
          clear ha hs a w
          refine St.seq ?_
          refine St.seq ?_
          refine St.region ?_
          refine St.val (v := (.int .i64 ((s19 : Nat) : Int))) (Yields.move rfl) trivial rfl rfl ?_
          refine St.val (v := (.pointer (some ⟨b3, 3, none⟩))) (Yields.fieldAddr (v := (.pointer (some ⟨b3, 3, none⟩))) rfl (fun _ => by kernel_rfl)) trivial rfl rfl ?_
          refine St.val (v := (.slice pA0_0 a0.Kids.length pc0_0)) (Yields.load rfl (Loads.H1 0 rfl tc22 rfl)) trivial rfl rfl ?_
          refine St.val (v := (.int .i64 ((a0.Kids.length : Nat) : Int))) (Yields.lenSlice tu22 rfl) trivial rfl rfl ?_
          refine St.val (v := (.bool (decide (((s19 : Nat) : Int) < ((a0.Kids.length : Nat) : Int))))) (Yields.lt rfl rfl) trivial rfl rfl ?_
          refine St.nil ?_
          refine St.norm ?_
          refine St.cond_b rfl ?_ ?_
          · intro q25
            replace q25 : ((s19 : Nat) : Int) < ((a0.Kids.length : Nat) : Int) := of_decide_eq_true q25
            replace hm := iT hm q25
            refine St.skip ?_
            refine St.norm ?_
            refine St.seq ?_
            refine St.block ?_
            refine St.seq ?_
            refine StD.start [10] [blk b3 (.cells #[.int .i64 a0.Op, .string (bs a0.Name), .int .i64 a0.N, .slice pA0_0 a0.Kids.length pc0_0] 24 (0, 0)), blk b4 (.cells #[.int .i64 a1.Op, .string (bs a1.Name), .int .i64 a1.N, .slice pA1_0 a1.Kids.length pc1_0] 24 (0, 0))] hmix ?_
            refine StD.takeP (i := 0) (v := (.pointer (some ⟨b3, 3, none⟩))) rfl (fun _ => Yields.fieldAddr (v := (.pointer (some ⟨b3, 3, none⟩))) rfl (fun _ => by kernel_rfl)) rfl rfl trivial (by rintro _ _ _ ⟨_, _, _, _, h, _⟩; cases h) (by kernel_rfl) (listed' := #[true, false, false, false, false, false, false, false, false, false, false, false]) rfl ?_
            refine StD.take [0, 2, 3, 5, 7, 8, 11] (i := 1) (v := (.slice pA0_0 a0.Kids.length pc0_0)) rfl (Yields.load rfl (Loads.H1 0 rfl tc22 rfl)) rfl rfl trivial Among.refl (by rintro _ _ _ ⟨_, _, _, _, h, _⟩; cases h) (by kernel_rfl) (listed' := #[true, true, false, false, false, false, false, false, false, false, false, false]) rfl ?_
            refine StD.takeP (i := 2) (v := (.int .i64 ((s19 : Nat) : Int))) rfl (fun _ => Yields.move rfl) rfl rfl trivial (by rintro _ _ _ ⟨_, _, _, _, h, _⟩; cases h) (by kernel_rfl) (listed' := #[true, true, true, false, false, false, false, false, false, false, false, false]) rfl ?_
            obtain ⟨x26, e27, hm⟩ := bS hm
            obtain ⟨p28, cs29, jx30, R31, k32⟩ := (Fsl.mono l24 ph0_0).nidx e27
            obtain ⟨A33, c34, rfl, h35⟩ := DValue.opn R31
            refine StD.takeP (i := 3) (v := (.pointer (some p28))) rfl (fun _ => Yields.idx jx30 ts22 rfl rfl) rfl rfl trivial (by rintro _ _ _ ⟨_, _, _, _, h, _⟩; cases h) (by kernel_rfl) (listed' := #[true, true, true, true, false, false, false, false, false, false, false, false]) rfl ?_
            refine StD.take [0, 2, 3, 5, 7, 8, 11] (i := 4) (v := (.agg #[.int .i64 x26.Op, .string (bs x26.Name), .int .i64 x26.N, .slice A33 x26.Kids.length c34])) rfl (Yields.load rfl (Loads.Fatn0 k32 ta24)) rfl rfl trivial Among.refl (by rintro _ _ _ ⟨_, _, _, _, h, _⟩; cases h) (by kernel_rfl) (listed' := #[true, true, true, true, true, false, false, false, false, false, false, false]) rfl ?_
            refine StD.takeP (i := 5) (v := (.pointer (some ⟨b4, 3, none⟩))) rfl (fun _ => Yields.fieldAddr (v := (.pointer (some ⟨b4, 3, none⟩))) rfl (fun _ => by kernel_rfl)) rfl rfl trivial (by rintro _ _ _ ⟨_, _, _, _, h, _⟩; cases h) (by kernel_rfl) (listed' := #[true, true, true, true, true, true, false, false, false, false, false, false]) rfl ?_
            refine StD.take [0, 2, 3, 5, 7, 8, 11] (i := 6) (v := (.slice pA1_0 a1.Kids.length pc1_0)) rfl (Yields.load rfl (Loads.H1 1 rfl tc22 rfl)) rfl rfl trivial Among.refl (by rintro _ _ _ ⟨_, _, _, _, h, _⟩; cases h) (by kernel_rfl) (listed' := #[true, true, true, true, true, true, true, false, false, false, false, false]) rfl ?_
            refine StD.takeP (i := 7) (v := (.int .i64 ((s19 : Nat) : Int))) rfl (fun _ => Yields.move rfl) rfl rfl trivial (by rintro _ _ _ ⟨_, _, _, _, h, _⟩; cases h) (by kernel_rfl) (listed' := #[true, true, true, true, true, true, true, true, false, false, false, false]) rfl ?_
            obtain ⟨x37, e38, hm⟩ := bS hm
            obtain ⟨p39, cs40, jx41, R42, k43⟩ := (Fsl.mono l24 ph1_0).nidx e38
            obtain ⟨A44, c45, rfl, h46⟩ := DValue.opn R42
            refine StD.takeP (i := 8) (v := (.pointer (some p39))) rfl (fun _ => Yields.idx jx41 ts22 rfl rfl) rfl rfl trivial (by rintro _ _ _ ⟨_, _, _, _, h, _⟩; cases h) (by kernel_rfl) (listed' := #[true, true, true, true, true, true, true, true, true, false, false, false]) rfl ?_
            refine StD.take [0, 2, 3, 5, 7, 8, 11] (i := 9) (v := (.agg #[.int .i64 x37.Op, .string (bs x37.Name), .int .i64 x37.N, .slice A44 x37.Kids.length c45])) rfl (Yields.load rfl (Loads.Fatn0 k43 ta24)) rfl rfl trivial Among.refl (by rintro _ _ _ ⟨_, _, _, _, h, _⟩; cases h) (by kernel_rfl) (listed' := #[true, true, true, true, true, true, true, true, true, true, false, false]) rfl ?_
            refine StD.only (i := 10) rfl (by kernel_rfl) (listed' := #[true, true, true, true, true, true, true, true, true, true, true, false]) rfl ?_
            intro hcl48
            obtain ⟨q49, e50, hm⟩ := bS hm
            refine St.call [blk b3 (.cells #[.int .i64 a0.Op, .string (bs a0.Name), .int .i64 a0.N, .slice pA0_0 a0.Kids.length pc0_0] 24 (0, 0)), blk b4 (.cells #[.int .i64 a1.Op, .string (bs a1.Name), .int .i64 a1.N, .slice pA1_0 a1.Kids.length pc1_0] 24 (0, 0))] (ih_m_ref08_Exact (a0 := x26) (a1 := x37) h35 h46 e50) rfl (fun _ ha => ev2 ha rfl rfl) rfl en8 rfl rfl trivial ?_
            rintro _ F51 _ ⟨rfl, rfl⟩ l52
            refine StD.next hcl48 (fun h => by cases h) ?_
            refine StD.takeP (i := 11) (v := (.bool (!q49))) rfl (fun _ => Yields.not rfl) rfl rfl trivial (by rintro _ _ _ ⟨_, _, _, _, h, _⟩; cases h) (by kernel_rfl) (listed' := #[true, true, true, true, true, true, true, true, true, true, true, true]) rfl ?_
            refine StD.done (by kernel_rfl) ?_
            refine St.norm ?_
            refine St.cond_b rfl ?_ ?_
            · intro q53
              replace q53 : ¬ (q49 = true) := nb_t q53
              replace hm := iF hm q53
              refine St.seq ?_
              refine St.region ?_
              refine St.val (v := (.bool false)) (Yields.assign rfl) trivial rfl rfl ?_
              refine St.nil ?_
              refine St.norm ?_
              refine St.ret ?_
              refine St.inret ?_
              refine St.thenret ?_
              refine St.thenret ?_
              refine St.inret ?_
              refine St.thenret ?_
              obtain rfl := sI hm
              obtain rfl := aR ho22
              obtain rfl := aR ho16
              exact St.doneR1 rfl rfl ⟨rfl, rfl⟩ (fun w hs => Among.of Among.none w hs)
            · intro q54
              replace q54 : q49 = true := nb_f q54
              replace hm := iT hm q54
              refine St.skip ?_
              refine St.innorm ?_
              refine St.norm ?_
              refine St.region ?_
              refine St.val (v := (.int .i64 ((s19 : Nat) : Int))) (Yields.move rfl) trivial rfl rfl ?_
              refine St.val (v := (.int .i64 ((s19 + 1 : Nat) : Int))) (Yields.addn (j := 1) rfl rfl rfl (by have q_0 := q25; have q_1 := ph0_0.bnd.2; omega)) trivial rfl rfl ?_
              refine St.val (v := (.int .i64 ((s19 + 1 : Nat) : Int))) (Yields.assign rfl) trivial rfl rfl ?_
              refine St.nil ?_
              refine St.norm ?_
              obtain rfl := sI hm
              intro a w ha hs
              exact ⟨s19 + 1, aL ho22, F51, (PH.le_trans l24 l52), ha.covers ⟨rfl, rfl, rfl, trivial⟩, (Among.of (Among.take 0 rfl rfl (Among.take 0 rfl rfl Among.none)) _ hs)⟩
          · intro q55
            replace q55 : ¬ (((s19 : Nat) : Int) < ((a0.Kids.length : Nat) : Int)) := of_decide_eq_false q55
            replace hm := iF hm q55
            refine St.exit ?_
            refine St.thenexit ?_
            refine St.thenexit ?_
            refine St.inexit ?_
            obtain rfl := sI hm
            obtain rfl := aR ho22
            intro a w ha hs
            exact ⟨(), rfl, F23, l24, ha.covers trivial, (Among.of Among.none _ hs)⟩
      · rintro a w ⟨z12, rfl, F13, l14, ha, hs⟩
        replace hm := aL ho16
        refine St.use (?_ : St _ _ _ _ _ _) ha hs
        clear ha hs a w
        refine St.seq ?_
        refine St.region ?_
        refine St.val (v := (.bool true)) (Yields.assign rfl) trivial rfl rfl ?_
        refine St.nil ?_
        refine St.norm ?_
        refine St.ret ?_
        obtain rfl := sI hm
        exact St.doneR1 rfl rfl ⟨rfl, rfl⟩ (fun w hs => Among.of Among.none w hs)
theorem m_ref08_Exact_all : ∀ g, m_ref08_Exact_S g
  | 0 => (by (try unfold m_ref08_Exact_S); intros; rename_i hm; exact nomatch (show (none : Option _) = some _ from hm))
  | g + 1 => m_ref08_Exact_st (m_ref08_Exact_all g)
theorem m_ref08_Exact_sp {F : PH} {g : Nat} {a0 : DValue} {a1 : DValue} {pA0_0 : Option Addr} {pc0_0 : Nat} {pA1_0 : Option Addr} {pc1_0 : Nat} (ph0_0 : Fsl 56 KDValue F pA0_0 pc0_0 a0.Kids) (ph1_0 : Fsl 56 KDValue F pA1_0 pc1_0 a1.Kids) {r : Bool} (hm : m_ref08_Exact g a0 a1 = some r) :
    CallSp Try.prog 8 #[.agg #[.int .i64 a0.Op, .string (bs a0.Name), .int .i64 a0.N, .slice pA0_0 a0.Kids.length pc0_0], .agg #[.int .i64 a1.Op, .string (bs a1.Name), .int .i64 a1.N, .slice pA1_0 a1.Kids.length pc1_0]] F [] (fun u F' H' => u = (.bool r) ∧ H' = []) := (m_ref08_Exact_all g) ph0_0 ph1_0 hm

theorem m_value_Answer_sp {F : PH} {g : Nat} {a0 : DAnswer} {pA0_0 : Option Addr} {pc0_0 : Nat} {pA0_1 : Option Addr} {pc0_1 : Nat} (ph0_0 : Fsl 56 KDValue F pA0_0 pc0_0 a0.V.Kids) (ph0_1 : Fsl 56 KDValue F pA0_1 pc0_1 a0.B) {r : Int} (hm : m_value_Answer g a0 = some r) :
    CallSp Try.prog 18 #[.agg #[.int .i64 a0.V.Op, .string (bs a0.V.Name), .int .i64 a0.V.N, .slice pA0_0 a0.V.Kids.length pc0_0, .slice pA0_1 a0.B.length pc0_1]] F [] (fun u F' H' => u = (.int .i64 r) ∧ H' = []) := by
  unfold m_value_Answer at hm
  refine CallSp.enter (args := [.agg #[.int .i64 a0.V.Op, .string (bs a0.V.Name), .int .i64 a0.V.N, .slice pA0_0 a0.V.Kids.length pc0_0, .slice pA0_1 a0.B.length pc0_1]]) Try.func18 rfl rfl ?_
  intro w0 m0 hm0
  refine St.seq ?_
  refine St.region ?_
  refine St.box rfl trivial rfl ?_
  intro b3
  refine St.val (v := (.int .i64 0)) (Yields.assign rfl) trivial rfl rfl ?_
  refine St.nil ?_
  refine St.norm ?_
  refine St.seq ?_
  refine St.seq ?_
  refine St.region ?_
  refine St.val (v := (.pointer (some ⟨b3, 4, none⟩))) (Yields.fieldAddr (v := (.pointer (some ⟨b3, 4, none⟩))) rfl (fun _ => by kernel_rfl)) trivial rfl rfl ?_
  refine St.val (v := (.slice pA0_1 a0.B.length pc0_1)) (Yields.load rfl (Loads.H1 0 rfl tc22 rfl)) trivial rfl rfl ?_
  refine St.val (v := (.int .i64 ((a0.B.length : Nat) : Int))) (Yields.lenSlice tu22 rfl) trivial rfl rfl ?_
  refine St.val (v := (.bool (decide (((a0.B.length : Nat) : Int) > 12)))) (Yields.gt rfl rfl) trivial rfl rfl ?_
  refine St.nil ?_
  refine St.norm ?_
  refine St.cond_b rfl ?_ ?_
  · intro q4
    replace q4 : ((a0.B.length : Nat) : Int) > 12 := of_decide_eq_true q4
    replace hm := iT hm q4
    refine St.seq ?_
    refine St.region ?_
    refine St.val (v := (.int .i64 3)) (Yields.assign rfl) trivial rfl rfl ?_
    refine St.nil ?_
    refine St.norm ?_
    refine St.ret ?_
    refine St.thenret ?_
    obtain rfl := sI hm
    exact St.doneR1 rfl rfl ⟨rfl, rfl⟩ (fun w hs => Among.of Among.none w hs)
  · intro q5
    replace q5 : ¬ (((a0.B.length : Nat) : Int) > 12) := of_decide_eq_false q5
    replace hm := iF hm q5
    refine St.skip ?_
    refine St.norm ?_
    refine St.seq ?_
    refine St.region ?_
    refine St.val (v := (.pointer (some ⟨b3, 0, none⟩))) (Yields.fieldAddr (v := (.pointer (some ⟨b3, 0, none⟩))) rfl (fun _ => by kernel_rfl)) trivial rfl rfl ?_
    refine St.val (v := (.agg #[.int .i64 a0.V.Op, .string (bs a0.V.Name), .int .i64 a0.V.N, .slice pA0_0 a0.V.Kids.length pc0_0])) (Yields.load rfl (Loads.Hk (vs := [.int .i64 a0.V.Op, .string (bs a0.V.Name), .int .i64 a0.V.N, .slice pA0_0 a0.V.Kids.length pc0_0]) 0 rfl ta24 rfl rfl)) trivial rfl rfl ?_
    refine St.buildSlice (e := 24) (cells := #[.int .i64 a0.V.Op, .string (bs a0.V.Name), .int .i64 a0.V.N, .slice pA0_0 a0.V.Kids.length pc0_0]) (vs := #[(0, .agg #[.int .i64 a0.V.Op, .string (bs a0.V.Name), .int .i64 a0.V.N, .slice pA0_0 a0.V.Kids.length pc0_0])]) (fun _ ha => evp1 ha rfl) (fun _ => by kernel_rfl) rfl trivial ?_
    intro b6
    refine St.weak (R := [blk b3 (.cells #[.int .i64 a0.V.Op, .string (bs a0.V.Name), .int .i64 a0.V.N, .slice pA0_0 a0.V.Kids.length pc0_0, .slice pA0_1 a0.B.length pc0_1] 37 (0, 0))]) (c' := rowo (some ⟨b6, 0, none⟩) ([a0.V] : List DValue).length 1 24 4 [.int .i64 a0.V.Op, .string (bs a0.V.Name), .int .i64 a0.V.N, .slice pA0_0 a0.V.Kids.length pc0_0]) 0 rfl rfl (fun m hm => rowo_of_row (row_of_blk (k := 1) rfl (by decide) hm)) ?_
    refine St.val (v := (.pointer (some ⟨b3, 4, none⟩))) (Yields.fieldAddr (v := (.pointer (some ⟨b3, 4, none⟩))) rfl (fun _ => by kernel_rfl)) trivial rfl rfl ?_
    refine St.val (v := (.slice pA0_1 a0.B.length pc0_1)) (Yields.load rfl (Loads.H1 1 rfl tc22 rfl)) trivial rfl rfl ?_
    obtain ⟨x12, e13, hm⟩ := bS hm
    refine St.pushS (R := [blk b3 (.cells #[.int .i64 a0.V.Op, .string (bs a0.V.Name), .int .i64 a0.V.N, .slice pA0_0 a0.V.Kids.length pc0_0, .slice pA0_1 a0.B.length pc0_1] 37 (0, 0))]) e13 ts22 rfl rfl rfl rfl 0 rfl rfl (show Cat KDValue F [.int .i64 a0.V.Op, .string (bs a0.V.Name), .int .i64 a0.V.N, .slice pA0_0 a0.V.Kids.length pc0_0] ([a0.V] : List DValue) from ⟨[.int .i64 a0.V.Op, .string (bs a0.V.Name), .int .i64 a0.V.N, .slice pA0_0 a0.V.Kids.length pc0_0], _, rfl, (DValue.of ph0_0), rfl⟩) ph0_1 rfl trivial ?_
    intro A8 c9 cells10 h11
    refine St.val (v := (.slice A8 x12.length c9)) (Yields.assign rfl) trivial rfl rfl ?_
    refine St.nil ?_
    refine St.norm ?_
    obtain ⟨o18, hm, ho19⟩ := jS hm
    refine St.cutI (fun a w => ∃ z15 : Unit, o18 = .inl z15 ∧ ∃ (F16 : PH), PH.le F F16 ∧ Has Try.f18.ntmps a [] ∧ Sat ⟨w0, fun b => m0 b ≠ none, F⟩ F16 [] w) ?_ ?_
    · skip
      refine St.seq ?_
      refine St.region ?_
      refine St.buildSlice (e := 25) (cells := #[.int .i64 3, .int .i64 1]) (vs := #[(0, .int .i64 3), (1, .int .i64 1)]) (fun a _ => by simp only [List.map_toArray, List.map_cons, List.map_nil, Act.eval] <;> rfl) (fun _ => by kernel_rfl) rfl trivial ?_
      intro b20
      refine St.weak (R := [rowo A8 x12.length c9 24 4 cells10, blk b3 (.cells #[.int .i64 a0.V.Op, .string (bs a0.V.Name), .int .i64 a0.V.N, .slice pA0_0 a0.V.Kids.length pc0_0, .slice pA0_1 a0.B.length pc0_1] 37 (0, 0))]) (c' := rowo (some ⟨b20, 0, none⟩) ([3, 1] : List Int).length 2 25 1 [.int .i64 3, .int .i64 1]) 0 rfl rfl (fun m hm => rowo_of_row (row_of_blk (k := 2) rfl (by decide) hm)) ?_
      refine St.val (v := (.int .i64 ((([3, 1] : List Int).length : Nat) : Int))) (Yields.lenSlice tu69 rfl) trivial rfl rfl ?_
      refine St.val (v := (.int .i64 0)) (Yields.move rfl) trivial rfl rfl ?_
      refine St.nil ?_
      refine St.norm ?_
      refine St.block ?_
      refine St.loopM hm (fun s24 a w => ∃ (F28 : PH), PH.le F F28 ∧ Has Try.f18.ntmps a [(3, .slice A8 x12.length c9), (18, .slice (some ⟨b20, 0, none⟩) ([3, 1] : List Int).length 2), (19, .int .i64 ((([3, 1] : List Int).length : Nat) : Int)), (20, .int .i64 ((s24 : Nat) : Int))] ∧ Sat ⟨w0, fun b => m0 b ≠ none, F⟩ F28 [rowo A8 x12.length c9 24 4 cells10, rowo (some ⟨b20, 0, none⟩) ([3, 1] : List Int).length 2 25 1 [.int .i64 3, .int .i64 1]] w) ?_ ?_
      · skip
        intro a w ha hs
        exact ⟨F, (PH.le_refl _), ha.covers ⟨rfl, rfl, rfl, rfl, trivial⟩, (Among.of (Among.take 1 rfl rfl (Among.take 0 rfl rfl Among.none)) _ hs)⟩
      · rintro s24 o25 co26 hm ho27 a w ⟨F28, l29, ha, hs⟩
        refine St.use (?_ : St _ _ _ _ _ _) ha hs
        clear ha hs a w
        refine St.seq ?_
        refine St.region ?_
        refine St.val (v := (.bool (decide (((s24 : Nat) : Int) < ((([3, 1] : List Int).length : Nat) : Int))))) (Yields.lt rfl rfl) trivial rfl rfl ?_
        refine St.nil ?_
        refine St.norm ?_
        refine St.seq ?_
        refine St.cond_b rfl ?_ ?_
        · intro q30
          replace q30 : ((s24 : Nat) : Int) < ((([3, 1] : List Int).length : Nat) : Int) := of_decide_eq_true q30
          replace hm := iT hm q30
          refine St.skip ?_
          refine St.norm ?_
          obtain ⟨o34, hm, ho35⟩ := jS hm
          refine St.cutI (fun a w => ∃ z31 : Unit, o34 = .inl z31 ∧ ∃ (F32 : PH), PH.le F28 F32 ∧ Has Try.f18.ntmps a [(3, .slice A8 x12.length c9), (18, .slice (some ⟨b20, 0, none⟩) ([3, 1] : List Int).length 2), (19, .int .i64 ((([3, 1] : List Int).length : Nat) : Int)), (20, .int .i64 ((s24 : Nat) : Int))] ∧ Sat ⟨w0, fun b => m0 b ≠ none, F⟩ F32 [rowo A8 x12.length c9 24 4 cells10, rowo (some ⟨b20, 0, none⟩) ([3, 1] : List Int).length 2 25 1 [.int .i64 3, .int .i64 1]] w) ?_ ?_
          · skip
            refine St.block ?_
            refine St.seq ?_
            refine St.region ?_
            obtain ⟨x36, e37, hm⟩ := bS hm
            obtain ⟨jx38, jx39, cs40, R41, k42⟩ := (Cat.mono l29 (show Cat (Kind.int .i64) F [.int .i64 3, .int .i64 1] ([3, 1] : List Int) from ⟨[.int .i64 3], _, rfl, rfl, ⟨[.int .i64 1], _, rfl, rfl, rfl⟩⟩)).nidx e37
            obtain rfl := R41
            refine St.rowo_at 1 rfl (by omega) ?_
            intro hA43
            refine St.val (v := (.pointer (some ⟨bk (some ⟨b20, 0, none⟩), bo (some ⟨b20, 0, none⟩) + (s24 : Int).toNat * 1, none⟩))) (Yields.idx (IdxAt.own hA43 jx38 jx39) ts69 rfl rfl) trivial rfl rfl ?_
            refine St.val (v := (.int .i64 x36)) (Yields.load rfl (Loads.rA1 1 rfl tc25 (k42 0 _ rfl))) trivial rfl rfl ?_
            refine St.val (v := (.int .i64 x36)) (Yields.assign rfl) trivial rfl rfl ?_
            refine St.nil ?_
            refine St.norm ?_
            refine St.seq ?_
            refine St.region ?_
            refine St.val (v := (.slice A8 x12.length c9)) (Yields.move rfl) trivial rfl rfl ?_
            refine St.val (v := (.int .i64 ((x12.length : Nat) : Int))) (Yields.lenSlice tu22 rfl) trivial rfl rfl ?_
            refine St.val (v := (.int .i64 0)) (Yields.move rfl) trivial rfl rfl ?_
            refine St.nil ?_
            refine St.norm ?_
            refine St.block ?_
            refine St.loopM hm (fun s46 a w => ∃ (F50 : PH), PH.le F28 F50 ∧ Has Try.f18.ntmps a [(3, .slice A8 x12.length c9), (5, .int .i64 x36), (18, .slice (some ⟨b20, 0, none⟩) ([3, 1] : List Int).length 2), (19, .int .i64 ((([3, 1] : List Int).length : Nat) : Int)), (20, .int .i64 ((s24 : Nat) : Int)), (24, .slice A8 x12.length c9), (25, .int .i64 ((x12.length : Nat) : Int)), (26, .int .i64 ((s46 : Nat) : Int))] ∧ Sat ⟨w0, fun b => m0 b ≠ none, F⟩ F50 [rowo A8 x12.length c9 24 4 cells10, rowo (some ⟨b20, 0, none⟩) ([3, 1] : List Int).length 2 25 1 [.int .i64 3, .int .i64 1]] w) ?_ ?_
            · skip
              intro a w ha hs
              exact ⟨F28, (PH.le_refl _), ha.covers ⟨rfl, rfl, rfl, rfl, rfl, rfl, rfl, rfl, trivial⟩, (Among.of (Among.take 0 rfl rfl (Among.take 0 rfl rfl Among.none)) _ hs)⟩
            · rintro s46 o47 co48 hm ho49 a w ⟨F50, l51, ha, hs⟩
              refine St.use (?_ : St _ _ _ _ _ _) ha hs
              clear ha hs a w
              refine St.seq ?_
              refine St.region ?_
              refine St.val (v := (.bool (decide (((s46 : Nat) : Int) < ((x12.length : Nat) : Int))))) (Yields.lt rfl rfl) trivial rfl rfl ?_
              refine St.nil ?_
              refine St.norm ?_
              refine St.seq ?_
              refine St.cond_b rfl ?_ ?_
              · intro q52
                replace q52 : ((s46 : Nat) : Int) < ((x12.length : Nat) : Int) := of_decide_eq_true q52
                replace hm := iT hm q52
                refine St.skip ?_
                refine St.norm ?_
                refine St.seq ?_
                refine St.block ?_
                refine St.seq ?_
                refine St.region ?_
                obtain ⟨x53, e54, hm⟩ := bS hm
                obtain ⟨jx55, jx56, cs57, R58, k59⟩ := (Cat.mono (PH.le_trans l29 l51) h11).nidx e54
                obtain ⟨A60, c61, rfl, h62⟩ := DValue.opn R58
                refine St.rowo_at 0 rfl (by omega) ?_
                intro hA64
                refine St.val (v := (.pointer (some ⟨bk A8, bo A8 + (s46 : Int).toNat * 4, none⟩))) (Yields.idx (IdxAt.own hA64 jx55 jx56) ts22 rfl rfl) trivial rfl rfl ?_
                refine St.val (v := (.agg #[.int .i64 x53.Op, .string (bs x53.Name), .int .i64 x53.N, .slice A60 x53.Kids.length c61])) (Yields.load rfl (Loads.rAn (us := [.int .i64 x53.Op, .string (bs x53.Name), .int .i64 x53.N, .slice A60 x53.Kids.length c61]) 0 rfl ta24 (k59))) trivial rfl rfl ?_
                refine St.alloc tz24 trivial rfl ?_
                intro b65
                refine St.storen (R := [rowo A8 x12.length c9 24 4 cells10, rowo (some ⟨b20, 0, none⟩) ([3, 1] : List Int).length 2 25 1 [.int .i64 3, .int .i64 1]]) rfl rfl 0 rfl rfl ta24 rfl rfl rfl trivial (cs' := #[.int .i64 x53.Op, .string (bs x53.Name), .int .i64 x53.N, .slice A60 x53.Kids.length c61]) rfl ?_
                refine St.nil ?_
                refine St.norm ?_
                refine St.seq ?_
                refine St.region ?_
                refine St.val (v := (.agg #[.int .i64 x53.Op, .string (bs x53.Name), .int .i64 x53.N, .slice A60 x53.Kids.length c61])) (Yields.load rfl (Loads.Hk (vs := [.int .i64 x53.Op, .string (bs x53.Name), .int .i64 x53.N, .slice A60 x53.Kids.length c61]) 0 rfl ta24 rfl rfl)) trivial rfl rfl ?_
                obtain ⟨q66, e67, hm⟩ := bS hm
                refine St.call [blk b65 (.cells #[.int .i64 x53.Op, .string (bs x53.Name), .int .i64 x53.N, .slice A60 x53.Kids.length c61] 24 (0, 0)), rowo A8 x12.length c9 24 4 cells10, rowo (some ⟨b20, 0, none⟩) ([3, 1] : List Int).length 2 25 1 [.int .i64 3, .int .i64 1]] (m_value_Validate_sp (a0 := x53) h62 e67) rfl (fun _ ha => ev1 ha rfl) rfl en30 rfl rfl trivial ?_
                rintro _ F68 _ ⟨rfl, rfl⟩ l69
                refine St.val (v := (.int .i64 x36)) (Yields.move rfl) trivial rfl rfl ?_
                refine St.val (v := (.bool (decide (q66 = x36)))) (Yields.eq rfl rfl) trivial rfl rfl ?_
                refine St.nil ?_
                refine St.norm ?_
                refine St.cond_b rfl ?_ ?_
                · intro q70
                  replace q70 : q66 = x36 := of_decide_eq_true q70
                  replace hm := iT hm q70
                  refine St.seq ?_
                  refine St.region ?_
                  refine St.val (v := (.int .i64 x36)) (Yields.move rfl) trivial rfl rfl ?_
                  refine St.val (v := (.int .i64 x36)) (Yields.assign rfl) trivial rfl rfl ?_
                  refine St.nil ?_
                  refine St.norm ?_
                  refine St.ret ?_
                  refine St.inret ?_
                  refine St.thenret ?_
                  refine St.thenret ?_
                  refine St.inret ?_
                  refine St.inret ?_
                  refine St.thenret ?_
                  refine St.thenret ?_
                  refine St.inret ?_
                  refine St.thenret ?_
                  obtain rfl := sI hm
                  obtain rfl := aR ho49
                  obtain rfl := aR ho35
                  obtain rfl := aR ho27
                  obtain rfl := aR ho19
                  exact St.doneR1 rfl rfl ⟨rfl, rfl⟩ (fun w hs => Among.of Among.none w hs)
                · intro q71
                  replace q71 : ¬ (q66 = x36) := of_decide_eq_false q71
                  replace hm := iF hm q71
                  refine St.skip ?_
                  refine St.innorm ?_
                  refine St.norm ?_
                  refine St.region ?_
                  refine St.val (v := (.int .i64 ((s46 + 1 : Nat) : Int))) (Yields.addn (j := 1) rfl rfl rfl (by have q_0 := q52; have q_1 := (Bnd.of_push e13).2; omega)) trivial rfl rfl ?_
                  refine St.val (v := (.int .i64 ((s46 + 1 : Nat) : Int))) (Yields.move rfl) trivial rfl rfl ?_
                  refine St.nil ?_
                  refine St.norm ?_
                  obtain rfl := sI hm
                  intro a w ha hs
                  exact ⟨s46 + 1, aL ho49, F68, (PH.le_trans l51 l69), ha.covers ⟨rfl, rfl, rfl, rfl, rfl, rfl, rfl, rfl, trivial⟩, (Among.of (Among.take 1 rfl rfl (Among.take 1 rfl rfl Among.none)) _ hs)⟩
              · intro q72
                replace q72 : ¬ (((s46 : Nat) : Int) < ((x12.length : Nat) : Int)) := of_decide_eq_false q72
                replace hm := iF hm q72
                refine St.exit ?_
                refine St.thenexit ?_
                refine St.thenexit ?_
                refine St.inexit ?_
                refine St.innorm ?_
                obtain rfl := sI hm
                obtain rfl := aR ho49
                intro a w ha hs
                exact ⟨(), rfl, F50, l51, ha.covers ⟨rfl, rfl, rfl, rfl, trivial⟩, (Among.of (Among.take 0 rfl rfl (Among.take 0 rfl rfl Among.none)) _ hs)⟩
          · rintro a w ⟨z31, rfl, F32, l33, ha, hs⟩
            replace hm := aL ho35
            refine St.use (?_ : St _ _ _ _ _ _) ha hs
            clear ha hs a w
            refine St.region ?_
            refine St.val (v := (.int .i64 ((s24 + 1 : Nat) : Int))) (Yields.addn (j := 1) rfl rfl rfl (by have q_0 := q30; have q_1 := (show Bnd 8 ([3, 1] : List Int) from ⟨by simp, by simp⟩).2; omega)) trivial rfl rfl ?_
            refine St.val (v := (.int .i64 ((s24 + 1 : Nat) : Int))) (Yields.move rfl) trivial rfl rfl ?_
            refine St.nil ?_
            refine St.norm ?_
            obtain rfl := sI hm
            intro a w ha hs
            exact ⟨s24 + 1, aL ho27, F32, (PH.le_trans l29 l33), ha.covers ⟨rfl, rfl, rfl, rfl, trivial⟩, (Among.of (Among.take 0 rfl rfl (Among.take 0 rfl rfl Among.none)) _ hs)⟩
        · intro q73
          replace q73 : ¬ (((s24 : Nat) : Int) < ((([3, 1] : List Int).length : Nat) : Int)) := of_decide_eq_false q73
          replace hm := iF hm q73
          refine St.exit ?_
          refine St.thenexit ?_
          refine St.thenexit ?_
          refine St.inexit ?_
          obtain rfl := sI hm
          obtain rfl := aR ho27
          intro a w ha hs
          exact ⟨(), rfl, F28, l29, ha.covers trivial, (Among.of Among.none _ hs)⟩
    · rintro a w ⟨z15, rfl, F16, l17, ha, hs⟩
      replace hm := aL ho19
      refine St.use (?_ : St _ _ _ _ _ _) ha hs
      clear ha hs a w
      refine St.seq ?_
      refine St.region ?_
      refine St.val (v := (.int .i64 0)) (Yields.assign rfl) trivial rfl rfl ?_
      refine St.nil ?_
      refine St.norm ?_
      refine St.ret ?_
      obtain rfl := sI hm
      exact St.doneR1 rfl rfl ⟨rfl, rfl⟩ (fun w hs => Among.of Among.none w hs)

abbrev m_value_renamed_S (g : Nat) : Prop := ∀ {F : PH} {a0 : DValue} {a1 : List (Int × Int)} {pbl0 : Nat} {pA0_0 : Option Addr} {pc0_0 : Nat} {pvs1 : List (Int × Value)} (ph0_0 : Fsl 56 KDValue F pA0_0 pc0_0 a0.Kids) (ph1 : Mrel (Kind.int .i64) false F pvs1 a1) {r : DValue × (List (Int × Int))} (_ : m_value_renamed g a0 a1 = some r),
    CallSp Try.prog 71 #[.agg #[.int .i64 a0.Op, .string (bs a0.Name), .int .i64 a0.N, .slice pA0_0 a0.Kids.length pc0_0], .map (some pbl0)] F [mapv keyInt pbl0 pvs1] (fun u F' H' => ∃ (B0_0 : Option Addr) (d0_0 : Nat) (us1 : List (Int × Value)), u = (.agg #[.int .i64 r.1.Op, .string (bs r.1.Name), .int .i64 r.1.N, .slice B0_0 r.1.Kids.length d0_0]) ∧ Fsl 56 KDValue F' B0_0 d0_0 r.1.Kids ∧ Mrel (Kind.int .i64) false F' us1 r.2 ∧ H' = [mapv keyInt pbl0 us1])
theorem m_value_renamed_st {g : Nat} (ih_m_value_renamed : m_value_renamed_S g) : m_value_renamed_S (g + 1) := by
  intro F a0 a1 pbl0 pA0_0 pc0_0 pvs1 ph0_0 ph1 r hm
  rw [m_value_renamed] at hm
  refine CallSp.enter (args := [.agg #[.int .i64 a0.Op, .string (bs a0.Name), .int .i64 a0.N, .slice pA0_0 a0.Kids.length pc0_0], .map (some pbl0)]) Try.func71 rfl rfl ?_
  intro w0 m0 hm0
  refine St.seq ?_
  refine St.region ?_
  refine St.box rfl trivial rfl ?_
  intro b3
  refine St.alloc tz24 trivial rfl ?_
  intro b4
  refine St.nil ?_
  refine St.norm ?_
  refine St.seq ?_
  refine St.region ?_
  refine St.val (v := (.pointer (some ⟨b3, 0, none⟩))) (Yields.fieldAddr (v := (.pointer (some ⟨b3, 0, none⟩))) rfl (fun _ => by kernel_rfl)) trivial rfl rfl ?_
  refine St.val (v := (.int .i64 a0.Op)) (Yields.load rfl (Loads.H1 1 rfl tc3 rfl)) trivial rfl rfl ?_
  refine St.val (v := (.pointer (some ⟨b3, 1, none⟩))) (Yields.fieldAddr (v := (.pointer (some ⟨b3, 1, none⟩))) rfl (fun _ => by kernel_rfl)) trivial rfl rfl ?_
  refine St.val (v := (.string (bs a0.Name))) (Yields.load rfl (Loads.H1 1 rfl tc9 rfl)) trivial rfl rfl ?_
  refine St.val (v := (.pointer (some ⟨b3, 2, none⟩))) (Yields.fieldAddr (v := (.pointer (some ⟨b3, 2, none⟩))) rfl (fun _ => by kernel_rfl)) trivial rfl rfl ?_
  refine St.val (v := (.int .i64 a0.N)) (Yields.load rfl (Loads.H1 1 rfl tc3 rfl)) trivial rfl rfl ?_
  refine St.val (v := (.agg #[.int .i64 a0.Op, .string (bs a0.Name), .int .i64 a0.N, .slice none 0 0])) (Yields.build (v := (.agg #[.int .i64 a0.Op, .string (bs a0.Name), .int .i64 a0.N, .slice none 0 0])) (vs := #[(0, .int .i64 a0.Op), (1, .string (bs a0.Name)), (2, .int .i64 a0.N)]) (fun _ ha => evp3 ha rfl rfl rfl) (fun _ => by kernel_rfl)) trivial rfl rfl ?_
  refine St.alloc tz24 trivial rfl ?_
  intro b5
  refine St.storen (R := [blk b4 (.cells #[.int .i64 0, .string (bs []), .int .i64 0, .slice none 0 0] 24 (0, 0)), blk b3 (.cells #[.int .i64 a0.Op, .string (bs a0.Name), .int .i64 a0.N, .slice pA0_0 a0.Kids.length pc0_0] 24 (0, 0)), mapv keyInt pbl0 pvs1]) rfl rfl 0 rfl rfl ta24 rfl rfl rfl trivial (cs' := #[.int .i64 a0.Op, .string (bs a0.Name), .int .i64 a0.N, .slice none 0 0]) rfl ?_
  refine St.nil ?_
  refine St.norm ?_
  obtain ⟨z6, hm, hk11⟩ := bS hm
  refine St.cutI (fun a w => ∃ (vs8 : List (Int × Value)), Mrel (Kind.int .i64) false F vs8 z6.1 ∧ Has Try.f71.ntmps a [(1, .map (some pbl0)), (2, .pointer (some ⟨b3, 0, none⟩)), (4, .pointer (some ⟨b4, 0, none⟩)), (5, .pointer (some ⟨b5, 0, none⟩))] ∧ Sat ⟨w0, fun b => m0 b ≠ none, F⟩ F [mapv keyInt pbl0 vs8, blk b3 (.cells #[.int .i64 a0.Op, .string (bs a0.Name), .int .i64 a0.N, .slice pA0_0 a0.Kids.length pc0_0] 24 (0, 0)), blk b4 (.cells #[.int .i64 0, .string (bs []), .int .i64 0, .slice none 0 0] 24 (0, 0)), blk b5 (.cells #[.int .i64 a0.Op, .string (bs a0.Name), .int .i64 z6.2, .slice none 0 0] 24 (0, 0))] w) ?_ ?_
  · skip
    refine St.seq ?_
    refine St.region ?_
    refine St.val (v := (.pointer (some ⟨b3, 0, none⟩))) (Yields.fieldAddr (v := (.pointer (some ⟨b3, 0, none⟩))) rfl (fun _ => by kernel_rfl)) trivial rfl rfl ?_
    refine St.val (v := (.int .i64 a0.Op)) (Yields.load rfl (Loads.H1 2 rfl tc3 rfl)) trivial rfl rfl ?_
    refine St.val (v := (.bool (decide (a0.Op = 3)))) (Yields.eq rfl rfl) trivial rfl rfl ?_
    refine St.nil ?_
    refine St.norm ?_
    refine St.cond_b rfl ?_ ?_
    · intro q12
      replace q12 : a0.Op = 3 := of_decide_eq_true q12
      replace hm := iT hm q12
      obtain ⟨z13, hm, hk18⟩ := bS hm
      refine St.cutI (fun a w => ∃ (vs15 : List (Int × Value)), Mrel (Kind.int .i64) false F vs15 z13 ∧ Has Try.f71.ntmps a [(1, .map (some pbl0)), (2, .pointer (some ⟨b3, 0, none⟩)), (4, .pointer (some ⟨b4, 0, none⟩)), (5, .pointer (some ⟨b5, 0, none⟩))] ∧ Sat ⟨w0, fun b => m0 b ≠ none, F⟩ F [mapv keyInt pbl0 vs15, blk b3 (.cells #[.int .i64 a0.Op, .string (bs a0.Name), .int .i64 a0.N, .slice pA0_0 a0.Kids.length pc0_0] 24 (0, 0)), blk b4 (.cells #[.int .i64 0, .string (bs []), .int .i64 0, .slice none 0 0] 24 (0, 0)), blk b5 (.cells #[.int .i64 a0.Op, .string (bs a0.Name), .int .i64 a0.N, .slice none 0 0] 24 (0, 0))] w) ?_ ?_
      · skip
        refine St.seq ?_
        refine St.region ?_
        refine St.val (v := (.map (some pbl0))) (Yields.move rfl) trivial rfl rfl ?_
        refine St.val (v := (.pointer (some ⟨b3, 2, none⟩))) (Yields.fieldAddr (v := (.pointer (some ⟨b3, 2, none⟩))) rfl (fun _ => by kernel_rfl)) trivial rfl rfl ?_
        refine St.val (v := (.int .i64 a0.N)) (Yields.load rfl (Loads.H1 2 rfl tc3 rfl)) trivial rfl rfl ?_
        obtain ⟨x19, e20, hm⟩ := bS hm
        obtain ⟨v21, hv22, cs24, R25, hc26⟩ := Mrel.look' (k := a0.N) ph1 (show Mval (Kind.int .i64) false _ (.int .i64 0) 0 from ⟨[.int .i64 0], rfl, rfl⟩)
        rw [Mir.getD_some e20] at R25
        obtain rfl := R25
        obtain rfl := (List.cons.inj (if_neg (show ¬ (false = true) by decide) ▸ hc26)).1
        refine St.val (v := (.tuple #[.int .i64 x19, .bool ((Mir.assoc a1 a0.N).isSome)])) (Yields.look2 rfl rfl 3 rfl tm100 tk100 tz3 hv22 (Mrel.look (k := a0.N) (K := (Kind.int .i64)) (agg := false) (z0 := (.int .i64 0)) (zd := 0) ⟨[.int .i64 0], rfl, rfl⟩ ph1).2) trivial rfl rfl ?_
        refine St.val (v := (.tuple #[.int .i64 x19, .bool ((Mir.assoc a1 a0.N).isSome)])) (Yields.move rfl) trivial rfl rfl ?_
        refine St.val (v := (.int .i64 x19)) (Yields.extract rfl rfl) trivial rfl rfl ?_
        refine St.val (v := (.bool ((Mir.assoc a1 a0.N).isSome))) (Yields.extract rfl rfl) trivial rfl rfl ?_
        refine St.val (v := (.int .i64 x19)) (Yields.assign rfl) trivial rfl rfl ?_
        refine St.val (v := (.bool ((Mir.assoc a1 a0.N).isSome))) (Yields.assign rfl) trivial rfl rfl ?_
        refine St.nil ?_
        refine St.norm ?_
        refine St.seq ?_
        refine St.region ?_
        refine St.val (v := (.bool ((Mir.assoc a1 a0.N).isSome))) (Yields.move rfl) trivial rfl rfl ?_
        refine St.val (v := (.bool (!((Mir.assoc a1 a0.N).isSome)))) (Yields.not rfl) trivial rfl rfl ?_
        refine St.nil ?_
        refine St.norm ?_
        refine St.cond_b rfl ?_ ?_
        · intro q27
          replace q27 : ¬ ((Mir.assoc a1 a0.N).isSome = true) := nb_t q27
          replace hm := iF hm q27
          refine St.region ?_
          refine St.val (v := (.map (some pbl0))) (Yields.move rfl) trivial rfl rfl ?_
          refine St.val (v := (.pointer (some ⟨b3, 2, none⟩))) (Yields.fieldAddr (v := (.pointer (some ⟨b3, 2, none⟩))) rfl (fun _ => by kernel_rfl)) trivial rfl rfl ?_
          refine St.val (v := (.int .i64 a0.N)) (Yields.load rfl (Loads.H1 2 rfl tc3 rfl)) trivial rfl rfl ?_
          refine St.val (v := (.map (some pbl0))) (Yields.move rfl) trivial rfl rfl ?_
          refine St.val (v := (.int .i64 ((a1.length : Nat) : Int))) (Yields.lenMap rfl 3 rfl tm100 ph1.length) trivial rfl rfl ?_
          obtain ⟨x28, e29, hm⟩ := bS hm
          refine St.mapPutK (R := [blk b5 (.cells #[.int .i64 a0.Op, .string (bs a0.Name), .int .i64 a0.N, .slice none 0 0] 24 (0, 0)), blk b4 (.cells #[.int .i64 0, .string (bs []), .int .i64 0, .slice none 0 0] 24 (0, 0)), blk b3 (.cells #[.int .i64 a0.Op, .string (bs a0.Name), .int .i64 a0.N, .slice pA0_0 a0.Kids.length pc0_0] 24 (0, 0))]) e29 ph1 ⟨[.int .i64 ((a1.length : Nat) : Int)], rfl, rfl⟩ rfl rfl rfl 3 rfl rfl tm100 tk100 trivial ?_
          intro vs30 h31
          refine St.nil ?_
          obtain rfl := sI hm
          intro a w ha hs
          exact ⟨vs30, h31, ha.covers ⟨rfl, rfl, rfl, rfl, trivial⟩, (Among.of (Among.take 0 rfl rfl (Among.take 2 rfl rfl (Among.take 1 rfl rfl (Among.take 0 rfl rfl Among.none)))) _ hs)⟩
        · intro q33
          replace q33 : (Mir.assoc a1 a0.N).isSome = true := nb_f q33
          replace hm := iT hm q33
          refine St.skip ?_
          obtain rfl := sI hm
          intro a w ha hs
          exact ⟨pvs1, ph1, ha.covers ⟨rfl, rfl, rfl, rfl, trivial⟩, (Among.of (Among.take 3 rfl rfl (Among.take 2 rfl rfl (Among.take 1 rfl rfl (Among.take 0 rfl rfl Among.none)))) _ hs)⟩
      · rintro a w ⟨vs15, h16, ha, hs⟩
        replace hm := hk18
        refine St.use (?_ : St _ _ _ _ _ _) ha hs
        clear ha hs a w
        refine St.region ?_
        refine St.val (v := (.map (some pbl0))) (Yields.move rfl) trivial rfl rfl ?_
        refine St.val (v := (.pointer (some ⟨b3, 2, none⟩))) (Yields.fieldAddr (v := (.pointer (some ⟨b3, 2, none⟩))) rfl (fun _ => by kernel_rfl)) trivial rfl rfl ?_
        refine St.val (v := (.int .i64 a0.N)) (Yields.load rfl (Loads.H1 1 rfl tc3 rfl)) trivial rfl rfl ?_
        obtain ⟨x34, e35, hm⟩ := bS hm
        obtain ⟨v36, hv37, cs39, R40, hc41⟩ := Mrel.look' (k := a0.N) h16 (show Mval (Kind.int .i64) false _ (.int .i64 0) 0 from ⟨[.int .i64 0], rfl, rfl⟩)
        rw [Mir.getD_some e35] at R40
        obtain rfl := R40
        obtain rfl := (List.cons.inj (if_neg (show ¬ (false = true) by decide) ▸ hc41)).1
        refine St.val (v := (.int .i64 x34)) (Yields.look rfl rfl 0 rfl tm100 tk100 tz3 hv37) trivial rfl rfl ?_
        refine St.val (v := (.pointer (some ⟨b5, 2, none⟩))) (Yields.fieldAddr (v := (.pointer (some ⟨b5, 2, none⟩))) rfl (fun _ => by kernel_rfl)) trivial rfl rfl ?_
        refine St.store (R := [mapv keyInt pbl0 vs15, blk b3 (.cells #[.int .i64 a0.Op, .string (bs a0.Name), .int .i64 a0.N, .slice pA0_0 a0.Kids.length pc0_0] 24 (0, 0)), blk b4 (.cells #[.int .i64 0, .string (bs []), .int .i64 0, .slice none 0 0] 24 (0, 0))]) rfl rfl 3 rfl rfl tc3 rfl rfl trivial (cs' := #[.int .i64 a0.Op, .string (bs a0.Name), .int .i64 x34, .slice none 0 0]) rfl ?_
        refine St.nil ?_
        obtain rfl := sI hm
        intro a w ha hs
        exact ⟨vs15, h16, ha.covers ⟨rfl, rfl, rfl, rfl, trivial⟩, (Among.of (Among.take 1 rfl rfl (Among.take 1 rfl rfl (Among.take 1 rfl rfl (Among.take 0 rfl rfl Among.none)))) _ hs)⟩
    · intro q42
      replace q42 : ¬ (a0.Op = 3) := of_decide_eq_false q42
      replace hm := iF hm q42
      refine St.skip ?_
      obtain rfl := sI hm
      intro a w ha hs
      exact ⟨pvs1, ph1, ha.covers ⟨rfl, rfl, rfl, rfl, trivial⟩, (Among.of (Among.take 3 rfl rfl (Among.take 2 rfl rfl (Among.take 1 rfl rfl (Among.take 0 rfl rfl Among.none)))) _ hs)⟩
  · rintro a w ⟨vs8, h9, ha, hs⟩
    replace hm := hk11
    refine St.use (?_ : St _ _ _ _ _ _) ha hs
    clear ha hs a w
    obtain ⟨z43, hm, hk56⟩ := bS hm
    refine St.cutI (fun a w => ∃ (vs47 : List (Int × Value)) (A51 : Option Addr) (c52 : Nat) (cells54 : List Value) (F44 : PH), PH.le F F44 ∧ Mrel (Kind.int .i64) false F44 vs47 z43.1 ∧ Cat KDValue F44 cells54 z43.2 ∧ Bnd 56 z43.2 ∧ Has Try.f71.ntmps a [(4, .pointer (some ⟨b4, 0, none⟩)), (5, .pointer (some ⟨b5, 0, none⟩))] ∧ Sat ⟨w0, fun b => m0 b ≠ none, F⟩ F44 [mapv keyInt pbl0 vs47, blk b4 (.cells #[.int .i64 0, .string (bs []), .int .i64 0, .slice none 0 0] 24 (0, 0)), blk b5 (.cells #[.int .i64 a0.Op, .string (bs a0.Name), .int .i64 z6.2, .slice A51 z43.2.length c52] 24 (0, 0)), rowo A51 z43.2.length c52 24 4 cells54] w) ?_ ?_
    · skip
      refine St.seq ?_
      refine St.region ?_
      refine St.val (v := (.pointer (some ⟨b3, 3, none⟩))) (Yields.fieldAddr (v := (.pointer (some ⟨b3, 3, none⟩))) rfl (fun _ => by kernel_rfl)) trivial rfl rfl ?_
      refine St.val (v := (.slice pA0_0 a0.Kids.length pc0_0)) (Yields.load rfl (Loads.H1 1 rfl tc22 rfl)) trivial rfl rfl ?_
      refine St.val (v := (.int .i64 ((a0.Kids.length : Nat) : Int))) (Yields.lenSlice tu22 rfl) trivial rfl rfl ?_
      refine St.val (v := (.int .i64 0)) (Yields.move rfl) trivial rfl rfl ?_
      refine St.nil ?_
      refine St.norm ?_
      refine St.block ?_
      refine St.loopM hm (fun s71 a w => ∃ (vs76 : List (Int × Value)) (A80 : Option Addr) (c81 : Nat) (cells83 : List Value) (F85 : PH), PH.le F F85 ∧ Mrel (Kind.int .i64) false F85 vs76 s71.1 ∧ Cat KDValue F85 cells83 s71.2.1 ∧ Bnd 56 s71.2.1 ∧ Has Try.f71.ntmps a [(1, .map (some pbl0)), (4, .pointer (some ⟨b4, 0, none⟩)), (5, .pointer (some ⟨b5, 0, none⟩)), (40, .slice pA0_0 a0.Kids.length pc0_0), (41, .int .i64 ((a0.Kids.length : Nat) : Int)), (42, .int .i64 ((s71.2.2 : Nat) : Int))] ∧ Sat ⟨w0, fun b => m0 b ≠ none, F⟩ F85 [mapv keyInt pbl0 vs76, blk b4 (.cells #[.int .i64 0, .string (bs []), .int .i64 0, .slice none 0 0] 24 (0, 0)), blk b5 (.cells #[.int .i64 a0.Op, .string (bs a0.Name), .int .i64 z6.2, .slice A80 s71.2.1.length c81] 24 (0, 0)), rowo A80 s71.2.1.length c81 24 4 cells83] w) ?_ ?_
      · skip
        refine St.rowo_new 24 4 ?_
        intro a w ha hs
        exact ⟨vs8, none, 0, [], F, (PH.le_refl _), h9, (show Cat KDValue _ [] [] from rfl), Bnd.of_nil, ha.covers ⟨rfl, rfl, rfl, rfl, rfl, rfl, trivial⟩, (Among.of (Among.take 1 rfl rfl (Among.take 2 rfl rfl (Among.take 2 rfl rfl (Among.take 0 rfl rfl Among.none)))) _ hs)⟩
      · rintro s71 o72 co73 hm ho74 a w ⟨vs76, A80, c81, cells83, F85, l86, h77, h82, b84, ha, hs⟩
        refine St.use (?_ : St _ _ _ _ _ _) ha hs
        clear ha hs a w
        refine St.seq ?_
        refine St.region ?_
        refine St.val (v := (.bool (decide (((s71.2.2 : Nat) : Int) < ((a0.Kids.length : Nat) : Int))))) (Yields.lt rfl rfl) trivial rfl rfl ?_
        refine St.nil ?_
        refine St.norm ?_
        refine St.seq ?_
        refine St.cond_b rfl ?_ ?_
        · intro q88
          replace q88 : ((s71.2.2 : Nat) : Int) < ((a0.Kids.length : Nat) : Int) := of_decide_eq_true q88
          replace hm := iT hm q88
          refine St.skip ?_
          refine St.norm ?_
          refine St.seq ?_
          refine St.block ?_
          refine St.seq ?_
          refine St.region ?_
          obtain ⟨x89, e90, hm⟩ := bS hm
          obtain ⟨p91, cs92, jx93, R94, k95⟩ := (Fsl.mono l86 ph0_0).nidx e90
          obtain ⟨A96, c97, rfl, h98⟩ := DValue.opn R94
          refine St.val (v := (.pointer (some p91))) (Yields.idx jx93 ts22 rfl rfl) trivial rfl rfl ?_
          refine St.val (v := (.agg #[.int .i64 x89.Op, .string (bs x89.Name), .int .i64 x89.N, .slice A96 x89.Kids.length c97])) (Yields.load rfl (Loads.Fatn0 k95 ta24)) trivial rfl rfl ?_
          refine St.alloc tz24 trivial rfl ?_
          intro b100
          refine St.storen (R := [mapv keyInt pbl0 vs76, blk b4 (.cells #[.int .i64 0, .string (bs []), .int .i64 0, .slice none 0 0] 24 (0, 0)), blk b5 (.cells #[.int .i64 a0.Op, .string (bs a0.Name), .int .i64 z6.2, .slice A80 s71.2.1.length c81] 24 (0, 0)), rowo A80 s71.2.1.length c81 24 4 cells83]) rfl rfl 0 rfl rfl ta24 rfl rfl rfl trivial (cs' := #[.int .i64 x89.Op, .string (bs x89.Name), .int .i64 x89.N, .slice A96 x89.Kids.length c97]) rfl ?_
          refine St.nil ?_
          refine St.norm ?_
          refine StD.start [6, 8] [blk b100 (.cells #[.int .i64 x89.Op, .string (bs x89.Name), .int .i64 x89.N, .slice A96 x89.Kids.length c97] 24 (0, 0)), blk b4 (.cells #[.int .i64 0, .string (bs []), .int .i64 0, .slice none 0 0] 24 (0, 0)), blk b5 (.cells #[.int .i64 a0.Op, .string (bs a0.Name), .int .i64 z6.2, .slice A80 s71.2.1.length c81] 24 (0, 0)), rowo A80 s71.2.1.length c81 24 4 cells83] hmix ?_
          refine StD.takeP (i := 0) (v := (.pointer (some ⟨b5, 3, none⟩))) rfl (fun _ => Yields.fieldAddr (v := (.pointer (some ⟨b5, 3, none⟩))) rfl (fun _ => by kernel_rfl)) rfl rfl trivial (by rintro _ _ _ ⟨_, _, _, _, h, _⟩; cases h) (by kernel_rfl) (listed' := #[true, false, false, false, false, false, false, false, false]) rfl ?_
          refine StD.take [0, 3, 7] (i := 1) (v := (.slice A80 s71.2.1.length c81)) rfl (Yields.load rfl (Loads.H1 2 rfl tc22 rfl)) rfl rfl trivial (Among.of (Among.take 0 rfl rfl (Among.take 1 rfl rfl (Among.take 1 rfl rfl (Among.take 1 rfl rfl Among.none))))) (by rintro _ _ _ ⟨_, _, _, _, h, _⟩; cases h) (by kernel_rfl) (listed' := #[true, true, false, false, false, false, false, false, false]) rfl ?_
          refine StD.take [0, 3, 7] (i := 2) (v := (.agg #[.int .i64 x89.Op, .string (bs x89.Name), .int .i64 x89.N, .slice A96 x89.Kids.length c97])) rfl (Yields.load rfl (Loads.Hk (vs := [.int .i64 x89.Op, .string (bs x89.Name), .int .i64 x89.N, .slice A96 x89.Kids.length c97]) 0 rfl ta24 rfl rfl)) rfl rfl trivial (Among.of (Among.take 0 rfl rfl (Among.take 1 rfl rfl (Among.take 1 rfl rfl (Among.take 1 rfl rfl Among.none))))) (by rintro _ _ _ ⟨_, _, _, _, h, _⟩; cases h) (by kernel_rfl) (listed' := #[true, true, true, false, false, false, false, false, false]) rfl ?_
          refine StD.takeP (i := 3) (v := (.map (some pbl0))) rfl (fun _ => Yields.move rfl) rfl rfl trivial (by rintro _ _ _ ⟨_, _, _, _, h, _⟩; cases h) (by kernel_rfl) (listed' := #[true, true, true, true, false, false, false, false, false]) rfl ?_
          refine StD.only (i := 4) rfl (by kernel_rfl) (listed' := #[true, true, true, true, true, false, false, false, false]) rfl ?_
          intro hcl101
          refine St.pick (R := [blk b100 (.cells #[.int .i64 x89.Op, .string (bs x89.Name), .int .i64 x89.N, .slice A96 x89.Kids.length c97] 24 (0, 0)), blk b4 (.cells #[.int .i64 0, .string (bs []), .int .i64 0, .slice none 0 0] 24 (0, 0)), blk b5 (.cells #[.int .i64 a0.Op, .string (bs a0.Name), .int .i64 z6.2, .slice A80 s71.2.1.length c81] 24 (0, 0)), rowo A80 s71.2.1.length c81 24 4 cells83]) 1 rfl rfl ?_
          obtain ⟨q102, e103, hm⟩ := bS hm
          refine St.call [blk b100 (.cells #[.int .i64 x89.Op, .string (bs x89.Name), .int .i64 x89.N, .slice A96 x89.Kids.length c97] 24 (0, 0)), blk b4 (.cells #[.int .i64 0, .string (bs []), .int .i64 0, .slice none 0 0] 24 (0, 0)), blk b5 (.cells #[.int .i64 a0.Op, .string (bs a0.Name), .int .i64 z6.2, .slice A80 s71.2.1.length c81] 24 (0, 0)), rowo A80 s71.2.1.length c81 24 4 cells83] (ih_m_value_renamed (a0 := x89) h98 h77 e103) rfl (fun _ ha => ev2 ha rfl rfl) rfl en71 rfl rfl trivial ?_
          rintro _ F104 _ ⟨A106, c107, vs111, rfl, h108, h112, rfl⟩ l105
          refine StD.next hcl101 (fun _ => (Among.of_le l105 l86 (Among.take 1 rfl rfl (Among.take 1 rfl rfl (Among.take 1 rfl rfl (Among.take 1 rfl rfl Among.none)))))) ?_
          refine StD.only (i := 5) rfl (by kernel_rfl) (listed' := #[true, true, true, true, true, true, false, false, false]) rfl ?_
          intro hcl113
          refine St.buildSlice (e := 24) (cells := #[.int .i64 q102.1.Op, .string (bs q102.1.Name), .int .i64 q102.1.N, .slice A106 q102.1.Kids.length c107]) (vs := #[(0, .agg #[.int .i64 q102.1.Op, .string (bs q102.1.Name), .int .i64 q102.1.N, .slice A106 q102.1.Kids.length c107])]) (fun _ ha => evp1 ha rfl) (fun _ => by kernel_rfl) rfl trivial ?_
          intro b114
          refine StD.next hcl113 (fun _ => (Among.of_le l105 l86 (Among.take 2 rfl rfl (Among.take 2 rfl rfl (Among.take 2 rfl rfl (Among.take 2 rfl rfl Among.none)))))) ?_
          refine StD.only (i := 6) rfl (by kernel_rfl) (listed' := #[true, true, true, true, true, true, true, false, false]) rfl ?_
          intro hcl115
          obtain ⟨x120, e121, hm⟩ := bS hm
          refine St.pushL (R := [blk b114 (.cells #[.int .i64 q102.1.Op, .string (bs q102.1.Name), .int .i64 q102.1.N, .slice A106 q102.1.Kids.length c107] 24 (0, 0)), mapv keyInt pbl0 vs111, blk b100 (.cells #[.int .i64 x89.Op, .string (bs x89.Name), .int .i64 x89.N, .slice A96 x89.Kids.length c97] 24 (0, 0)), blk b4 (.cells #[.int .i64 0, .string (bs []), .int .i64 0, .slice none 0 0] 24 (0, 0)), blk b5 (.cells #[.int .i64 a0.Op, .string (bs a0.Name), .int .i64 z6.2, .slice A80 s71.2.1.length c81] 24 (0, 0))]) (R3 := [mapv keyInt pbl0 vs111, blk b100 (.cells #[.int .i64 x89.Op, .string (bs x89.Name), .int .i64 x89.N, .slice A96 x89.Kids.length c97] 24 (0, 0)), blk b4 (.cells #[.int .i64 0, .string (bs []), .int .i64 0, .slice none 0 0] 24 (0, 0)), blk b5 (.cells #[.int .i64 a0.Op, .string (bs a0.Name), .int .i64 z6.2, .slice A80 s71.2.1.length c81] 24 (0, 0))]) e121 ts22 rfl rfl rfl rfl rfl 5 rfl rfl 0 rfl 0 rfl rfl (Cat.mono l105 h82) ⟨[.int .i64 q102.1.Op, .string (bs q102.1.Name), .int .i64 q102.1.N, .slice A106 q102.1.Kids.length c107], _, rfl, (DValue.of h108), rfl⟩ rfl trivial ?_
          intro A116 c117 cells118 h119
          refine StD.next hcl115 (fun h => by cases h) ?_
          refine StD.takeP (i := 7) (v := (.pointer (some ⟨b5, 3, none⟩))) rfl (fun _ => Yields.fieldAddr (v := (.pointer (some ⟨b5, 3, none⟩))) rfl (fun _ => by kernel_rfl)) rfl rfl trivial (by rintro _ _ _ ⟨_, _, _, _, h, _⟩; cases h) (by kernel_rfl) (listed' := #[true, true, true, true, true, true, true, true, false]) rfl ?_
          refine StD.only (i := 8) rfl (by kernel_rfl) (listed' := #[true, true, true, true, true, true, true, true, true]) rfl ?_
          intro hcl123
          refine St.store (R := [rowo A116 x120.length c117 24 4 cells118, mapv keyInt pbl0 vs111, blk b100 (.cells #[.int .i64 x89.Op, .string (bs x89.Name), .int .i64 x89.N, .slice A96 x89.Kids.length c97] 24 (0, 0)), blk b4 (.cells #[.int .i64 0, .string (bs []), .int .i64 0, .slice none 0 0] 24 (0, 0))]) rfl rfl 4 rfl rfl tc22 rfl rfl trivial (cs' := #[.int .i64 a0.Op, .string (bs a0.Name), .int .i64 z6.2, .slice A116 x120.length c117]) rfl ?_
          refine StD.next hcl123 (fun h => by cases h) ?_
          refine StD.done (by kernel_rfl) ?_
          refine St.innorm ?_
          refine St.norm ?_
          refine St.region ?_
          refine St.val (v := (.int .i64 ((s71.2.2 + 1 : Nat) : Int))) (Yields.addn (j := 1) rfl rfl rfl (by have q_0 := q88; have q_1 := ph0_0.bnd.2; omega)) trivial rfl rfl ?_
          refine St.val (v := (.int .i64 ((s71.2.2 + 1 : Nat) : Int))) (Yields.move rfl) trivial rfl rfl ?_
          refine St.nil ?_
          refine St.norm ?_
          obtain rfl := sI hm
          intro a w ha hs
          exact ⟨(q102.2, x120, s71.2.2 + 1), aL ho74, vs111, A116, c117, cells118, F104, (PH.le_trans l86 l105), h112, h119, (Bnd.of_push e121), ha.covers ⟨rfl, rfl, rfl, rfl, rfl, rfl, trivial⟩, (Among.of (Among.take 2 rfl rfl (Among.take 3 rfl rfl (Among.take 0 rfl rfl (Among.take 0 rfl rfl Among.none)))) _ hs)⟩
        · intro q124
          replace q124 : ¬ (((s71.2.2 : Nat) : Int) < ((a0.Kids.length : Nat) : Int)) := of_decide_eq_false q124
          replace hm := iF hm q124
          refine St.exit ?_
          refine St.thenexit ?_
          refine St.thenexit ?_
          refine St.inexit ?_
          obtain rfl := sI hm
          obtain rfl := aR ho74
          intro a w ha hs
          exact ⟨vs76, A80, c81, cells83, F85, l86, h77, h82, b84, ha.covers ⟨rfl, rfl, trivial⟩, (Among.of (Among.take 0 rfl rfl (Among.take 0 rfl rfl (Among.take 0 rfl rfl (Among.take 0 rfl rfl Among.none)))) _ hs)⟩
    · rintro a w ⟨vs47, A51, c52, cells54, F44, l45, h48, h53, b55, ha, hs⟩
      replace hm := hk56
      refine St.use (?_ : St _ _ _ _ _ _) ha hs
      clear ha hs a w
      refine St.seq ?_
      refine St.region ?_
      refine St.val (v := (.agg #[.int .i64 a0.Op, .string (bs a0.Name), .int .i64 z6.2, .slice A51 z43.2.length c52])) (Yields.load rfl (Loads.Hk (vs := [.int .i64 a0.Op, .string (bs a0.Name), .int .i64 z6.2, .slice A51 z43.2.length c52]) 2 rfl ta24 rfl rfl)) trivial rfl rfl ?_
      refine St.storen (R := [mapv keyInt pbl0 vs47, blk b5 (.cells #[.int .i64 a0.Op, .string (bs a0.Name), .int .i64 z6.2, .slice A51 z43.2.length c52] 24 (0, 0)), rowo A51 z43.2.length c52 24 4 cells54]) rfl rfl 1 rfl rfl ta24 rfl rfl rfl trivial (cs' := #[.int .i64 a0.Op, .string (bs a0.Name), .int .i64 z6.2, .slice A51 z43.2.length c52]) rfl ?_
      refine St.nil ?_
      refine St.norm ?_
      refine St.ret ?_
      refine St.frz 3 rfl rfl rfl h53 b55 ?_
      intro F125 l126 h127
      obtain rfl := sI hm
      exact St.doneR1 rfl (ResOk.cell rfl (Loads.Hk (vs := [.int .i64 a0.Op, .string (bs a0.Name), .int .i64 z6.2, .slice A51 z43.2.length c52]) 0 rfl ta24 rfl rfl)) ⟨A51, c52, vs47, rfl, h127, (Mrel.mono l126 h48), rfl⟩ (fun w hs => Among.of (Among.take 1 rfl rfl Among.none) w hs)
theorem m_value_renamed_all : ∀ g, m_value_renamed_S g
  | 0 => (by (try unfold m_value_renamed_S); intros; rename_i hm; exact nomatch (show (none : Option _) = some _ from hm))
  | g + 1 => m_value_renamed_st (m_value_renamed_all g)
theorem m_value_renamed_sp {F : PH} {g : Nat} {a0 : DValue} {a1 : List (Int × Int)} {pbl0 : Nat} {pA0_0 : Option Addr} {pc0_0 : Nat} {pvs1 : List (Int × Value)} (ph0_0 : Fsl 56 KDValue F pA0_0 pc0_0 a0.Kids) (ph1 : Mrel (Kind.int .i64) false F pvs1 a1) {r : DValue × (List (Int × Int))} (hm : m_value_renamed g a0 a1 = some r) :
    CallSp Try.prog 71 #[.agg #[.int .i64 a0.Op, .string (bs a0.Name), .int .i64 a0.N, .slice pA0_0 a0.Kids.length pc0_0], .map (some pbl0)] F [mapv keyInt pbl0 pvs1] (fun u F' H' => ∃ (B0_0 : Option Addr) (d0_0 : Nat) (us1 : List (Int × Value)), u = (.agg #[.int .i64 r.1.Op, .string (bs r.1.Name), .int .i64 r.1.N, .slice B0_0 r.1.Kids.length d0_0]) ∧ Fsl 56 KDValue F' B0_0 d0_0 r.1.Kids ∧ Mrel (Kind.int .i64) false F' us1 r.2 ∧ H' = [mapv keyInt pbl0 us1]) := (m_value_renamed_all g) ph0_0 ph1 hm

theorem m_value_normal_sp {F : PH} {g : Nat} {a0 : DAnswer} {pA0_0 : Option Addr} {pc0_0 : Nat} {pA0_1 : Option Addr} {pc0_1 : Nat} (ph0_0 : Fsl 56 KDValue F pA0_0 pc0_0 a0.V.Kids) (ph0_1 : Fsl 56 KDValue F pA0_1 pc0_1 a0.B) {r : DAnswer × Int} (hm : m_value_normal g a0 = some r) :
    CallSp Try.prog 36 #[.agg #[.int .i64 a0.V.Op, .string (bs a0.V.Name), .int .i64 a0.V.N, .slice pA0_0 a0.V.Kids.length pc0_0, .slice pA0_1 a0.B.length pc0_1]] F [] (fun u F' H' => ∃ (B0_0 : Option Addr) (d0_0 : Nat) (B0_1 : Option Addr) (d0_1 : Nat), u = (.tuple #[.agg #[.int .i64 r.1.V.Op, .string (bs r.1.V.Name), .int .i64 r.1.V.N, .slice B0_0 r.1.V.Kids.length d0_0, .slice B0_1 r.1.B.length d0_1], .int .i64 r.2]) ∧ Fsl 56 KDValue F' B0_0 d0_0 r.1.V.Kids ∧ Fsl 56 KDValue F' B0_1 d0_1 r.1.B ∧ H' = []) := by
  unfold m_value_normal at hm
  refine CallSp.enter (args := [.agg #[.int .i64 a0.V.Op, .string (bs a0.V.Name), .int .i64 a0.V.N, .slice pA0_0 a0.V.Kids.length pc0_0, .slice pA0_1 a0.B.length pc0_1]]) Try.func36 rfl rfl ?_
  intro w0 m0 hm0
  refine St.seq ?_
  refine St.region ?_
  refine St.box rfl trivial rfl ?_
  intro b3
  refine St.alloc tz37 trivial rfl ?_
  intro b4
  refine St.val (v := (.int .i64 0)) (Yields.assign rfl) trivial rfl rfl ?_
  refine St.nil ?_
  refine St.norm ?_
  refine St.seq ?_
  refine St.region ?_
  refine St.newMap (P := Try.prog) keyInt trivial rfl ?_
  intro b5
  refine St.val (v := (.map (some b5))) (Yields.assign rfl) trivial rfl rfl ?_
  refine St.nil ?_
  refine St.norm ?_
  refine St.seq ?_
  refine St.region ?_
  refine St.val (v := (.pointer (some ⟨b3, 0, none⟩))) (Yields.fieldAddr (v := (.pointer (some ⟨b3, 0, none⟩))) rfl (fun _ => by kernel_rfl)) trivial rfl rfl ?_
  refine St.val (v := (.agg #[.int .i64 a0.V.Op, .string (bs a0.V.Name), .int .i64 a0.V.N, .slice pA0_0 a0.V.Kids.length pc0_0])) (Yields.load rfl (Loads.Hk (vs := [.int .i64 a0.V.Op, .string (bs a0.V.Name), .int .i64 a0.V.N, .slice pA0_0 a0.V.Kids.length pc0_0]) 2 rfl ta24 rfl rfl)) trivial rfl rfl ?_
  refine St.val (v := (.map (some b5))) (Yields.move rfl) trivial rfl rfl ?_
  refine St.pick (R := [blk b4 (.cells #[.int .i64 0, .string (bs []), .int .i64 0, .slice none 0 0, .slice none 0 0] 37 (0, 0)), blk b3 (.cells #[.int .i64 a0.V.Op, .string (bs a0.V.Name), .int .i64 a0.V.N, .slice pA0_0 a0.V.Kids.length pc0_0, .slice pA0_1 a0.B.length pc0_1] 37 (0, 0))]) 0 rfl rfl ?_
  obtain ⟨q7, e8, hm⟩ := bS hm
  refine St.call [blk b4 (.cells #[.int .i64 0, .string (bs []), .int .i64 0, .slice none 0 0, .slice none 0 0] 37 (0, 0)), blk b3 (.cells #[.int .i64 a0.V.Op, .string (bs a0.V.Name), .int .i64 a0.V.N, .slice pA0_0 a0.V.Kids.length pc0_0, .slice pA0_1 a0.B.length pc0_1] 37 (0, 0))] (m_value_renamed_sp (a0 := a0.V) ph0_0 (show Mrel (Kind.int .i64) false _ [] ([] : List (Int × Int)) from trivial) e8) rfl (fun _ ha => ev2 ha rfl rfl) rfl en71 rfl rfl trivial ?_
  rintro _ F9 _ ⟨A11, c12, vs16, rfl, h13, h17, rfl⟩ l10
  refine St.val (v := (.agg #[.int .i64 q7.1.Op, .string (bs q7.1.Name), .int .i64 q7.1.N, .slice A11 q7.1.Kids.length c12, .slice none 0 0])) (Yields.build (v := (.agg #[.int .i64 q7.1.Op, .string (bs q7.1.Name), .int .i64 q7.1.N, .slice A11 q7.1.Kids.length c12, .slice none 0 0])) (vs := #[(0, .agg #[.int .i64 q7.1.Op, .string (bs q7.1.Name), .int .i64 q7.1.N, .slice A11 q7.1.Kids.length c12])]) (fun _ ha => evp1 ha rfl) (fun _ => by kernel_rfl)) trivial rfl rfl ?_
  refine St.alloc tz37 trivial rfl ?_
  intro b18
  refine St.storen (R := [mapv keyInt b5 vs16, blk b4 (.cells #[.int .i64 0, .string (bs []), .int .i64 0, .slice none 0 0, .slice none 0 0] 37 (0, 0)), blk b3 (.cells #[.int .i64 a0.V.Op, .string (bs a0.V.Name), .int .i64 a0.V.N, .slice pA0_0 a0.V.Kids.length pc0_0, .slice pA0_1 a0.B.length pc0_1] 37 (0, 0))]) rfl rfl 0 rfl rfl ta37 rfl rfl rfl trivial (cs' := #[.int .i64 q7.1.Op, .string (bs q7.1.Name), .int .i64 q7.1.N, .slice A11 q7.1.Kids.length c12, .slice none 0 0]) rfl ?_
  refine St.nil ?_
  refine St.norm ?_
  obtain ⟨z19, hm, hk32⟩ := bS hm
  refine St.cutI (fun a w => ∃ (vs23 : List (Int × Value)) (A27 : Option Addr) (c28 : Nat) (cells30 : List Value) (F20 : PH), PH.le F9 F20 ∧ Mrel (Kind.int .i64) false F20 vs23 z19.1 ∧ Cat KDValue F20 cells30 z19.2 ∧ Bnd 56 z19.2 ∧ Has Try.f36.ntmps a [(2, .pointer (some ⟨b4, 0, none⟩)), (4, .map (some b5)), (5, .pointer (some ⟨b18, 0, none⟩))] ∧ Sat ⟨w0, fun b => m0 b ≠ none, F⟩ F20 [blk b4 (.cells #[.int .i64 0, .string (bs []), .int .i64 0, .slice none 0 0, .slice none 0 0] 37 (0, 0)), mapv keyInt b5 vs23, blk b18 (.cells #[.int .i64 q7.1.Op, .string (bs q7.1.Name), .int .i64 q7.1.N, .slice A11 q7.1.Kids.length c12, .slice A27 z19.2.length c28] 37 (0, 0)), rowo A27 z19.2.length c28 24 4 cells30] w) ?_ ?_
  · skip
    refine St.seq ?_
    refine St.region ?_
    refine St.val (v := (.pointer (some ⟨b3, 4, none⟩))) (Yields.fieldAddr (v := (.pointer (some ⟨b3, 4, none⟩))) rfl (fun _ => by kernel_rfl)) trivial rfl rfl ?_
    refine St.val (v := (.slice pA0_1 a0.B.length pc0_1)) (Yields.load rfl (Loads.H1 3 rfl tc22 rfl)) trivial rfl rfl ?_
    refine St.val (v := (.int .i64 ((a0.B.length : Nat) : Int))) (Yields.lenSlice tu22 rfl) trivial rfl rfl ?_
    refine St.val (v := (.int .i64 0)) (Yields.move rfl) trivial rfl rfl ?_
    refine St.nil ?_
    refine St.norm ?_
    refine St.block ?_
    refine St.loopM hm (fun s47 a w => ∃ (vs52 : List (Int × Value)) (A56 : Option Addr) (c57 : Nat) (cells59 : List Value) (F61 : PH), PH.le F9 F61 ∧ Mrel (Kind.int .i64) false F61 vs52 s47.1 ∧ Cat KDValue F61 cells59 s47.2.1 ∧ Bnd 56 s47.2.1 ∧ Has Try.f36.ntmps a [(2, .pointer (some ⟨b4, 0, none⟩)), (4, .map (some b5)), (5, .pointer (some ⟨b18, 0, none⟩)), (15, .slice pA0_1 a0.B.length pc0_1), (16, .int .i64 ((a0.B.length : Nat) : Int)), (17, .int .i64 ((s47.2.2 : Nat) : Int))] ∧ Sat ⟨w0, fun b => m0 b ≠ none, F⟩ F61 [blk b4 (.cells #[.int .i64 0, .string (bs []), .int .i64 0, .slice none 0 0, .slice none 0 0] 37 (0, 0)), mapv keyInt b5 vs52, blk b18 (.cells #[.int .i64 q7.1.Op, .string (bs q7.1.Name), .int .i64 q7.1.N, .slice A11 q7.1.Kids.length c12, .slice A56 s47.2.1.length c57] 37 (0, 0)), rowo A56 s47.2.1.length c57 24 4 cells59] w) ?_ ?_
    · skip
      refine St.rowo_new 24 4 ?_
      intro a w ha hs
      exact ⟨vs16, none, 0, [], F9, (PH.le_refl _), h17, (show Cat KDValue _ [] [] from rfl), Bnd.of_nil, ha.covers ⟨rfl, rfl, rfl, rfl, rfl, rfl, trivial⟩, (Among.of (Among.take 3 rfl rfl (Among.take 2 rfl rfl (Among.take 1 rfl rfl (Among.take 0 rfl rfl Among.none)))) _ hs)⟩
    · rintro s47 o48 co49 hm ho50 a w ⟨vs52, A56, c57, cells59, F61, l62, h53, h58, b60, ha, hs⟩
      refine St.use (?_ : St _ _ _ _ _ _) ha hs
      clear ha hs a w
      refine St.seq ?_
      refine St.region ?_
      refine St.val (v := (.bool (decide (((s47.2.2 : Nat) : Int) < ((a0.B.length : Nat) : Int))))) (Yields.lt rfl rfl) trivial rfl rfl ?_
      refine St.nil ?_
      refine St.norm ?_
      refine St.seq ?_
      refine St.cond_b rfl ?_ ?_
      · intro q64
        replace q64 : ((s47.2.2 : Nat) : Int) < ((a0.B.length : Nat) : Int) := of_decide_eq_true q64
        replace hm := iT hm q64
        refine St.skip ?_
        refine St.norm ?_
        refine St.seq ?_
        refine St.block ?_
        refine St.seq ?_
        refine St.region ?_
        obtain ⟨x65, e66, hm⟩ := bS hm
        obtain ⟨p67, cs68, jx69, R70, k71⟩ := (Fsl.mono (PH.le_trans l10 l62) ph0_1).nidx e66
        obtain ⟨A72, c73, rfl, h74⟩ := DValue.opn R70
        refine St.val (v := (.pointer (some p67))) (Yields.idx jx69 ts22 rfl rfl) trivial rfl rfl ?_
        refine St.val (v := (.agg #[.int .i64 x65.Op, .string (bs x65.Name), .int .i64 x65.N, .slice A72 x65.Kids.length c73])) (Yields.load rfl (Loads.Fatn0 k71 ta24)) trivial rfl rfl ?_
        refine St.alloc tz24 trivial rfl ?_
        intro b76
        refine St.storen (R := [blk b4 (.cells #[.int .i64 0, .string (bs []), .int .i64 0, .slice none 0 0, .slice none 0 0] 37 (0, 0)), mapv keyInt b5 vs52, blk b18 (.cells #[.int .i64 q7.1.Op, .string (bs q7.1.Name), .int .i64 q7.1.N, .slice A11 q7.1.Kids.length c12, .slice A56 s47.2.1.length c57] 37 (0, 0)), rowo A56 s47.2.1.length c57 24 4 cells59]) rfl rfl 0 rfl rfl ta24 rfl rfl rfl trivial (cs' := #[.int .i64 x65.Op, .string (bs x65.Name), .int .i64 x65.N, .slice A72 x65.Kids.length c73]) rfl ?_
        refine St.nil ?_
        refine St.norm ?_
        refine StD.start [6, 8] [blk b76 (.cells #[.int .i64 x65.Op, .string (bs x65.Name), .int .i64 x65.N, .slice A72 x65.Kids.length c73] 24 (0, 0)), blk b4 (.cells #[.int .i64 0, .string (bs []), .int .i64 0, .slice none 0 0, .slice none 0 0] 37 (0, 0)), blk b18 (.cells #[.int .i64 q7.1.Op, .string (bs q7.1.Name), .int .i64 q7.1.N, .slice A11 q7.1.Kids.length c12, .slice A56 s47.2.1.length c57] 37 (0, 0)), rowo A56 s47.2.1.length c57 24 4 cells59] hmix ?_
        refine StD.takeP (i := 0) (v := (.pointer (some ⟨b18, 4, none⟩))) rfl (fun _ => Yields.fieldAddr (v := (.pointer (some ⟨b18, 4, none⟩))) rfl (fun _ => by kernel_rfl)) rfl rfl trivial (by rintro _ _ _ ⟨_, _, _, _, h, _⟩; cases h) (by kernel_rfl) (listed' := #[true, false, false, false, false, false, false, false, false]) rfl ?_
        refine StD.take [0, 3, 7] (i := 1) (v := (.slice A56 s47.2.1.length c57)) rfl (Yields.load rfl (Loads.H1 2 rfl tc22 rfl)) rfl rfl trivial (Among.of (Among.take 0 rfl rfl (Among.take 0 rfl rfl (Among.take 1 rfl rfl (Among.take 1 rfl rfl Among.none))))) (by rintro _ _ _ ⟨_, _, _, _, h, _⟩; cases h) (by kernel_rfl) (listed' := #[true, true, false, false, false, false, false, false, false]) rfl ?_
        refine StD.take [0, 3, 7] (i := 2) (v := (.agg #[.int .i64 x65.Op, .string (bs x65.Name), .int .i64 x65.N, .slice A72 x65.Kids.length c73])) rfl (Yields.load rfl (Loads.Hk (vs := [.int .i64 x65.Op, .string (bs x65.Name), .int .i64 x65.N, .slice A72 x65.Kids.length c73]) 0 rfl ta24 rfl rfl)) rfl rfl trivial (Among.of (Among.take 0 rfl rfl (Among.take 0 rfl rfl (Among.take 1 rfl rfl (Among.take 1 rfl rfl Among.none))))) (by rintro _ _ _ ⟨_, _, _, _, h, _⟩; cases h) (by kernel_rfl) (listed' := #[true, true, true, false, false, false, false, false, false]) rfl ?_
        refine StD.takeP (i := 3) (v := (.map (some b5))) rfl (fun _ => Yields.move rfl) rfl rfl trivial (by rintro _ _ _ ⟨_, _, _, _, h, _⟩; cases h) (by kernel_rfl) (listed' := #[true, true, true, true, false, false, false, false, false]) rfl ?_
        refine StD.only (i := 4) rfl (by kernel_rfl) (listed' := #[true, true, true, true, true, false, false, false, false]) rfl ?_
        intro hcl77
        refine St.pick (R := [blk b76 (.cells #[.int .i64 x65.Op, .string (bs x65.Name), .int .i64 x65.N, .slice A72 x65.Kids.length c73] 24 (0, 0)), blk b4 (.cells #[.int .i64 0, .string (bs []), .int .i64 0, .slice none 0 0, .slice none 0 0] 37 (0, 0)), blk b18 (.cells #[.int .i64 q7.1.Op, .string (bs q7.1.Name), .int .i64 q7.1.N, .slice A11 q7.1.Kids.length c12, .slice A56 s47.2.1.length c57] 37 (0, 0)), rowo A56 s47.2.1.length c57 24 4 cells59]) 2 rfl rfl ?_
        obtain ⟨q78, e79, hm⟩ := bS hm
        refine St.call [blk b76 (.cells #[.int .i64 x65.Op, .string (bs x65.Name), .int .i64 x65.N, .slice A72 x65.Kids.length c73] 24 (0, 0)), blk b4 (.cells #[.int .i64 0, .string (bs []), .int .i64 0, .slice none 0 0, .slice none 0 0] 37 (0, 0)), blk b18 (.cells #[.int .i64 q7.1.Op, .string (bs q7.1.Name), .int .i64 q7.1.N, .slice A11 q7.1.Kids.length c12, .slice A56 s47.2.1.length c57] 37 (0, 0)), rowo A56 s47.2.1.length c57 24 4 cells59] (m_value_renamed_sp (a0 := x65) h74 h53 e79) rfl (fun _ ha => ev2 ha rfl rfl) rfl en71 rfl rfl trivial ?_
        rintro _ F80 _ ⟨A82, c83, vs87, rfl, h84, h88, rfl⟩ l81
        refine StD.next hcl77 (fun _ => (Among.of_le l81 (PH.le_trans l10 l62) (Among.take 1 rfl rfl (Among.take 1 rfl rfl (Among.take 1 rfl rfl (Among.take 1 rfl rfl Among.none)))))) ?_
        refine StD.only (i := 5) rfl (by kernel_rfl) (listed' := #[true, true, true, true, true, true, false, false, false]) rfl ?_
        intro hcl89
        refine St.buildSlice (e := 24) (cells := #[.int .i64 q78.1.Op, .string (bs q78.1.Name), .int .i64 q78.1.N, .slice A82 q78.1.Kids.length c83]) (vs := #[(0, .agg #[.int .i64 q78.1.Op, .string (bs q78.1.Name), .int .i64 q78.1.N, .slice A82 q78.1.Kids.length c83])]) (fun _ ha => evp1 ha rfl) (fun _ => by kernel_rfl) rfl trivial ?_
        intro b90
        refine StD.next hcl89 (fun _ => (Among.of_le l81 (PH.le_trans l10 l62) (Among.take 2 rfl rfl (Among.take 2 rfl rfl (Among.take 2 rfl rfl (Among.take 2 rfl rfl Among.none)))))) ?_
        refine StD.only (i := 6) rfl (by kernel_rfl) (listed' := #[true, true, true, true, true, true, true, false, false]) rfl ?_
        intro hcl91
        obtain ⟨x96, e97, hm⟩ := bS hm
        refine St.pushL (R := [blk b90 (.cells #[.int .i64 q78.1.Op, .string (bs q78.1.Name), .int .i64 q78.1.N, .slice A82 q78.1.Kids.length c83] 24 (0, 0)), mapv keyInt b5 vs87, blk b76 (.cells #[.int .i64 x65.Op, .string (bs x65.Name), .int .i64 x65.N, .slice A72 x65.Kids.length c73] 24 (0, 0)), blk b4 (.cells #[.int .i64 0, .string (bs []), .int .i64 0, .slice none 0 0, .slice none 0 0] 37 (0, 0)), blk b18 (.cells #[.int .i64 q7.1.Op, .string (bs q7.1.Name), .int .i64 q7.1.N, .slice A11 q7.1.Kids.length c12, .slice A56 s47.2.1.length c57] 37 (0, 0))]) (R3 := [mapv keyInt b5 vs87, blk b76 (.cells #[.int .i64 x65.Op, .string (bs x65.Name), .int .i64 x65.N, .slice A72 x65.Kids.length c73] 24 (0, 0)), blk b4 (.cells #[.int .i64 0, .string (bs []), .int .i64 0, .slice none 0 0, .slice none 0 0] 37 (0, 0)), blk b18 (.cells #[.int .i64 q7.1.Op, .string (bs q7.1.Name), .int .i64 q7.1.N, .slice A11 q7.1.Kids.length c12, .slice A56 s47.2.1.length c57] 37 (0, 0))]) e97 ts22 rfl rfl rfl rfl rfl 5 rfl rfl 0 rfl 0 rfl rfl (Cat.mono l81 h58) ⟨[.int .i64 q78.1.Op, .string (bs q78.1.Name), .int .i64 q78.1.N, .slice A82 q78.1.Kids.length c83], _, rfl, (DValue.of h84), rfl⟩ rfl trivial ?_
        intro A92 c93 cells94 h95
        refine StD.next hcl91 (fun h => by cases h) ?_
        refine StD.takeP (i := 7) (v := (.pointer (some ⟨b18, 4, none⟩))) rfl (fun _ => Yields.fieldAddr (v := (.pointer (some ⟨b18, 4, none⟩))) rfl (fun _ => by kernel_rfl)) rfl rfl trivial (by rintro _ _ _ ⟨_, _, _, _, h, _⟩; cases h) (by kernel_rfl) (listed' := #[true, true, true, true, true, true, true, true, false]) rfl ?_
        refine StD.only (i := 8) rfl (by kernel_rfl) (listed' := #[true, true, true, true, true, true, true, true, true]) rfl ?_
        intro hcl99
        refine St.store (R := [rowo A92 x96.length c93 24 4 cells94, mapv keyInt b5 vs87, blk b76 (.cells #[.int .i64 x65.Op, .string (bs x65.Name), .int .i64 x65.N, .slice A72 x65.Kids.length c73] 24 (0, 0)), blk b4 (.cells #[.int .i64 0, .string (bs []), .int .i64 0, .slice none 0 0, .slice none 0 0] 37 (0, 0))]) rfl rfl 4 rfl rfl tc22 rfl rfl trivial (cs' := #[.int .i64 q7.1.Op, .string (bs q7.1.Name), .int .i64 q7.1.N, .slice A11 q7.1.Kids.length c12, .slice A92 x96.length c93]) rfl ?_
        refine StD.next hcl99 (fun h => by cases h) ?_
        refine StD.done (by kernel_rfl) ?_
        refine St.innorm ?_
        refine St.norm ?_
        refine St.region ?_
        refine St.val (v := (.int .i64 ((s47.2.2 + 1 : Nat) : Int))) (Yields.addn (j := 1) rfl rfl rfl (by have q_0 := q64; have q_1 := ph0_1.bnd.2; omega)) trivial rfl rfl ?_
        refine St.val (v := (.int .i64 ((s47.2.2 + 1 : Nat) : Int))) (Yields.move rfl) trivial rfl rfl ?_
        refine St.nil ?_
        refine St.norm ?_
        obtain rfl := sI hm
        intro a w ha hs
        exact ⟨(q78.2, x96, s47.2.2 + 1), aL ho50, vs87, A92, c93, cells94, F80, (PH.le_trans l62 l81), h88, h95, (Bnd.of_push e97), ha.covers ⟨rfl, rfl, rfl, rfl, rfl, rfl, trivial⟩, (Among.of (Among.take 4 rfl rfl (Among.take 2 rfl rfl (Among.take 0 rfl rfl (Among.take 0 rfl rfl Among.none)))) _ hs)⟩
      · intro q100
        replace q100 : ¬ (((s47.2.2 : Nat) : Int) < ((a0.B.length : Nat) : Int)) := of_decide_eq_false q100
        replace hm := iF hm q100
        refine St.exit ?_
        refine St.thenexit ?_
        refine St.thenexit ?_
        refine St.inexit ?_
        obtain rfl := sI hm
        obtain rfl := aR ho50
        intro a w ha hs
        exact ⟨vs52, A56, c57, cells59, F61, l62, h53, h58, b60, ha.covers ⟨rfl, rfl, rfl, trivial⟩, (Among.of (Among.take 0 rfl rfl (Among.take 0 rfl rfl (Among.take 0 rfl rfl (Among.take 0 rfl rfl Among.none)))) _ hs)⟩
  · rintro a w ⟨vs23, A27, c28, cells30, F20, l21, h24, h29, b31, ha, hs⟩
    replace hm := hk32
    refine St.use (?_ : St _ _ _ _ _ _) ha hs
    clear ha hs a w
    refine St.seq ?_
    refine St.region ?_
    refine St.val (v := (.agg #[.int .i64 q7.1.Op, .string (bs q7.1.Name), .int .i64 q7.1.N, .slice A11 q7.1.Kids.length c12, .slice A27 z19.2.length c28])) (Yields.load rfl (Loads.Hk (vs := [.int .i64 q7.1.Op, .string (bs q7.1.Name), .int .i64 q7.1.N, .slice A11 q7.1.Kids.length c12, .slice A27 z19.2.length c28]) 2 rfl ta37 rfl rfl)) trivial rfl rfl ?_
    refine St.val (v := (.map (some b5))) (Yields.move rfl) trivial rfl rfl ?_
    refine St.val (v := (.int .i64 ((z19.1.length : Nat) : Int))) (Yields.lenMap rfl 1 rfl tm100 h24.length) trivial rfl rfl ?_
    refine St.storen (R := [mapv keyInt b5 vs23, blk b18 (.cells #[.int .i64 q7.1.Op, .string (bs q7.1.Name), .int .i64 q7.1.N, .slice A11 q7.1.Kids.length c12, .slice A27 z19.2.length c28] 37 (0, 0)), rowo A27 z19.2.length c28 24 4 cells30]) rfl rfl 0 rfl rfl ta37 rfl rfl rfl trivial (cs' := #[.int .i64 q7.1.Op, .string (bs q7.1.Name), .int .i64 q7.1.N, .slice A11 q7.1.Kids.length c12, .slice A27 z19.2.length c28]) rfl ?_
    refine St.val (v := (.int .i64 ((z19.1.length : Nat) : Int))) (Yields.assign rfl) trivial rfl rfl ?_
    refine St.nil ?_
    refine St.norm ?_
    refine St.ret ?_
    refine St.frz 3 rfl rfl rfl h29 b31 ?_
    intro F101 l102 h103
    obtain rfl := sI hm
    exact St.doneR2 rfl (ResOk.cell rfl (Loads.Hk (vs := [.int .i64 q7.1.Op, .string (bs q7.1.Name), .int .i64 q7.1.N, .slice A11 q7.1.Kids.length c12, .slice A27 z19.2.length c28]) 0 rfl ta37 rfl rfl)) rfl ⟨A11, c12, A27, c28, rfl, (Fsl.mono (PH.le_trans l21 l102) h13), h103, rfl⟩ (fun w hs => Among.of Among.none w hs)

theorem m_value_Normal_sp {F : PH} {g : Nat} {a0 : DAnswer} {pA0_0 : Option Addr} {pc0_0 : Nat} {pA0_1 : Option Addr} {pc0_1 : Nat} (ph0_0 : Fsl 56 KDValue F pA0_0 pc0_0 a0.V.Kids) (ph0_1 : Fsl 56 KDValue F pA0_1 pc0_1 a0.B) {r : DAnswer × Int} (hm : m_value_Normal g a0 = some r) :
    CallSp Try.prog 16 #[.agg #[.int .i64 a0.V.Op, .string (bs a0.V.Name), .int .i64 a0.V.N, .slice pA0_0 a0.V.Kids.length pc0_0, .slice pA0_1 a0.B.length pc0_1]] F [] (fun u F' H' => ∃ (B0_0 : Option Addr) (d0_0 : Nat) (B0_1 : Option Addr) (d0_1 : Nat), u = (.tuple #[.agg #[.int .i64 r.1.V.Op, .string (bs r.1.V.Name), .int .i64 r.1.V.N, .slice B0_0 r.1.V.Kids.length d0_0, .slice B0_1 r.1.B.length d0_1], .int .i64 r.2]) ∧ Fsl 56 KDValue F' B0_0 d0_0 r.1.V.Kids ∧ Fsl 56 KDValue F' B0_1 d0_1 r.1.B ∧ H' = []) := by
  unfold m_value_Normal at hm
  refine CallSp.enter (args := [.agg #[.int .i64 a0.V.Op, .string (bs a0.V.Name), .int .i64 a0.V.N, .slice pA0_0 a0.V.Kids.length pc0_0, .slice pA0_1 a0.B.length pc0_1]]) Try.func16 rfl rfl ?_
  intro w0 m0 hm0
  refine St.seq ?_
  refine St.region ?_
  refine St.box rfl trivial rfl ?_
  intro b3
  refine St.alloc tz37 trivial rfl ?_
  intro b4
  refine St.val (v := (.int .i64 0)) (Yields.assign rfl) trivial rfl rfl ?_
  refine St.nil ?_
  refine St.norm ?_
  refine St.seq ?_
  refine St.seq ?_
  refine St.region ?_
  refine St.val (v := (.agg #[.int .i64 a0.V.Op, .string (bs a0.V.Name), .int .i64 a0.V.N, .slice pA0_0 a0.V.Kids.length pc0_0, .slice pA0_1 a0.B.length pc0_1])) (Yields.load rfl (Loads.Hk (vs := [.int .i64 a0.V.Op, .string (bs a0.V.Name), .int .i64 a0.V.N, .slice pA0_0 a0.V.Kids.length pc0_0, .slice pA0_1 a0.B.length pc0_1]) 1 rfl ta37 rfl rfl)) trivial rfl rfl ?_
  obtain ⟨q5, e6, hm⟩ := bS hm
  refine St.call [blk b4 (.cells #[.int .i64 0, .string (bs []), .int .i64 0, .slice none 0 0, .slice none 0 0] 37 (0, 0)), blk b3 (.cells #[.int .i64 a0.V.Op, .string (bs a0.V.Name), .int .i64 a0.V.N, .slice pA0_0 a0.V.Kids.length pc0_0, .slice pA0_1 a0.B.length pc0_1] 37 (0, 0))] (m_value_Answer_sp (a0 := a0) ph0_0 ph0_1 e6) rfl (fun _ ha => ev1 ha rfl) rfl en18 rfl rfl trivial ?_
  rintro _ F7 _ ⟨rfl, rfl⟩ l8
  refine St.val (v := (.int .i64 q5)) (Yields.assign rfl) trivial rfl rfl ?_
  refine St.nil ?_
  refine St.norm ?_
  refine St.seq ?_
  refine St.region ?_
  refine St.val (v := (.int .i64 q5)) (Yields.move rfl) trivial rfl rfl ?_
  refine St.val (v := (.bool (!decide (q5 = 0)))) (Yields.ne rfl rfl) trivial rfl rfl ?_
  refine St.nil ?_
  refine St.norm ?_
  refine St.cond_b rfl ?_ ?_
  · intro q9
    replace q9 : ¬ (q5 = 0) := nd_t q9
    replace hm := iF hm q9
    refine St.seq ?_
    refine St.region ?_
    refine St.val (v := (.agg #[.int .i64 0, .string (bs []), .int .i64 0, .slice none 0 0, .slice none 0 0])) (Yields.build (v := (.agg #[.int .i64 0, .string (bs []), .int .i64 0, .slice none 0 0, .slice none 0 0])) (vs := #[]) (fun a _ => by simp) (fun _ => by kernel_rfl)) trivial rfl rfl ?_
    refine St.val (v := (.int .i64 q5)) (Yields.move rfl) trivial rfl rfl ?_
    refine St.storen (R := [blk b3 (.cells #[.int .i64 a0.V.Op, .string (bs a0.V.Name), .int .i64 a0.V.N, .slice pA0_0 a0.V.Kids.length pc0_0, .slice pA0_1 a0.B.length pc0_1] 37 (0, 0))]) rfl rfl 0 rfl rfl ta37 rfl rfl rfl trivial (cs' := #[.int .i64 0, .string (bs []), .int .i64 0, .slice none 0 0, .slice none 0 0]) rfl ?_
    refine St.val (v := (.int .i64 q5)) (Yields.assign rfl) trivial rfl rfl ?_
    refine St.nil ?_
    refine St.norm ?_
    refine St.ret ?_
    refine St.thenret ?_
    obtain rfl := sI hm
    exact St.doneR2 rfl (ResOk.cell rfl (Loads.Hk (vs := [.int .i64 0, .string (bs []), .int .i64 0, .slice none 0 0, .slice none 0 0]) 0 rfl ta37 rfl rfl)) rfl ⟨none, 0, none, 0, rfl, Fsl.nil, Fsl.nil, rfl⟩ (fun w hs => Among.of Among.none w hs)
  · intro q10
    replace q10 : q5 = 0 := nd_f q10
    replace hm := iT hm q10
    refine St.skip ?_
    refine St.norm ?_
    refine St.seq ?_
    refine St.region ?_
    refine St.val (v := (.agg #[.int .i64 a0.V.Op, .string (bs a0.V.Name), .int .i64 a0.V.N, .slice pA0_0 a0.V.Kids.length pc0_0, .slice pA0_1 a0.B.length pc0_1])) (Yields.load rfl (Loads.Hk (vs := [.int .i64 a0.V.Op, .string (bs a0.V.Name), .int .i64 a0.V.N, .slice pA0_0 a0.V.Kids.length pc0_0, .slice pA0_1 a0.B.length pc0_1]) 1 rfl ta37 rfl rfl)) trivial rfl rfl ?_
    obtain ⟨q11, e12, hm⟩ := bS hm
    refine St.call [blk b4 (.cells #[.int .i64 0, .string (bs []), .int .i64 0, .slice none 0 0, .slice none 0 0] 37 (0, 0)), blk b3 (.cells #[.int .i64 a0.V.Op, .string (bs a0.V.Name), .int .i64 a0.V.N, .slice pA0_0 a0.V.Kids.length pc0_0, .slice pA0_1 a0.B.length pc0_1] 37 (0, 0))] (m_value_normal_sp (a0 := a0) (Fsl.mono l8 ph0_0) (Fsl.mono l8 ph0_1) e12) rfl (fun _ ha => ev1 ha rfl) rfl en36 rfl rfl trivial ?_
    rintro _ F13 _ ⟨A15, c16, A19, c20, rfl, h17, h21, rfl⟩ l14
    refine St.val (v := (.tuple #[.agg #[.int .i64 q11.1.V.Op, .string (bs q11.1.V.Name), .int .i64 q11.1.V.N, .slice A15 q11.1.V.Kids.length c16, .slice A19 q11.1.B.length c20], .int .i64 q11.2])) (Yields.move rfl) trivial rfl rfl ?_
    refine St.val (v := (.agg #[.int .i64 q11.1.V.Op, .string (bs q11.1.V.Name), .int .i64 q11.1.V.N, .slice A15 q11.1.V.Kids.length c16, .slice A19 q11.1.B.length c20])) (Yields.extract rfl rfl) trivial rfl rfl ?_
    refine St.val (v := (.int .i64 q11.2)) (Yields.extract rfl rfl) trivial rfl rfl ?_
    refine St.alloc tz37 trivial rfl ?_
    intro b23
    refine St.storen (R := [blk b4 (.cells #[.int .i64 0, .string (bs []), .int .i64 0, .slice none 0 0, .slice none 0 0] 37 (0, 0)), blk b3 (.cells #[.int .i64 a0.V.Op, .string (bs a0.V.Name), .int .i64 a0.V.N, .slice pA0_0 a0.V.Kids.length pc0_0, .slice pA0_1 a0.B.length pc0_1] 37 (0, 0))]) rfl rfl 0 rfl rfl ta37 rfl rfl rfl trivial (cs' := #[.int .i64 q11.1.V.Op, .string (bs q11.1.V.Name), .int .i64 q11.1.V.N, .slice A15 q11.1.V.Kids.length c16, .slice A19 q11.1.B.length c20]) rfl ?_
    refine St.val (v := (.int .i64 q11.2)) (Yields.assign rfl) trivial rfl rfl ?_
    refine St.nil ?_
    refine St.norm ?_
    refine St.seq ?_
    refine St.seq ?_
    refine St.region ?_
    refine St.val (v := (.int .i64 q11.2)) (Yields.move rfl) trivial rfl rfl ?_
    refine St.val (v := (.bool (decide (q11.2 > 300)))) (Yields.gt rfl rfl) trivial rfl rfl ?_
    refine St.nil ?_
    refine St.norm ?_
    refine St.cond_b rfl ?_ ?_
    · intro q24
      replace q24 : q11.2 > 300 := of_decide_eq_true q24
      replace hm := iT hm q24
      refine St.seq ?_
      refine St.region ?_
      refine St.val (v := (.agg #[.int .i64 0, .string (bs []), .int .i64 0, .slice none 0 0, .slice none 0 0])) (Yields.build (v := (.agg #[.int .i64 0, .string (bs []), .int .i64 0, .slice none 0 0, .slice none 0 0])) (vs := #[]) (fun a _ => by simp) (fun _ => by kernel_rfl)) trivial rfl rfl ?_
      refine St.storen (R := [blk b23 (.cells #[.int .i64 q11.1.V.Op, .string (bs q11.1.V.Name), .int .i64 q11.1.V.N, .slice A15 q11.1.V.Kids.length c16, .slice A19 q11.1.B.length c20] 37 (0, 0)), blk b3 (.cells #[.int .i64 a0.V.Op, .string (bs a0.V.Name), .int .i64 a0.V.N, .slice pA0_0 a0.V.Kids.length pc0_0, .slice pA0_1 a0.B.length pc0_1] 37 (0, 0))]) rfl rfl 1 rfl rfl ta37 rfl rfl rfl trivial (cs' := #[.int .i64 0, .string (bs []), .int .i64 0, .slice none 0 0, .slice none 0 0]) rfl ?_
      refine St.val (v := (.int .i64 3)) (Yields.assign rfl) trivial rfl rfl ?_
      refine St.nil ?_
      refine St.norm ?_
      refine St.ret ?_
      refine St.thenret ?_
      obtain rfl := sI hm
      exact St.doneR2 rfl (ResOk.cell rfl (Loads.Hk (vs := [.int .i64 0, .string (bs []), .int .i64 0, .slice none 0 0, .slice none 0 0]) 0 rfl ta37 rfl rfl)) rfl ⟨none, 0, none, 0, rfl, Fsl.nil, Fsl.nil, rfl⟩ (fun w hs => Among.of Among.none w hs)
    · intro q25
      replace q25 : ¬ (q11.2 > 300) := of_decide_eq_false q25
      replace hm := iF hm q25
      refine St.skip ?_
      refine St.norm ?_
      refine St.seq ?_
      refine St.region ?_
      refine St.val (v := (.agg #[.int .i64 q11.1.V.Op, .string (bs q11.1.V.Name), .int .i64 q11.1.V.N, .slice A15 q11.1.V.Kids.length c16, .slice A19 q11.1.B.length c20])) (Yields.load rfl (Loads.Hk (vs := [.int .i64 q11.1.V.Op, .string (bs q11.1.V.Name), .int .i64 q11.1.V.N, .slice A15 q11.1.V.Kids.length c16, .slice A19 q11.1.B.length c20]) 0 rfl ta37 rfl rfl)) trivial rfl rfl ?_
      refine St.storen (R := [blk b23 (.cells #[.int .i64 q11.1.V.Op, .string (bs q11.1.V.Name), .int .i64 q11.1.V.N, .slice A15 q11.1.V.Kids.length c16, .slice A19 q11.1.B.length c20] 37 (0, 0)), blk b3 (.cells #[.int .i64 a0.V.Op, .string (bs a0.V.Name), .int .i64 a0.V.N, .slice pA0_0 a0.V.Kids.length pc0_0, .slice pA0_1 a0.B.length pc0_1] 37 (0, 0))]) rfl rfl 1 rfl rfl ta37 rfl rfl rfl trivial (cs' := #[.int .i64 q11.1.V.Op, .string (bs q11.1.V.Name), .int .i64 q11.1.V.N, .slice A15 q11.1.V.Kids.length c16, .slice A19 q11.1.B.length c20]) rfl ?_
      refine St.val (v := (.int .i64 0)) (Yields.assign rfl) trivial rfl rfl ?_
      refine St.nil ?_
      refine St.norm ?_
      refine St.ret ?_
      obtain rfl := sI hm
      exact St.doneR2 rfl (ResOk.cell rfl (Loads.Hk (vs := [.int .i64 q11.1.V.Op, .string (bs q11.1.V.Name), .int .i64 q11.1.V.N, .slice A15 q11.1.V.Kids.length c16, .slice A19 q11.1.B.length c20]) 0 rfl ta37 rfl rfl)) rfl ⟨A15, c16, A19, c20, rfl, h17, h21, rfl⟩ (fun w hs => Among.of Among.none w hs)

theorem m_law08_known_sp {F : PH} {g : Nat} {r : Bool} (hm : m_law08_known g = some r) :
    CallSp Try.prog 9 #[] F [] (fun u F' H' => u = (.bool r) ∧ H' = []) := by
  unfold m_law08_known at hm
  refine CallSp.enter (args := []) Try.func9 rfl rfl ?_
  intro w0 m0 hm0
  refine St.seq ?_
  refine St.region ?_
  refine St.val (v := (.bool false)) (Yields.assign rfl) trivial rfl rfl ?_
  refine St.nil ?_
  refine St.norm ?_
  refine St.seq ?_
  refine St.region ?_
  refine St.val (v := (.agg #[.int .i64 3, .string (bs []), .int .i64 3, .slice none 0 0])) (Yields.build (v := (.agg #[.int .i64 3, .string (bs []), .int .i64 3, .slice none 0 0])) (vs := #[(0, .int .i64 3), (2, .int .i64 3)]) (fun _ ha => evp2 ha rfl rfl) (fun _ => by kernel_rfl)) trivial rfl rfl ?_
  refine St.alloc tz24 trivial rfl ?_
  intro b1
  refine St.storen (R := []) rfl rfl 0 rfl rfl ta24 rfl rfl rfl trivial (cs' := #[.int .i64 3, .string (bs []), .int .i64 3, .slice none 0 0]) rfl ?_
  refine St.nil ?_
  refine St.norm ?_
  refine St.seq ?_
  refine St.region ?_
  refine St.val (v := (.agg #[.int .i64 3, .string (bs []), .int .i64 3, .slice none 0 0])) (Yields.load rfl (Loads.Hk (vs := [.int .i64 3, .string (bs []), .int .i64 3, .slice none 0 0]) 0 rfl ta24 rfl rfl)) trivial rfl rfl ?_
  refine St.val (v := (.agg #[.int .i64 3, .string (bs []), .int .i64 3, .slice none 0 0])) (Yields.load rfl (Loads.Hk (vs := [.int .i64 3, .string (bs []), .int .i64 3, .slice none 0 0]) 0 rfl ta24 rfl rfl)) trivial rfl rfl ?_
  refine St.buildSlice (e := 24) (cells := #[.int .i64 3, .string (bs []), .int .i64 3, .slice none 0 0, .int .i64 3, .string (bs []), .int .i64 3, .slice none 0 0]) (vs := #[(0, .agg #[.int .i64 3, .string (bs []), .int .i64 3, .slice none 0 0]), (1, .agg #[.int .i64 3, .string (bs []), .int .i64 3, .slice none 0 0])]) (fun _ ha => evp2 ha rfl rfl) (fun _ => by kernel_rfl) rfl trivial ?_
  intro b2
  refine St.weak (R := [blk b1 (.cells #[.int .i64 3, .string (bs []), .int .i64 3, .slice none 0 0] 24 (0, 0))]) (c' := rowo (some ⟨b2, 0, none⟩) ([(DValue.mk 3 ([] : List UInt8) 3 ([] : List DValue)), (DValue.mk 3 ([] : List UInt8) 3 ([] : List DValue))] : List DValue).length 2 24 4 [.int .i64 3, .string (bs []), .int .i64 3, .slice none 0 0, .int .i64 3, .string (bs []), .int .i64 3, .slice none 0 0]) 0 rfl rfl (fun m hm => rowo_of_row (row_of_blk (k := 2) rfl (by decide) hm)) ?_
  refine St.val (v := (.agg #[.int .i64 1, .string (bs [80, 97, 105, 114]), .int .i64 0, .slice (some ⟨b2, 0, none⟩) ([(DValue.mk 3 ([] : List UInt8) 3 ([] : List DValue)), (DValue.mk 3 ([] : List UInt8) 3 ([] : List DValue))] : List DValue).length 2])) (Yields.build (v := (.agg #[.int .i64 1, .string (bs [80, 97, 105, 114]), .int .i64 0, .slice (some ⟨b2, 0, none⟩) ([(DValue.mk 3 ([] : List UInt8) 3 ([] : List DValue)), (DValue.mk 3 ([] : List UInt8) 3 ([] : List DValue))] : List DValue).length 2])) (vs := #[(0, .int .i64 1), (1, .string (bs [80, 97, 105, 114])), (3, .slice (some ⟨b2, 0, none⟩) ([(DValue.mk 3 ([] : List UInt8) 3 ([] : List DValue)), (DValue.mk 3 ([] : List UInt8) 3 ([] : List DValue))] : List DValue).length 2)]) (fun _ ha => evp3 ha rfl rfl rfl) (fun _ => by kernel_rfl)) trivial rfl rfl ?_
  refine St.val (v := (.agg #[.int .i64 3, .string (bs []), .int .i64 3, .slice none 0 0])) (Yields.load rfl (Loads.Hk (vs := [.int .i64 3, .string (bs []), .int .i64 3, .slice none 0 0]) 1 rfl ta24 rfl rfl)) trivial rfl rfl ?_
  refine St.val (v := (.agg #[.int .i64 3, .string (bs []), .int .i64 7, .slice none 0 0])) (Yields.build (v := (.agg #[.int .i64 3, .string (bs []), .int .i64 7, .slice none 0 0])) (vs := #[(0, .int .i64 3), (2, .int .i64 7)]) (fun _ ha => evp2 ha rfl rfl) (fun _ => by kernel_rfl)) trivial rfl rfl ?_
  refine St.buildSlice (e := 24) (cells := #[.int .i64 3, .string (bs []), .int .i64 3, .slice none 0 0, .int .i64 3, .string (bs []), .int .i64 7, .slice none 0 0]) (vs := #[(0, .agg #[.int .i64 3, .string (bs []), .int .i64 3, .slice none 0 0]), (1, .agg #[.int .i64 3, .string (bs []), .int .i64 7, .slice none 0 0])]) (fun _ ha => evp2 ha rfl rfl) (fun _ => by kernel_rfl) rfl trivial ?_
  intro b4
  refine St.weak (R := [rowo (some ⟨b2, 0, none⟩) ([(DValue.mk 3 ([] : List UInt8) 3 ([] : List DValue)), (DValue.mk 3 ([] : List UInt8) 3 ([] : List DValue))] : List DValue).length 2 24 4 [.int .i64 3, .string (bs []), .int .i64 3, .slice none 0 0, .int .i64 3, .string (bs []), .int .i64 3, .slice none 0 0], blk b1 (.cells #[.int .i64 3, .string (bs []), .int .i64 3, .slice none 0 0] 24 (0, 0))]) (c' := rowo (some ⟨b4, 0, none⟩) ([(DValue.mk 3 ([] : List UInt8) 3 ([] : List DValue)), (DValue.mk 3 ([] : List UInt8) 7 ([] : List DValue))] : List DValue).length 2 24 4 [.int .i64 3, .string (bs []), .int .i64 3, .slice none 0 0, .int .i64 3, .string (bs []), .int .i64 7, .slice none 0 0]) 0 rfl rfl (fun m hm => rowo_of_row (row_of_blk (k := 2) rfl (by decide) hm)) ?_
  refine St.val (v := (.agg #[.int .i64 1, .string (bs [80, 97, 105, 114]), .int .i64 0, .slice (some ⟨b2, 0, none⟩) ([(DValue.mk 3 ([] : List UInt8) 3 ([] : List DValue)), (DValue.mk 3 ([] : List UInt8) 3 ([] : List DValue))] : List DValue).length 2, .slice (some ⟨b4, 0, none⟩) ([(DValue.mk 3 ([] : List UInt8) 3 ([] : List DValue)), (DValue.mk 3 ([] : List UInt8) 7 ([] : List DValue))] : List DValue).length 2])) (Yields.build (v := (.agg #[.int .i64 1, .string (bs [80, 97, 105, 114]), .int .i64 0, .slice (some ⟨b2, 0, none⟩) ([(DValue.mk 3 ([] : List UInt8) 3 ([] : List DValue)), (DValue.mk 3 ([] : List UInt8) 3 ([] : List DValue))] : List DValue).length 2, .slice (some ⟨b4, 0, none⟩) ([(DValue.mk 3 ([] : List UInt8) 3 ([] : List DValue)), (DValue.mk 3 ([] : List UInt8) 7 ([] : List DValue))] : List DValue).length 2])) (vs := #[(0, .agg #[.int .i64 1, .string (bs [80, 97, 105, 114]), .int .i64 0, .slice (some ⟨b2, 0, none⟩) ([(DValue.mk 3 ([] : List UInt8) 3 ([] : List DValue)), (DValue.mk 3 ([] : List UInt8) 3 ([] : List DValue))] : List DValue).length 2]), (1, .slice (some ⟨b4, 0, none⟩) ([(DValue.mk 3 ([] : List UInt8) 3 ([] : List DValue)), (DValue.mk 3 ([] : List UInt8) 7 ([] : List DValue))] : List DValue).length 2)]) (fun _ ha => evp2 ha rfl rfl) (fun _ => by kernel_rfl)) trivial rfl rfl ?_
  refine St.frz 1 rfl rfl rfl (show Cat KDValue F [.int .i64 3, .string (bs []), .int .i64 3, .slice none 0 0, .int .i64 3, .string (bs []), .int .i64 3, .slice none 0 0] ([(DValue.mk 3 ([] : List UInt8) 3 ([] : List DValue)), (DValue.mk 3 ([] : List UInt8) 3 ([] : List DValue))] : List DValue) from ⟨[.int .i64 3, .string (bs []), .int .i64 3, .slice none 0 0], _, rfl, (DValue.shut Fsl.nil), ⟨[.int .i64 3, .string (bs []), .int .i64 3, .slice none 0 0], _, rfl, (DValue.shut Fsl.nil), rfl⟩⟩) (show Bnd 56 ([(DValue.mk 3 ([] : List UInt8) 3 ([] : List DValue)), (DValue.mk 3 ([] : List UInt8) 3 ([] : List DValue))] : List DValue) from ⟨by simp, by simp⟩) ?_
  intro F6 l7 h8
  refine St.frz 0 rfl rfl rfl (Cat.mono l7 (show Cat KDValue F [.int .i64 3, .string (bs []), .int .i64 3, .slice none 0 0, .int .i64 3, .string (bs []), .int .i64 7, .slice none 0 0] ([(DValue.mk 3 ([] : List UInt8) 3 ([] : List DValue)), (DValue.mk 3 ([] : List UInt8) 7 ([] : List DValue))] : List DValue) from ⟨[.int .i64 3, .string (bs []), .int .i64 3, .slice none 0 0], _, rfl, (DValue.shut Fsl.nil), ⟨[.int .i64 3, .string (bs []), .int .i64 7, .slice none 0 0], _, rfl, (DValue.shut Fsl.nil), rfl⟩⟩)) (show Bnd 56 ([(DValue.mk 3 ([] : List UInt8) 3 ([] : List DValue)), (DValue.mk 3 ([] : List UInt8) 7 ([] : List DValue))] : List DValue) from ⟨by simp, by simp⟩) ?_
  intro F9 l10 h11
  obtain ⟨q12, e13, hm⟩ := bS hm
  refine St.call [blk b1 (.cells #[.int .i64 3, .string (bs []), .int .i64 3, .slice none 0 0] 24 (0, 0))] (m_value_Normal_sp (a0 := (DAnswer.mk (DValue.mk 1 [80, 97, 105, 114] 0 ([(DValue.mk 3 ([] : List UInt8) 3 ([] : List DValue)), (DValue.mk 3 ([] : List UInt8) 3 ([] : List DValue))] : List DValue)) ([(DValue.mk 3 ([] : List UInt8) 3 ([] : List DValue)), (DValue.mk 3 ([] : List UInt8) 7 ([] : List DValue))] : List DValue))) (Fsl.mono l10 h8) h11 e13) rfl (fun _ ha => ev1 ha rfl) rfl en16 rfl rfl trivial ?_
  rintro _ F14 _ ⟨A16, c17, A20, c21, rfl, h18, h22, rfl⟩ l15
  refine St.val (v := (.tuple #[.agg #[.int .i64 q12.1.V.Op, .string (bs q12.1.V.Name), .int .i64 q12.1.V.N, .slice A16 q12.1.V.Kids.length c17, .slice A20 q12.1.B.length c21], .int .i64 q12.2])) (Yields.move rfl) trivial rfl rfl ?_
  refine St.val (v := (.agg #[.int .i64 q12.1.V.Op, .string (bs q12.1.V.Name), .int .i64 q12.1.V.N, .slice A16 q12.1.V.Kids.length c17, .slice A20 q12.1.B.length c21])) (Yields.extract rfl rfl) trivial rfl rfl ?_
  refine St.val (v := (.int .i64 q12.2)) (Yields.extract rfl rfl) trivial rfl rfl ?_
  refine St.alloc tz37 trivial rfl ?_
  intro b24
  refine St.storen (R := [blk b1 (.cells #[.int .i64 3, .string (bs []), .int .i64 3, .slice none 0 0] 24 (0, 0))]) rfl rfl 0 rfl rfl ta37 rfl rfl rfl trivial (cs' := #[.int .i64 q12.1.V.Op, .string (bs q12.1.V.Name), .int .i64 q12.1.V.N, .slice A16 q12.1.V.Kids.length c17, .slice A20 q12.1.B.length c21]) rfl ?_
  refine St.val (v := (.int .i64 q12.2)) (Yields.assign rfl) trivial rfl rfl ?_
  refine St.nil ?_
  refine St.norm ?_
  obtain ⟨z25, hm, hk26⟩ := bS hm
  refine St.cutI (fun a w => Has Try.f9.ntmps a [(0, .bool z25)] ∧ Sat ⟨w0, fun b => m0 b ≠ none, F⟩ F14 [] w) ?_ ?_
  · skip
    refine St.region ?_
    refine St.val (v := (.int .i64 q12.2)) (Yields.move rfl) trivial rfl rfl ?_
    by_cases q27 : q12.2 = 0
    · replace hm := iT hm q27
      refine St.val (v := (.bool true)) (Yields.is q27 (Yields.eq rfl rfl)) trivial rfl rfl ?_
      refine St.val (v := (.bool true)) (Yields.move rfl) trivial rfl rfl ?_
      refine St.val (v := (.pointer (some ⟨b24, 4, none⟩))) (Yields.fieldAddr (v := (.pointer (some ⟨b24, 4, none⟩))) rfl (fun _ => by kernel_rfl)) rfl rfl rfl ?_
      refine St.val (v := (.slice A20 q12.1.B.length c21)) (Yields.load rfl (Loads.H1 0 rfl tc22 rfl)) rfl rfl rfl ?_
      refine St.val (v := (.int .i64 ((q12.1.B.length : Nat) : Int))) (Yields.lenSlice tu22 rfl) rfl rfl rfl ?_
      by_cases q28 : ((q12.1.B.length : Nat) : Int) = 2
      · replace hm := iT hm q28
        refine St.val (v := (.bool true)) (Yields.is q28 (Yields.eq rfl rfl)) rfl rfl rfl ?_
        refine St.val (v := (.bool true)) (Yields.pick_t rfl rfl) trivial rfl rfl ?_
        refine St.val (v := (.bool true)) (Yields.move rfl) trivial rfl rfl ?_
        refine St.val (v := (.pointer (some ⟨b24, 4, none⟩))) (Yields.fieldAddr (v := (.pointer (some ⟨b24, 4, none⟩))) rfl (fun _ => by kernel_rfl)) rfl rfl rfl ?_
        refine St.val (v := (.slice A20 q12.1.B.length c21)) (Yields.load rfl (Loads.H1 0 rfl tc22 rfl)) rfl rfl rfl ?_
        obtain ⟨x29, e30, hm⟩ := bS hm
        replace e30 := nlit e30
        obtain ⟨p31, cs32, jx33, R34, k35⟩ := h22.idx e30
        obtain ⟨A36, c37, rfl, h38⟩ := DValue.opn R34
        refine St.val (v := (.pointer (some p31))) (Yields.idx jx33 ts22 rfl rfl) rfl rfl rfl ?_
        refine St.val (v := (.pointer (some (p31.add 2)))) (Yields.fieldAddr (v := (.pointer (some (p31.add 2)))) rfl (fun _ => by kernel_rfl)) rfl rfl rfl ?_
        refine St.val (v := (.int .i64 x29.N)) (Yields.load rfl (Loads.Fatk 2 k35 tc3 rfl)) rfl rfl rfl ?_
        by_cases q40 : x29.N = 0
        · replace hm := iT hm q40
          refine St.val (v := (.bool true)) (Yields.is q40 (Yields.eq rfl rfl)) rfl rfl rfl ?_
          refine St.val (v := (.bool true)) (Yields.pick_t rfl rfl) trivial rfl rfl ?_
          refine St.val (v := (.bool true)) (Yields.move rfl) trivial rfl rfl ?_
          refine St.val (v := (.pointer (some ⟨b24, 4, none⟩))) (Yields.fieldAddr (v := (.pointer (some ⟨b24, 4, none⟩))) rfl (fun _ => by kernel_rfl)) rfl rfl rfl ?_
          refine St.val (v := (.slice A20 q12.1.B.length c21)) (Yields.load rfl (Loads.H1 0 rfl tc22 rfl)) rfl rfl rfl ?_
          obtain ⟨x41, e42, hm⟩ := bS hm
          replace e42 := nlit e42
          obtain ⟨p43, cs44, jx45, R46, k47⟩ := h22.idx e42
          obtain ⟨A48, c49, rfl, h50⟩ := DValue.opn R46
          refine St.val (v := (.pointer (some p43))) (Yields.idx jx45 ts22 rfl rfl) rfl rfl rfl ?_
          refine St.val (v := (.pointer (some (p43.add 2)))) (Yields.fieldAddr (v := (.pointer (some (p43.add 2)))) rfl (fun _ => by kernel_rfl)) rfl rfl rfl ?_
          refine St.val (v := (.int .i64 x41.N)) (Yields.load rfl (Loads.Fatk 2 k47 tc3 rfl)) rfl rfl rfl ?_
          by_cases q52 : x41.N = 1
          · replace hm := iT hm q52
            refine St.val (v := (.bool true)) (Yields.is q52 (Yields.eq rfl rfl)) rfl rfl rfl ?_
            refine St.val (v := (.bool true)) (Yields.pick_t rfl rfl) trivial rfl rfl ?_
            refine St.val (v := (.bool true)) (Yields.move rfl) trivial rfl rfl ?_
            refine St.val (v := (.pointer (some ⟨b24, 0, none⟩))) (Yields.fieldAddr (v := (.pointer (some ⟨b24, 0, none⟩))) rfl (fun _ => by kernel_rfl)) rfl rfl rfl ?_
            refine St.val (v := (.pointer (some ⟨b24, 3, none⟩))) (Yields.fieldAddr (v := (.pointer (some ⟨b24, 3, none⟩))) rfl (fun _ => by kernel_rfl)) rfl rfl rfl ?_
            refine St.val (v := (.slice A16 q12.1.V.Kids.length c17)) (Yields.load rfl (Loads.H1 0 rfl tc22 rfl)) rfl rfl rfl ?_
            refine St.val (v := (.int .i64 ((q12.1.V.Kids.length : Nat) : Int))) (Yields.lenSlice tu22 rfl) rfl rfl rfl ?_
            by_cases q53 : ((q12.1.V.Kids.length : Nat) : Int) = 2
            · replace hm := iT hm q53
              refine St.val (v := (.bool true)) (Yields.is q53 (Yields.eq rfl rfl)) rfl rfl rfl ?_
              refine St.val (v := (.bool true)) (Yields.pick_t rfl rfl) trivial rfl rfl ?_
              refine St.val (v := (.bool true)) (Yields.move rfl) trivial rfl rfl ?_
              refine St.val (v := (.pointer (some ⟨b24, 0, none⟩))) (Yields.fieldAddr (v := (.pointer (some ⟨b24, 0, none⟩))) rfl (fun _ => by kernel_rfl)) rfl rfl rfl ?_
              refine St.val (v := (.pointer (some ⟨b24, 3, none⟩))) (Yields.fieldAddr (v := (.pointer (some ⟨b24, 3, none⟩))) rfl (fun _ => by kernel_rfl)) rfl rfl rfl ?_
              refine St.val (v := (.slice A16 q12.1.V.Kids.length c17)) (Yields.load rfl (Loads.H1 0 rfl tc22 rfl)) rfl rfl rfl ?_
              obtain ⟨x54, e55, hm⟩ := bS hm
              replace e55 := nlit e55
              obtain ⟨p56, cs57, jx58, R59, k60⟩ := h18.idx e55
              obtain ⟨A61, c62, rfl, h63⟩ := DValue.opn R59
              refine St.val (v := (.pointer (some p56))) (Yields.idx jx58 ts22 rfl rfl) rfl rfl rfl ?_
              refine St.val (v := (.pointer (some (p56.add 2)))) (Yields.fieldAddr (v := (.pointer (some (p56.add 2)))) rfl (fun _ => by kernel_rfl)) rfl rfl rfl ?_
              refine St.val (v := (.int .i64 x54.N)) (Yields.load rfl (Loads.Fatk 2 k60 tc3 rfl)) rfl rfl rfl ?_
              refine St.val (v := (.bool (decide (x54.N = 0)))) (Yields.eq rfl rfl) rfl rfl rfl ?_
              refine St.val (v := (.bool (decide (x54.N = 0)))) (Yields.pick_t rfl rfl) trivial rfl rfl ?_
              refine St.val (v := (.bool (decide (x54.N = 0)))) (Yields.assign rfl) trivial rfl rfl ?_
              refine St.nil ?_
              obtain rfl := sI hm
              intro a w ha hs
              exact ⟨ha.covers ⟨rfl, trivial⟩, (Among.of Among.none _ hs)⟩
            · replace hm := iF hm q53
              refine St.val (v := (.bool false)) (Yields.isnt q53 (Yields.eq rfl rfl)) rfl rfl rfl ?_
              refine St.val (v := (.bool false)) (Yields.pick_t rfl rfl) trivial rfl rfl ?_
              refine St.val (v := (.bool false)) (Yields.move rfl) trivial rfl rfl ?_
              refine St.unwanted rfl rfl rfl ?_
              refine St.unwanted rfl rfl rfl ?_
              refine St.unwanted rfl rfl rfl ?_
              refine St.unwanted rfl rfl rfl ?_
              refine St.unwanted rfl rfl rfl ?_
              refine St.unwanted rfl rfl rfl ?_
              refine St.unwanted rfl rfl rfl ?_
              refine St.val (v := (.bool false)) (Yields.pick_f rfl rfl) trivial rfl rfl ?_
              refine St.val (v := (.bool false)) (Yields.assign rfl) trivial rfl rfl ?_
              refine St.nil ?_
              obtain rfl := sI hm
              intro a w ha hs
              exact ⟨ha.covers ⟨rfl, trivial⟩, (Among.of Among.none _ hs)⟩
          · replace hm := iF hm q52
            refine St.val (v := (.bool false)) (Yields.isnt q52 (Yields.eq rfl rfl)) rfl rfl rfl ?_
            refine St.val (v := (.bool false)) (Yields.pick_t rfl rfl) trivial rfl rfl ?_
            refine St.val (v := (.bool false)) (Yields.move rfl) trivial rfl rfl ?_
            refine St.unwanted rfl rfl rfl ?_
            refine St.unwanted rfl rfl rfl ?_
            refine St.unwanted rfl rfl rfl ?_
            refine St.unwanted rfl rfl rfl ?_
            refine St.unwanted rfl rfl rfl ?_
            refine St.val (v := (.bool false)) (Yields.pick_f rfl rfl) trivial rfl rfl ?_
            refine St.val (v := (.bool false)) (Yields.move rfl) trivial rfl rfl ?_
            refine St.unwanted rfl rfl rfl ?_
            refine St.unwanted rfl rfl rfl ?_
            refine St.unwanted rfl rfl rfl ?_
            refine St.unwanted rfl rfl rfl ?_
            refine St.unwanted rfl rfl rfl ?_
            refine St.unwanted rfl rfl rfl ?_
            refine St.unwanted rfl rfl rfl ?_
            refine St.val (v := (.bool false)) (Yields.pick_f rfl rfl) trivial rfl rfl ?_
            refine St.val (v := (.bool false)) (Yields.assign rfl) trivial rfl rfl ?_
            refine St.nil ?_
            obtain rfl := sI hm
            intro a w ha hs
            exact ⟨ha.covers ⟨rfl, trivial⟩, (Among.of Among.none _ hs)⟩
        · replace hm := iF hm q40
          refine St.val (v := (.bool false)) (Yields.isnt q40 (Yields.eq rfl rfl)) rfl rfl rfl ?_
          refine St.val (v := (.bool false)) (Yields.pick_t rfl rfl) trivial rfl rfl ?_
          refine St.val (v := (.bool false)) (Yields.move rfl) trivial rfl rfl ?_
          refine St.unwanted rfl rfl rfl ?_
          refine St.unwanted rfl rfl rfl ?_
          refine St.unwanted rfl rfl rfl ?_
          refine St.unwanted rfl rfl rfl ?_
          refine St.unwanted rfl rfl rfl ?_
          refine St.unwanted rfl rfl rfl ?_
          refine St.val (v := (.bool false)) (Yields.pick_f rfl rfl) trivial rfl rfl ?_
          refine St.val (v := (.bool false)) (Yields.move rfl) trivial rfl rfl ?_
          refine St.unwanted rfl rfl rfl ?_
          refine St.unwanted rfl rfl rfl ?_
          refine St.unwanted rfl rfl rfl ?_
          refine St.unwanted rfl rfl rfl ?_
          refine St.unwanted rfl rfl rfl ?_
          refine St.val (v := (.bool false)) (Yields.pick_f rfl rfl) trivial rfl rfl ?_
          refine St.val (v := (.bool false)) (Yields.move rfl) trivial rfl rfl ?_
          refine St.unwanted rfl rfl rfl ?_
          refine St.unwanted rfl rfl rfl ?_
          refine St.unwanted rfl rfl rfl ?_
          refine St.unwanted rfl rfl rfl ?_
          refine St.unwanted rfl rfl rfl ?_
          refine St.unwanted rfl rfl rfl ?_
          refine St.unwanted rfl rfl rfl ?_
          refine St.val (v := (.bool false)) (Yields.pick_f rfl rfl) trivial rfl rfl ?_
          refine St.val (v := (.bool false)) (Yields.assign rfl) trivial rfl rfl ?_
          refine St.nil ?_
          obtain rfl := sI hm
          intro a w ha hs
          exact ⟨ha.covers ⟨rfl, trivial⟩, (Among.of Among.none _ hs)⟩
      · replace hm := iF hm q28
        refine St.val (v := (.bool false)) (Yields.isnt q28 (Yields.eq rfl rfl)) rfl rfl rfl ?_
        refine St.val (v := (.bool false)) (Yields.pick_t rfl rfl) trivial rfl rfl ?_
        refine St.val (v := (.bool false)) (Yields.move rfl) trivial rfl rfl ?_
        refine St.unwanted rfl rfl rfl ?_
        refine St.unwanted rfl rfl rfl ?_
        refine St.unwanted rfl rfl rfl ?_
        refine St.unwanted rfl rfl rfl ?_
        refine St.unwanted rfl rfl rfl ?_
        refine St.unwanted rfl rfl rfl ?_
        refine St.val (v := (.bool false)) (Yields.pick_f rfl rfl) trivial rfl rfl ?_
        refine St.val (v := (.bool false)) (Yields.move rfl) trivial rfl rfl ?_
        refine St.unwanted rfl rfl rfl ?_
        refine St.unwanted rfl rfl rfl ?_
        refine St.unwanted rfl rfl rfl ?_
        refine St.unwanted rfl rfl rfl ?_
        refine St.unwanted rfl rfl rfl ?_
        refine St.unwanted rfl rfl rfl ?_
        refine St.val (v := (.bool false)) (Yields.pick_f rfl rfl) trivial rfl rfl ?_
        refine St.val (v := (.bool false)) (Yields.move rfl) trivial rfl rfl ?_
        refine St.unwanted rfl rfl rfl ?_
        refine St.unwanted rfl rfl rfl ?_
        refine St.unwanted rfl rfl rfl ?_
        refine St.unwanted rfl rfl rfl ?_
        refine St.unwanted rfl rfl rfl ?_
        refine St.val (v := (.bool false)) (Yields.pick_f rfl rfl) trivial rfl rfl ?_
        refine St.val (v := (.bool false)) (Yields.move rfl) trivial rfl rfl ?_
        refine St.unwanted rfl rfl rfl ?_
        refine St.unwanted rfl rfl rfl ?_
        refine St.unwanted rfl rfl rfl ?_
        refine St.unwanted rfl rfl rfl ?_
        refine St.unwanted rfl rfl rfl ?_
        refine St.unwanted rfl rfl rfl ?_
        refine St.unwanted rfl rfl rfl ?_
        refine St.val (v := (.bool false)) (Yields.pick_f rfl rfl) trivial rfl rfl ?_
        refine St.val (v := (.bool false)) (Yields.assign rfl) trivial rfl rfl ?_
        refine St.nil ?_
        obtain rfl := sI hm
        intro a w ha hs
        exact ⟨ha.covers ⟨rfl, trivial⟩, (Among.of Among.none _ hs)⟩
    · replace hm := iF hm q27
      refine St.val (v := (.bool false)) (Yields.isnt q27 (Yields.eq rfl rfl)) trivial rfl rfl ?_
      refine St.val (v := (.bool false)) (Yields.move rfl) trivial rfl rfl ?_
      refine St.unwanted rfl rfl rfl ?_
      refine St.unwanted rfl rfl rfl ?_
      refine St.unwanted rfl rfl rfl ?_
      refine St.unwanted rfl rfl rfl ?_
      refine St.val (v := (.bool false)) (Yields.pick_f rfl rfl) trivial rfl rfl ?_
      refine St.val (v := (.bool false)) (Yields.move rfl) trivial rfl rfl ?_
      refine St.unwanted rfl rfl rfl ?_
      refine St.unwanted rfl rfl rfl ?_
      refine St.unwanted rfl rfl rfl ?_
      refine St.unwanted rfl rfl rfl ?_
      refine St.unwanted rfl rfl rfl ?_
      refine St.unwanted rfl rfl rfl ?_
      refine St.val (v := (.bool false)) (Yields.pick_f rfl rfl) trivial rfl rfl ?_
      refine St.val (v := (.bool false)) (Yields.move rfl) trivial rfl rfl ?_
      refine St.unwanted rfl rfl rfl ?_
      refine St.unwanted rfl rfl rfl ?_
      refine St.unwanted rfl rfl rfl ?_
      refine St.unwanted rfl rfl rfl ?_
      refine St.unwanted rfl rfl rfl ?_
      refine St.unwanted rfl rfl rfl ?_
      refine St.val (v := (.bool false)) (Yields.pick_f rfl rfl) trivial rfl rfl ?_
      refine St.val (v := (.bool false)) (Yields.move rfl) trivial rfl rfl ?_
      refine St.unwanted rfl rfl rfl ?_
      refine St.unwanted rfl rfl rfl ?_
      refine St.unwanted rfl rfl rfl ?_
      refine St.unwanted rfl rfl rfl ?_
      refine St.unwanted rfl rfl rfl ?_
      refine St.val (v := (.bool false)) (Yields.pick_f rfl rfl) trivial rfl rfl ?_
      refine St.val (v := (.bool false)) (Yields.move rfl) trivial rfl rfl ?_
      refine St.unwanted rfl rfl rfl ?_
      refine St.unwanted rfl rfl rfl ?_
      refine St.unwanted rfl rfl rfl ?_
      refine St.unwanted rfl rfl rfl ?_
      refine St.unwanted rfl rfl rfl ?_
      refine St.unwanted rfl rfl rfl ?_
      refine St.unwanted rfl rfl rfl ?_
      refine St.val (v := (.bool false)) (Yields.pick_f rfl rfl) trivial rfl rfl ?_
      refine St.val (v := (.bool false)) (Yields.assign rfl) trivial rfl rfl ?_
      refine St.nil ?_
      obtain rfl := sI hm
      intro a w ha hs
      exact ⟨ha.covers ⟨rfl, trivial⟩, (Among.of Among.none _ hs)⟩
  · rintro a w ⟨ha, hs⟩
    replace hm := hk26
    refine St.use (?_ : St _ _ _ _ _ _) ha hs
    clear ha hs a w
    refine St.ret ?_
    obtain rfl := sI hm
    exact St.doneR1 rfl rfl ⟨rfl, rfl⟩ (fun w hs => Among.of Among.none w hs)

theorem m_law08_ValueReads_sp {F : PH} {g : Nat} {a0 : List UInt8} {r : Bool} (hm : m_law08_ValueReads g a0 = some r) :
    CallSp Try.prog 3 #[.string (bs a0)] F [] (fun u F' H' => u = (.bool r) ∧ H' = []) := by
  unfold m_law08_ValueReads at hm
  refine CallSp.enter (args := [.string (bs a0)]) Try.func3 rfl rfl ?_
  intro w0 m0 hm0
  refine St.seq ?_
  refine St.region ?_
  refine St.val (v := (.bool false)) (Yields.assign rfl) trivial rfl rfl ?_
  refine St.nil ?_
  refine St.norm ?_
  refine St.seq ?_
  refine St.region ?_
  refine St.val (v := (.string (bs a0))) (Yields.move rfl) trivial rfl rfl ?_
  obtain ⟨q1, e2, hm⟩ := bS hm
  refine St.call [] (m_value_Parse_sp e2) rfl (fun _ ha => ev1 ha rfl) rfl en6 rfl rfl trivial ?_
  rintro _ F3 _ ⟨A5, c6, rfl, h7, rfl⟩ l4
  refine St.val (v := (.tuple #[.agg #[.int .i64 q1.1.Op, .string (bs q1.1.Name), .int .i64 q1.1.N, .slice A5 q1.1.Kids.length c6], .int .i64 q1.2.1, .int .i64 q1.2.2])) (Yields.move rfl) trivial rfl rfl ?_
  refine St.val (v := (.agg #[.int .i64 q1.1.Op, .string (bs q1.1.Name), .int .i64 q1.1.N, .slice A5 q1.1.Kids.length c6])) (Yields.extract rfl rfl) trivial rfl rfl ?_
  refine St.val (v := (.int .i64 q1.2.1)) (Yields.extract rfl rfl) trivial rfl rfl ?_
  refine St.val (v := (.int .i64 q1.2.2)) (Yields.extract rfl rfl) trivial rfl rfl ?_
  refine St.alloc tz24 trivial rfl ?_
  intro b9
  refine St.storen (R := []) rfl rfl 0 rfl rfl ta24 rfl rfl rfl trivial (cs' := #[.int .i64 q1.1.Op, .string (bs q1.1.Name), .int .i64 q1.1.N, .slice A5 q1.1.Kids.length c6]) rfl ?_
  refine St.val (v := (.int .i64 q1.2.1)) (Yields.assign rfl) trivial rfl rfl ?_
  refine St.val (v := (.int .i64 q1.2.2)) (Yields.assign rfl) trivial rfl rfl ?_
  refine St.nil ?_
  refine St.norm ?_
  refine St.seq ?_
  refine St.region ?_
  refine St.val (v := (.string (bs a0))) (Yields.move rfl) trivial rfl rfl ?_
  obtain ⟨q10, e11, hm⟩ := bS hm
  refine St.call [blk b9 (.cells #[.int .i64 q1.1.Op, .string (bs q1.1.Name), .int .i64 q1.1.N, .slice A5 q1.1.Kids.length c6] 24 (0, 0))] (m_ref08_Parse_sp e11) rfl (fun _ ha => ev1 ha rfl) rfl en7 rfl rfl trivial ?_
  rintro _ F12 _ ⟨A14, c15, rfl, h16, rfl⟩ l13
  refine St.val (v := (.tuple #[.agg #[.int .i64 q10.1.Op, .string (bs q10.1.Name), .int .i64 q10.1.N, .slice A14 q10.1.Kids.length c15], .int .i64 q10.2.1, .int .i64 q10.2.2])) (Yields.move rfl) trivial rfl rfl ?_
  refine St.val (v := (.agg #[.int .i64 q10.1.Op, .string (bs q10.1.Name), .int .i64 q10.1.N, .slice A14 q10.1.Kids.length c15])) (Yields.extract rfl rfl) trivial rfl rfl ?_
  refine St.val (v := (.int .i64 q10.2.1)) (Yields.extract rfl rfl) trivial rfl rfl ?_
  refine St.val (v := (.int .i64 q10.2.2)) (Yields.extract rfl rfl) trivial rfl rfl ?_
  refine St.alloc tz24 trivial rfl ?_
  intro b18
  refine St.storen (R := [blk b9 (.cells #[.int .i64 q1.1.Op, .string (bs q1.1.Name), .int .i64 q1.1.N, .slice A5 q1.1.Kids.length c6] 24 (0, 0))]) rfl rfl 0 rfl rfl ta24 rfl rfl rfl trivial (cs' := #[.int .i64 q10.1.Op, .string (bs q10.1.Name), .int .i64 q10.1.N, .slice A14 q10.1.Kids.length c15]) rfl ?_
  refine St.val (v := (.int .i64 q10.2.1)) (Yields.assign rfl) trivial rfl rfl ?_
  refine St.val (v := (.int .i64 q10.2.2)) (Yields.assign rfl) trivial rfl rfl ?_
  refine St.nil ?_
  refine St.norm ?_
  obtain ⟨z19, hm, hk22⟩ := bS hm
  refine St.cutI (fun a w => ∃ (F20 : PH), PH.le F12 F20 ∧ Has Try.f3.ntmps a [(2, .bool z19)] ∧ Sat ⟨w0, fun b => m0 b ≠ none, F⟩ F20 [] w) ?_ ?_
  · skip
    refine St.region ?_
    refine St.val (v := (.agg #[.int .i64 q1.1.Op, .string (bs q1.1.Name), .int .i64 q1.1.N, .slice A5 q1.1.Kids.length c6])) (Yields.load rfl (Loads.Hk (vs := [.int .i64 q1.1.Op, .string (bs q1.1.Name), .int .i64 q1.1.N, .slice A5 q1.1.Kids.length c6]) 1 rfl ta24 rfl rfl)) trivial rfl rfl ?_
    refine St.val (v := (.agg #[.int .i64 q10.1.Op, .string (bs q10.1.Name), .int .i64 q10.1.N, .slice A14 q10.1.Kids.length c15])) (Yields.load rfl (Loads.Hk (vs := [.int .i64 q10.1.Op, .string (bs q10.1.Name), .int .i64 q10.1.N, .slice A14 q10.1.Kids.length c15]) 0 rfl ta24 rfl rfl)) trivial rfl rfl ?_
    obtain ⟨q23, e24, hm⟩ := bS hm
    refine St.call [blk b18 (.cells #[.int .i64 q10.1.Op, .string (bs q10.1.Name), .int .i64 q10.1.N, .slice A14 q10.1.Kids.length c15] 24 (0, 0)), blk b9 (.cells #[.int .i64 q1.1.Op, .string (bs q1.1.Name), .int .i64 q1.1.N, .slice A5 q1.1.Kids.length c6] 24 (0, 0))] (m_ref08_Exact_sp (a0 := q1.1) (a1 := q10.1) (Fsl.mono l13 h7) h16 e24) rfl (fun _ ha => ev2 ha rfl rfl) rfl en8 rfl rfl trivial ?_
    rintro _ F25 _ ⟨rfl, rfl⟩ l26
    by_cases q27 : q23 = true
    · replace hm := iT hm q27
      have hb28 : (q23) = true := q27
      try rw [hb28]
      refine St.val (v := (.bool true)) (Yields.move rfl) trivial rfl rfl ?_
      refine St.val (v := (.int .i64 q1.2.1)) (Yields.move rfl) rfl rfl rfl ?_
      refine St.val (v := (.int .i64 q10.2.1)) (Yields.move rfl) rfl rfl rfl ?_
      by_cases q29 : q1.2.1 = q10.2.1
      · replace hm := iT hm q29
        refine St.val (v := (.bool true)) (Yields.is q29 (Yields.eq rfl rfl)) rfl rfl rfl ?_
        refine St.val (v := (.bool true)) (Yields.pick_t rfl rfl) trivial rfl rfl ?_
        refine St.val (v := (.bool true)) (Yields.move rfl) trivial rfl rfl ?_
        refine St.val (v := (.int .i64 q1.2.2)) (Yields.move rfl) rfl rfl rfl ?_
        refine St.val (v := (.int .i64 q10.2.2)) (Yields.move rfl) rfl rfl rfl ?_
        by_cases q30 : q1.2.2 = q10.2.2
        · replace hm := iT hm q30
          refine St.val (v := (.bool true)) (Yields.is q30 (Yields.eq rfl rfl)) rfl rfl rfl ?_
          refine St.val (v := (.bool true)) (Yields.pick_t rfl rfl) trivial rfl rfl ?_
          refine St.val (v := (.bool true)) (Yields.move rfl) trivial rfl rfl ?_
          obtain ⟨q31, e32, hm⟩ := bS hm
          refine St.call [blk b18 (.cells #[.int .i64 q10.1.Op, .string (bs q10.1.Name), .int .i64 q10.1.N, .slice A14 q10.1.Kids.length c15] 24 (0, 0)), blk b9 (.cells #[.int .i64 q1.1.Op, .string (bs q1.1.Name), .int .i64 q1.1.N, .slice A5 q1.1.Kids.length c6] 24 (0, 0))] (m_law08_known_sp e32) rfl (fun _ _ => ev0) rfl en9 rfl rfl rfl ?_
          rintro _ F33 _ ⟨rfl, rfl⟩ l34
          refine St.val (v := (.bool q31)) (Yields.pick_t rfl rfl) trivial rfl rfl ?_
          refine St.val (v := (.bool q31)) (Yields.assign rfl) trivial rfl rfl ?_
          refine St.nil ?_
          obtain rfl := sI hm
          intro a w ha hs
          exact ⟨F33, (PH.le_trans l26 l34), ha.covers ⟨rfl, trivial⟩, (Among.of Among.none _ hs)⟩
        · replace hm := iF hm q30
          refine St.val (v := (.bool false)) (Yields.isnt q30 (Yields.eq rfl rfl)) rfl rfl rfl ?_
          refine St.val (v := (.bool false)) (Yields.pick_t rfl rfl) trivial rfl rfl ?_
          refine St.val (v := (.bool false)) (Yields.move rfl) trivial rfl rfl ?_
          refine St.unwanted rfl rfl rfl ?_
          refine St.val (v := (.bool false)) (Yields.pick_f rfl rfl) trivial rfl rfl ?_
          refine St.val (v := (.bool false)) (Yields.assign rfl) trivial rfl rfl ?_
          refine St.nil ?_
          obtain rfl := sI hm
          intro a w ha hs
          exact ⟨F25, l26, ha.covers ⟨rfl, trivial⟩, (Among.of Among.none _ hs)⟩
      · replace hm := iF hm q29
        refine St.val (v := (.bool false)) (Yields.isnt q29 (Yields.eq rfl rfl)) rfl rfl rfl ?_
        refine St.val (v := (.bool false)) (Yields.pick_t rfl rfl) trivial rfl rfl ?_
        refine St.val (v := (.bool false)) (Yields.move rfl) trivial rfl rfl ?_
        refine St.unwanted rfl rfl rfl ?_
        refine St.unwanted rfl rfl rfl ?_
        refine St.unwanted rfl rfl rfl ?_
        refine St.val (v := (.bool false)) (Yields.pick_f rfl rfl) trivial rfl rfl ?_
        refine St.val (v := (.bool false)) (Yields.move rfl) trivial rfl rfl ?_
        refine St.unwanted rfl rfl rfl ?_
        refine St.val (v := (.bool false)) (Yields.pick_f rfl rfl) trivial rfl rfl ?_
        refine St.val (v := (.bool false)) (Yields.assign rfl) trivial rfl rfl ?_
        refine St.nil ?_
        obtain rfl := sI hm
        intro a w ha hs
        exact ⟨F25, l26, ha.covers ⟨rfl, trivial⟩, (Among.of Among.none _ hs)⟩
    · replace hm := iF hm q27
      have hb35 : (q23) = false := eq_false_of_ne_true q27
      try rw [hb35]
      refine St.val (v := (.bool false)) (Yields.move rfl) trivial rfl rfl ?_
      refine St.unwanted rfl rfl rfl ?_
      refine St.unwanted rfl rfl rfl ?_
      refine St.unwanted rfl rfl rfl ?_
      refine St.val (v := (.bool false)) (Yields.pick_f rfl rfl) trivial rfl rfl ?_
      refine St.val (v := (.bool false)) (Yields.move rfl) trivial rfl rfl ?_
      refine St.unwanted rfl rfl rfl ?_
      refine St.unwanted rfl rfl rfl ?_
      refine St.unwanted rfl rfl rfl ?_
      refine St.val (v := (.bool false)) (Yields.pick_f rfl rfl) trivial rfl rfl ?_
      refine St.val (v := (.bool false)) (Yields.move rfl) trivial rfl rfl ?_
      refine St.unwanted rfl rfl rfl ?_
      refine St.val (v := (.bool false)) (Yields.pick_f rfl rfl) trivial rfl rfl ?_
      refine St.val (v := (.bool false)) (Yields.assign rfl) trivial rfl rfl ?_
      refine St.nil ?_
      obtain rfl := sI hm
      intro a w ha hs
      exact ⟨F25, l26, ha.covers ⟨rfl, trivial⟩, (Among.of Among.none _ hs)⟩
  · rintro a w ⟨F20, l21, ha, hs⟩
    replace hm := hk22
    refine St.use (?_ : St _ _ _ _ _ _) ha hs
    clear ha hs a w
    refine St.ret ?_
    obtain rfl := sI hm
    exact St.doneR1 rfl rfl ⟨rfl, rfl⟩ (fun w hs => Among.of Among.none w hs)

end Go.Proofs.Ytchecaeeiejjjaa
