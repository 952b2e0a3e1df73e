/- Each function does what its plain words tell. -/
import Derived.Test.YtjjmdiddgcllkaaKi
namespace Go.Proofs.Ytjjmdiddgcllkaa
open Go Go.Sy Go.RowKit
set_option linter.unusedVariables false
open Go.Mir
abbrev m_search_Validate_f1_S (g : Nat) : Prop := ∀ {F : PH} {a0 : DSTree} {a1 : Int} {a2 : Int} {pbl0 : Nat} {pbl1 : Nat} {pA0_0 : Option Addr} {pc0_0 : Nat} (ph0_0 : Fsl 32 KDSTree F pA0_0 pc0_0 a0.Kids) {r : Bool × Int} (_ : m_search_Validate_f1 g a0 a1 a2 = some r),
    CallSp Try.prog 23 #[.agg #[.int .i64 a0.N, .slice pA0_0 a0.Kids.length pc0_0], .int .i64 a1, .pointer (some ⟨pbl0, 0, none⟩), .pointer (some ⟨pbl1, 0, none⟩)] F [blk pbl0 (.cells #[.int .i64 a2] 3 (0, 0)), blk pbl1 (.cells #[.func (.func 23) #[] #[.pointer (some ⟨pbl0, 0, none⟩), .pointer (some ⟨pbl1, 0, none⟩)]] 45 (0, 0))] (fun u F' H' => u = (.bool r.1) ∧ H' = [blk pbl0 (.cells #[.int .i64 r.2] 3 (0, 0)), blk pbl1 (.cells #[.func (.func 23) #[] #[.pointer (some ⟨pbl0, 0, none⟩), .pointer (some ⟨pbl1, 0, none⟩)]] 45 (0, 0))])
theorem m_search_Validate_f1_st {g : Nat} (ih_m_search_Validate_f1 : m_search_Validate_f1_S g) : m_search_Validate_f1_S (g + 1) := by
  intro F a0 a1 a2 pbl0 pbl1 pA0_0 pc0_0 ph0_0 r hm
  rw [m_search_Validate_f1] at hm
  refine CallSp.enter (args := [.agg #[.int .i64 a0.N, .slice pA0_0 a0.Kids.length pc0_0], .int .i64 a1, .pointer (some ⟨pbl0, 0, none⟩), .pointer (some ⟨pbl1, 0, none⟩)]) Try.func23 rfl rfl ?_
  intro w0 m0 hm0
  refine St.seq ?_
  refine St.region ?_
  refine St.box rfl trivial rfl ?_
  intro b2
  refine St.val (v := (.bool false)) (Yields.assign rfl) trivial rfl rfl ?_
  refine St.nil ?_
  refine St.norm ?_
  refine St.seq ?_
  refine St.region ?_
  refine St.val (v := (.int .i64 a2)) (Yields.load rfl (Loads.H1 1 rfl tc3 rfl)) trivial rfl rfl ?_
  refine St.val (v := (.int .i64 (Mir.w64 (a2 + 1)))) (Yields.addw rfl rfl) trivial rfl rfl ?_
  refine St.store (R := [blk b2 (.cells #[.int .i64 a0.N, .slice pA0_0 a0.Kids.length pc0_0] 24 (0, 0)), blk pbl1 (.cells #[.func (.func 23) #[] #[.pointer (some ⟨pbl0, 0, none⟩), .pointer (some ⟨pbl1, 0, none⟩)]] 45 (0, 0))]) rfl rfl 1 rfl rfl tc3 rfl rfl trivial (cs' := #[.int .i64 (Mir.w64 (a2 + 1))]) rfl ?_
  refine St.nil ?_
  refine St.norm ?_
  refine St.seq ?_
  obtain ⟨z3, hm, hk4⟩ := bS hm
  refine St.cutI (fun a w => Has Try.f23.ntmps a [(1, .int .i64 a1), (3, .pointer (some ⟨pbl1, 0, none⟩)), (4, .pointer (some ⟨b2, 0, none⟩)), (22, .bool z3)] ∧ Sat ⟨w0, fun b => m0 b ≠ none, F⟩ F [blk pbl0 (.cells #[.int .i64 (Mir.w64 (a2 + 1))] 3 (0, 0)), blk pbl1 (.cells #[.func (.func 23) #[] #[.pointer (some ⟨pbl0, 0, none⟩), .pointer (some ⟨pbl1, 0, none⟩)]] 45 (0, 0)), blk b2 (.cells #[.int .i64 a0.N, .slice pA0_0 a0.Kids.length pc0_0] 24 (0, 0))] w) ?_ ?_
  · skip
    refine St.region ?_
    refine St.val (v := (.int .i64 (Mir.w64 (a2 + 1)))) (Yields.load rfl (Loads.H1 0 rfl tc3 rfl)) trivial rfl rfl ?_
    by_cases q5 : Mir.w64 (a2 + 1) > 400
    · replace hm := iT hm q5
      refine St.val (v := (.bool true)) (Yields.is q5 (Yields.gt rfl rfl)) trivial rfl rfl ?_
      refine St.val (v := (.bool true)) (Yields.move rfl) trivial rfl rfl ?_
      refine St.unwanted rfl rfl rfl ?_
      refine St.unwanted rfl rfl rfl ?_
      refine St.val (v := (.bool true)) (Yields.pick_t rfl rfl) trivial rfl rfl ?_
      refine St.val (v := (.bool true)) (Yields.move rfl) trivial rfl rfl ?_
      refine St.unwanted rfl rfl rfl ?_
      refine St.unwanted rfl rfl rfl ?_
      refine St.unwanted rfl rfl rfl ?_
      refine St.unwanted rfl rfl rfl ?_
      refine St.val (v := (.bool true)) (Yields.pick_t rfl rfl) trivial rfl rfl ?_
      refine St.nil ?_
      obtain rfl := sI hm
      intro a w ha hs
      exact ⟨ha.covers ⟨rfl, rfl, rfl, rfl, trivial⟩, (Among.of (Among.take 0 rfl rfl (Among.take 1 rfl rfl (Among.take 0 rfl rfl Among.none))) _ hs)⟩
    · replace hm := iF hm q5
      refine St.val (v := (.bool false)) (Yields.isnt q5 (Yields.gt rfl rfl)) trivial rfl rfl ?_
      refine St.val (v := (.bool false)) (Yields.move rfl) trivial rfl rfl ?_
      refine St.val (v := (.int .i64 a1)) (Yields.move rfl) rfl rfl rfl ?_
      by_cases q6 : a1 < 1
      · replace hm := iT hm q6
        refine St.val (v := (.bool true)) (Yields.is q6 (Yields.lt rfl rfl)) rfl rfl rfl ?_
        refine St.val (v := (.bool true)) (Yields.pick_f rfl rfl) trivial rfl rfl ?_
        refine St.val (v := (.bool true)) (Yields.move rfl) trivial rfl rfl ?_
        refine St.unwanted rfl rfl rfl ?_
        refine St.unwanted rfl rfl rfl ?_
        refine St.unwanted rfl rfl rfl ?_
        refine St.unwanted rfl rfl rfl ?_
        refine St.val (v := (.bool true)) (Yields.pick_t rfl rfl) trivial rfl rfl ?_
        refine St.nil ?_
        obtain rfl := sI hm
        intro a w ha hs
        exact ⟨ha.covers ⟨rfl, rfl, rfl, rfl, trivial⟩, (Among.of (Among.take 0 rfl rfl (Among.take 1 rfl rfl (Among.take 0 rfl rfl Among.none))) _ hs)⟩
      · replace hm := iF hm q6
        refine St.val (v := (.bool false)) (Yields.isnt q6 (Yields.lt rfl rfl)) rfl rfl rfl ?_
        refine St.val (v := (.bool false)) (Yields.pick_f rfl rfl) trivial rfl rfl ?_
        refine St.val (v := (.bool false)) (Yields.move rfl) trivial rfl rfl ?_
        refine St.val (v := (.pointer (some ⟨b2, 1, none⟩))) (Yields.fieldAddr (v := (.pointer (some ⟨b2, 1, none⟩))) rfl (fun _ => by kernel_rfl)) rfl rfl rfl ?_
        refine St.val (v := (.slice pA0_0 a0.Kids.length pc0_0)) (Yields.load rfl (Loads.H1 1 rfl tc22 rfl)) rfl rfl rfl ?_
        refine St.val (v := (.int .i64 ((a0.Kids.length : Nat) : Int))) (Yields.lenSlice tu22 rfl) rfl rfl rfl ?_
        refine St.val (v := (.bool (decide (((a0.Kids.length : Nat) : Int) > 64)))) (Yields.gt rfl rfl) rfl rfl rfl ?_
        refine St.val (v := (.bool (decide (((a0.Kids.length : Nat) : Int) > 64)))) (Yields.pick_f rfl rfl) trivial rfl rfl ?_
        refine St.nil ?_
        obtain rfl := sI hm
        intro a w ha hs
        exact ⟨ha.covers ⟨rfl, rfl, rfl, rfl, trivial⟩, (Among.of (Among.take 0 rfl rfl (Among.take 1 rfl rfl (Among.take 0 rfl rfl Among.none))) _ hs)⟩
  · rintro a w ⟨ha, hs⟩
    replace hm := hk4
    refine St.use (?_ : St _ _ _ _ _ _) ha hs
    clear ha hs a w
    refine St.cond_b rfl ?_ ?_
    · intro q7
      replace q7 : z3 = true := q7
      replace hm := iT hm q7
      refine St.seq ?_
      refine St.region ?_
      refine St.val (v := (.bool true)) (Yields.assign rfl) trivial rfl rfl ?_
      refine St.nil ?_
      refine St.norm ?_
      refine St.ret ?_
      refine St.thenret ?_
      obtain rfl := sI hm
      exact St.doneR1 rfl rfl ⟨rfl, rfl⟩ (fun w hs => Among.of (Among.take 0 rfl rfl (Among.take 0 rfl rfl Among.none)) w hs)
    · intro q8
      replace q8 : ¬ (z3 = true) := bf q8
      replace hm := iF hm q8
      refine St.skip ?_
      refine St.norm ?_
      obtain ⟨o12, hm, ho13⟩ := jS hm
      refine St.cutI (fun a w => ∃ z9 : Int, o12 = .inl z9 ∧ ∃ (F10 : PH), PH.le F F10 ∧ Has Try.f23.ntmps a [] ∧ Sat ⟨w0, fun b => m0 b ≠ none, F⟩ F10 [blk pbl0 (.cells #[.int .i64 z9] 3 (0, 0)), blk pbl1 (.cells #[.func (.func 23) #[] #[.pointer (some ⟨pbl0, 0, none⟩), .pointer (some ⟨pbl1, 0, none⟩)]] 45 (0, 0))] w) ?_ ?_
      · skip
        refine St.seq ?_
        refine St.region ?_
        refine St.val (v := (.pointer (some ⟨b2, 1, none⟩))) (Yields.fieldAddr (v := (.pointer (some ⟨b2, 1, none⟩))) rfl (fun _ => by kernel_rfl)) trivial rfl rfl ?_
        refine St.val (v := (.slice pA0_0 a0.Kids.length pc0_0)) (Yields.load rfl (Loads.H1 2 rfl tc22 rfl)) trivial rfl rfl ?_
        refine St.val (v := (.int .i64 ((a0.Kids.length : Nat) : Int))) (Yields.lenSlice tu22 rfl) trivial rfl rfl ?_
        refine St.val (v := (.int .i64 0)) (Yields.move rfl) trivial rfl rfl ?_
        refine St.nil ?_
        refine St.norm ?_
        refine St.block ?_
        refine St.loopM hm (fun s17 a w => ∃ (F21 : PH), PH.le F F21 ∧ Has Try.f23.ntmps a [(1, .int .i64 a1), (3, .pointer (some ⟨pbl1, 0, none⟩)), (24, .slice pA0_0 a0.Kids.length pc0_0), (25, .int .i64 ((a0.Kids.length : Nat) : Int)), (26, .int .i64 ((s17.2 : Nat) : Int))] ∧ Sat ⟨w0, fun b => m0 b ≠ none, F⟩ F21 [blk pbl0 (.cells #[.int .i64 s17.1] 3 (0, 0)), blk pbl1 (.cells #[.func (.func 23) #[] #[.pointer (some ⟨pbl0, 0, none⟩), .pointer (some ⟨pbl1, 0, none⟩)]] 45 (0, 0))] w) ?_ ?_
        · skip
          intro a w ha hs
          exact ⟨F, (PH.le_refl _), ha.covers ⟨rfl, rfl, rfl, rfl, rfl, trivial⟩, (Among.of (Among.take 0 rfl rfl (Among.take 0 rfl rfl Among.none)) _ hs)⟩
        · rintro s17 o18 co19 hm ho20 a w ⟨F21, l22, ha, hs⟩
          refine St.use (?_ : St _ _ _ _ _ _) ha hs
          clear ha hs a w
          refine St.seq ?_
          refine St.region ?_
          refine St.val (v := (.bool (decide (((s17.2 : Nat) : Int) < ((a0.Kids.length : Nat) : Int))))) (Yields.lt rfl rfl) trivial rfl rfl ?_
          refine St.nil ?_
          refine St.norm ?_
          refine St.seq ?_
          refine St.cond_b rfl ?_ ?_
          · intro q23
            replace q23 : ((s17.2 : Nat) : Int) < ((a0.Kids.length : Nat) : Int) := of_decide_eq_true q23
            replace hm := iT hm q23
            refine St.skip ?_
            refine St.norm ?_
            refine St.seq ?_
            refine St.block ?_
            refine St.seq ?_
            refine St.region ?_
            obtain ⟨x24, e25, hm⟩ := bS hm
            obtain ⟨p26, cs27, jx28, R29, k30⟩ := (Fsl.mono l22 ph0_0).nidx e25
            obtain ⟨A31, c32, rfl, h33⟩ := DSTree.opn R29
            refine St.val (v := (.pointer (some p26))) (Yields.idx jx28 ts22 rfl rfl) trivial rfl rfl ?_
            refine St.val (v := (.agg #[.int .i64 x24.N, .slice A31 x24.Kids.length c32])) (Yields.load rfl (Loads.Fatn0 k30 ta24)) trivial rfl rfl ?_
            refine St.alloc tz24 trivial rfl ?_
            intro b35
            refine St.storen (R := [blk pbl0 (.cells #[.int .i64 s17.1] 3 (0, 0)), blk pbl1 (.cells #[.func (.func 23) #[] #[.pointer (some ⟨pbl0, 0, none⟩), .pointer (some ⟨pbl1, 0, none⟩)]] 45 (0, 0))]) rfl rfl 0 rfl rfl ta24 rfl rfl rfl trivial (cs' := #[.int .i64 x24.N, .slice A31 x24.Kids.length c32]) rfl ?_
            refine St.nil ?_
            refine St.norm ?_
            refine St.seq ?_
            refine St.region ?_
            refine St.val (v := (.func (.func 23) #[] #[.pointer (some ⟨pbl0, 0, none⟩), .pointer (some ⟨pbl1, 0, none⟩)])) (Yields.load rfl (Loads.H1 2 rfl tc45 rfl)) trivial rfl rfl ?_
            refine St.val (v := (.agg #[.int .i64 x24.N, .slice A31 x24.Kids.length c32])) (Yields.load rfl (Loads.Hk (vs := [.int .i64 x24.N, .slice A31 x24.Kids.length c32]) 0 rfl ta24 rfl rfl)) trivial rfl rfl ?_
            refine St.val (v := (.int .i64 a1)) (Yields.move rfl) trivial rfl rfl ?_
            refine St.val (v := (.int .i64 (Mir.w64 (a1 - 1)))) (Yields.subw rfl rfl) trivial rfl rfl ?_
            refine St.pick (R := [blk b35 (.cells #[.int .i64 x24.N, .slice A31 x24.Kids.length c32] 24 (0, 0)), blk pbl0 (.cells #[.int .i64 s17.1] 3 (0, 0))]) 2 rfl rfl ?_
            refine St.pick (R := [blk pbl1 (.cells #[.func (.func 23) #[] #[.pointer (some ⟨pbl0, 0, none⟩), .pointer (some ⟨pbl1, 0, none⟩)]] 45 (0, 0)), blk b35 (.cells #[.int .i64 x24.N, .slice A31 x24.Kids.length c32] 24 (0, 0))]) 2 rfl rfl ?_
            obtain ⟨q36, e37, hm⟩ := bS hm
            refine St.call [blk b35 (.cells #[.int .i64 x24.N, .slice A31 x24.Kids.length c32] 24 (0, 0))] (ih_m_search_Validate_f1 (a0 := x24) h33 e37) rfl (fun _ ha => ev2 ha rfl rfl) rfl en23 rfl rfl trivial ?_
            rintro _ F38 _ ⟨rfl, rfl⟩ l39
            refine St.nil ?_
            refine St.norm ?_
            refine St.cond_b rfl ?_ ?_
            · intro q40
              replace q40 : q36.1 = true := q40
              replace hm := iT hm q40
              refine St.seq ?_
              refine St.region ?_
              refine St.val (v := (.bool true)) (Yields.assign rfl) trivial rfl rfl ?_
              refine St.nil ?_
              refine St.norm ?_
              refine St.ret ?_
              refine St.inret ?_
              refine St.thenret ?_
              refine St.thenret ?_
              refine St.inret ?_
              refine St.thenret ?_
              obtain rfl := sI hm
              obtain rfl := aR ho20
              obtain rfl := aR ho13
              exact St.doneR1 rfl rfl ⟨rfl, rfl⟩ (fun w hs => Among.of (Among.take 0 rfl rfl (Among.take 0 rfl rfl Among.none)) w hs)
            · intro q41
              replace q41 : ¬ (q36.1 = true) := bf q41
              replace hm := iF hm q41
              refine St.skip ?_
              refine St.innorm ?_
              refine St.norm ?_
              refine St.region ?_
              refine St.val (v := (.int .i64 ((s17.2 + 1 : Nat) : Int))) (Yields.addn (j := 1) rfl rfl rfl (by have q_0 := q23; have q_1 := ph0_0.bnd.2; omega)) trivial rfl rfl ?_
              refine St.val (v := (.int .i64 ((s17.2 + 1 : Nat) : Int))) (Yields.move rfl) trivial rfl rfl ?_
              refine St.nil ?_
              refine St.norm ?_
              obtain rfl := sI hm
              intro a w ha hs
              exact ⟨(q36.2, s17.2 + 1), aL ho20, F38, (PH.le_trans l22 l39), ha.covers ⟨rfl, rfl, rfl, rfl, rfl, trivial⟩, (Among.of (Among.take 0 rfl rfl (Among.take 0 rfl rfl Among.none)) _ hs)⟩
          · intro q42
            replace q42 : ¬ (((s17.2 : Nat) : Int) < ((a0.Kids.length : Nat) : Int)) := of_decide_eq_false q42
            replace hm := iF hm q42
            refine St.exit ?_
            refine St.thenexit ?_
            refine St.thenexit ?_
            refine St.inexit ?_
            obtain rfl := sI hm
            obtain rfl := aR ho20
            intro a w ha hs
            exact ⟨s17.1, rfl, F21, l22, ha.covers trivial, (Among.of (Among.take 0 rfl rfl (Among.take 0 rfl rfl Among.none)) _ hs)⟩
      · rintro a w ⟨z9, rfl, F10, l11, ha, hs⟩
        replace hm := aL ho13
        refine St.use (?_ : St _ _ _ _ _ _) ha hs
        clear ha hs a w
        refine St.seq ?_
        refine St.region ?_
        refine St.val (v := (.bool false)) (Yields.assign rfl) trivial rfl rfl ?_
        refine St.nil ?_
        refine St.norm ?_
        refine St.ret ?_
        obtain rfl := sI hm
        exact St.doneR1 rfl rfl ⟨rfl, rfl⟩ (fun w hs => Among.of (Among.take 0 rfl rfl (Among.take 0 rfl rfl Among.none)) w hs)
theorem m_search_Validate_f1_all : ∀ g, m_search_Validate_f1_S g
  | 0 => (by (try unfold m_search_Validate_f1_S); intros; rename_i hm; exact nomatch (show (none : Option _) = some _ from hm))
  | g + 1 => m_search_Validate_f1_st (m_search_Validate_f1_all g)
theorem m_search_Validate_f1_sp {F : PH} {g : Nat} {a0 : DSTree} {a1 : Int} {a2 : Int} {pbl0 : Nat} {pbl1 : Nat} {pA0_0 : Option Addr} {pc0_0 : Nat} (ph0_0 : Fsl 32 KDSTree F pA0_0 pc0_0 a0.Kids) {r : Bool × Int} (hm : m_search_Validate_f1 g a0 a1 a2 = some r) :
    CallSp Try.prog 23 #[.agg #[.int .i64 a0.N, .slice pA0_0 a0.Kids.length pc0_0], .int .i64 a1, .pointer (some ⟨pbl0, 0, none⟩), .pointer (some ⟨pbl1, 0, none⟩)] F [blk pbl0 (.cells #[.int .i64 a2] 3 (0, 0)), blk pbl1 (.cells #[.func (.func 23) #[] #[.pointer (some ⟨pbl0, 0, none⟩), .pointer (some ⟨pbl1, 0, none⟩)]] 45 (0, 0))] (fun u F' H' => u = (.bool r.1) ∧ H' = [blk pbl0 (.cells #[.int .i64 r.2] 3 (0, 0)), blk pbl1 (.cells #[.func (.func 23) #[] #[.pointer (some ⟨pbl0, 0, none⟩), .pointer (some ⟨pbl1, 0, none⟩)]] 45 (0, 0))]) := (m_search_Validate_f1_all g) ph0_0 hm

abbrev m_search_isTree_S (g : Nat) : Prop := ∀ {F : PH} {a0 : DSTree} {pA0_0 : Option Addr} {pc0_0 : Nat} (ph0_0 : Fsl 32 KDSTree F pA0_0 pc0_0 a0.Kids) {r : Bool} (_ : m_search_isTree g a0 = some r),
    CallSp Try.prog 24 #[.agg #[.int .i64 a0.N, .slice pA0_0 a0.Kids.length pc0_0]] F [] (fun u F' H' => u = (.bool r) ∧ H' = [])
theorem m_search_isTree_st {g : Nat} (ih_m_search_isTree : m_search_isTree_S g) : m_search_isTree_S (g + 1) := by
  intro F a0 pA0_0 pc0_0 ph0_0 r hm
  rw [m_search_isTree] at hm
  refine CallSp.enter (args := [.agg #[.int .i64 a0.N, .slice pA0_0 a0.Kids.length pc0_0]]) Try.func24 rfl rfl ?_
  intro w0 m0 hm0
  refine St.seq ?_
  refine St.region ?_
  refine St.box rfl trivial rfl ?_
  intro b2
  refine St.val (v := (.bool false)) (Yields.assign rfl) trivial rfl rfl ?_
  refine St.nil ?_
  refine St.norm ?_
  refine St.seq ?_
  obtain ⟨z3, hm, hk4⟩ := bS hm
  refine St.cutI (fun a w => Has Try.f24.ntmps a [(1, .pointer (some ⟨b2, 0, none⟩)), (18, .bool z3)] ∧ Sat ⟨w0, fun b => m0 b ≠ none, F⟩ F [blk b2 (.cells #[.int .i64 a0.N, .slice pA0_0 a0.Kids.length pc0_0] 24 (0, 0))] w) ?_ ?_
  · skip
    refine St.region ?_
    refine St.val (v := (.pointer (some ⟨b2, 0, none⟩))) (Yields.fieldAddr (v := (.pointer (some ⟨b2, 0, none⟩))) rfl (fun _ => by kernel_rfl)) trivial rfl rfl ?_
    refine St.val (v := (.int .i64 a0.N)) (Yields.load rfl (Loads.H1 0 rfl tc3 rfl)) trivial rfl rfl ?_
    by_cases q5 : a0.N < (-1)
    · replace hm := iT hm q5
      refine St.val (v := (.bool true)) (Yields.is q5 (Yields.lt rfl rfl)) trivial rfl rfl ?_
      refine St.val (v := (.bool true)) (Yields.move rfl) trivial rfl rfl ?_
      refine St.unwanted rfl rfl rfl ?_
      refine St.unwanted rfl rfl rfl ?_
      refine St.unwanted rfl rfl rfl ?_
      refine St.unwanted rfl rfl rfl ?_
      refine St.unwanted rfl rfl rfl ?_
      refine St.unwanted trivial rfl rfl ?_
      refine St.unwanted trivial rfl rfl ?_
      refine St.unwanted trivial rfl rfl ?_
      refine St.unwanted rfl rfl rfl ?_
      refine St.val (v := (.bool true)) (Yields.pick_t rfl rfl) trivial rfl rfl ?_
      refine St.nil ?_
      obtain rfl := sI hm
      intro a w ha hs
      exact ⟨ha.covers ⟨rfl, rfl, trivial⟩, (Among.of (Among.take 0 rfl rfl Among.none) _ hs)⟩
    · replace hm := iF hm q5
      refine St.val (v := (.bool false)) (Yields.isnt q5 (Yields.lt rfl rfl)) trivial rfl rfl ?_
      refine St.val (v := (.bool false)) (Yields.move rfl) trivial rfl rfl ?_
      refine St.val (v := (.pointer (some ⟨b2, 1, none⟩))) (Yields.fieldAddr (v := (.pointer (some ⟨b2, 1, none⟩))) rfl (fun _ => by kernel_rfl)) rfl rfl rfl ?_
      refine St.val (v := (.slice pA0_0 a0.Kids.length pc0_0)) (Yields.load rfl (Loads.H1 0 rfl tc22 rfl)) rfl rfl rfl ?_
      refine St.val (v := (.int .i64 ((a0.Kids.length : Nat) : Int))) (Yields.lenSlice tu22 rfl) rfl rfl rfl ?_
      by_cases q6 : ((a0.Kids.length : Nat) : Int) > 0
      · replace hm := iT hm q6
        refine St.val (v := (.bool true)) (Yields.is q6 (Yields.gt rfl rfl)) rfl rfl rfl ?_
        refine St.val (v := (.bool true)) (Yields.move rfl) rfl rfl rfl ?_
        refine St.val (v := (.pointer (some ⟨b2, 0, none⟩))) (Yields.fieldAddr (v := (.pointer (some ⟨b2, 0, none⟩))) rfl (fun _ => by kernel_rfl)) rfl rfl rfl ?_
        refine St.val (v := (.int .i64 a0.N)) (Yields.load rfl (Loads.H1 0 rfl tc3 rfl)) rfl rfl rfl ?_
        refine St.val (v := (.bool (!decide (a0.N = 0)))) (Yields.ne rfl rfl) rfl rfl rfl ?_
        refine St.val (v := (.bool (!decide (a0.N = 0)))) (Yields.pick_t rfl rfl) rfl rfl rfl ?_
        refine St.val (v := (.bool (!decide (a0.N = 0)))) (Yields.pick_f rfl rfl) trivial rfl rfl ?_
        refine St.nil ?_
        obtain rfl := sI hm
        intro a w ha hs
        exact ⟨ha.covers ⟨rfl, rfl, trivial⟩, (Among.of (Among.take 0 rfl rfl Among.none) _ hs)⟩
      · replace hm := iF hm q6
        refine St.val (v := (.bool false)) (Yields.isnt q6 (Yields.gt rfl rfl)) rfl rfl rfl ?_
        refine St.val (v := (.bool false)) (Yields.move rfl) rfl rfl rfl ?_
        refine St.unwanted rfl rfl rfl ?_
        refine St.unwanted rfl rfl rfl ?_
        refine St.unwanted rfl rfl rfl ?_
        refine St.val (v := (.bool false)) (Yields.pick_f rfl rfl) rfl rfl rfl ?_
        refine St.val (v := (.bool false)) (Yields.pick_f rfl rfl) trivial rfl rfl ?_
        refine St.nil ?_
        obtain rfl := sI hm
        intro a w ha hs
        exact ⟨ha.covers ⟨rfl, rfl, trivial⟩, (Among.of (Among.take 0 rfl rfl Among.none) _ hs)⟩
  · rintro a w ⟨ha, hs⟩
    replace hm := hk4
    refine St.use (?_ : St _ _ _ _ _ _) ha hs
    clear ha hs a w
    refine St.cond_b rfl ?_ ?_
    · intro q7
      replace q7 : z3 = true := q7
      replace hm := iT hm q7
      refine St.seq ?_
      refine St.region ?_
      refine St.val (v := (.bool false)) (Yields.assign rfl) trivial rfl rfl ?_
      refine St.nil ?_
      refine St.norm ?_
      refine St.ret ?_
      refine St.thenret ?_
      obtain rfl := sI hm
      exact St.doneR1 rfl rfl ⟨rfl, rfl⟩ (fun w hs => Among.of Among.none w hs)
    · intro q8
      replace q8 : ¬ (z3 = true) := bf q8
      replace hm := iF hm q8
      refine St.skip ?_
      refine St.norm ?_
      obtain ⟨o12, hm, ho13⟩ := jS hm
      refine St.cutI (fun a w => ∃ z9 : Unit, o12 = .inl z9 ∧ ∃ (F10 : PH), PH.le F F10 ∧ Has Try.f24.ntmps a [] ∧ Sat ⟨w0, fun b => m0 b ≠ none, F⟩ F10 [] w) ?_ ?_
      · skip
        refine St.seq ?_
        refine St.region ?_
        refine St.val (v := (.pointer (some ⟨b2, 1, none⟩))) (Yields.fieldAddr (v := (.pointer (some ⟨b2, 1, none⟩))) rfl (fun _ => by kernel_rfl)) trivial rfl rfl ?_
        refine St.val (v := (.slice pA0_0 a0.Kids.length pc0_0)) (Yields.load rfl (Loads.H1 0 rfl tc22 rfl)) trivial rfl rfl ?_
        refine St.val (v := (.int .i64 ((a0.Kids.length : Nat) : Int))) (Yields.lenSlice tu22 rfl) trivial rfl rfl ?_
        refine St.val (v := (.int .i64 0)) (Yields.move rfl) trivial rfl rfl ?_
        refine St.nil ?_
        refine St.norm ?_
        refine St.block ?_
        refine St.loopM hm (fun s16 a w => ∃ (F20 : PH), PH.le F F20 ∧ Has Try.f24.ntmps a [(20, .slice pA0_0 a0.Kids.length pc0_0), (21, .int .i64 ((a0.Kids.length : Nat) : Int)), (22, .int .i64 ((s16 : Nat) : Int))] ∧ Sat ⟨w0, fun b => m0 b ≠ none, F⟩ F20 [] w) ?_ ?_
        · skip
          intro a w ha hs
          exact ⟨F, (PH.le_refl _), ha.covers ⟨rfl, rfl, rfl, trivial⟩, (Among.of Among.none _ hs)⟩
        · rintro s16 o17 co18 hm ho19 a w ⟨F20, l21, ha, hs⟩
          refine St.use (?_ : St _ _ _ _ _ _) ha hs
          clear ha hs a w
          refine St.seq ?_
          refine St.region ?_
          refine St.val (v := (.bool (decide (((s16 : Nat) : Int) < ((a0.Kids.length : Nat) : Int))))) (Yields.lt rfl rfl) trivial rfl rfl ?_
          refine St.nil ?_
          refine St.norm ?_
          refine St.seq ?_
          refine St.cond_b rfl ?_ ?_
          · intro q22
            replace q22 : ((s16 : Nat) : Int) < ((a0.Kids.length : Nat) : Int) := of_decide_eq_true q22
            replace hm := iT hm q22
            refine St.skip ?_
            refine St.norm ?_
            refine St.seq ?_
            refine St.block ?_
            refine St.seq ?_
            refine St.region ?_
            obtain ⟨x23, e24, hm⟩ := bS hm
            obtain ⟨p25, cs26, jx27, R28, k29⟩ := (Fsl.mono l21 ph0_0).nidx e24
            obtain ⟨A30, c31, rfl, h32⟩ := DSTree.opn R28
            refine St.val (v := (.pointer (some p25))) (Yields.idx jx27 ts22 rfl rfl) trivial rfl rfl ?_
            refine St.val (v := (.agg #[.int .i64 x23.N, .slice A30 x23.Kids.length c31])) (Yields.load rfl (Loads.Fatn0 k29 ta24)) trivial rfl rfl ?_
            refine St.alloc tz24 trivial rfl ?_
            intro b34
            refine St.storen (R := []) rfl rfl 0 rfl rfl ta24 rfl rfl rfl trivial (cs' := #[.int .i64 x23.N, .slice A30 x23.Kids.length c31]) rfl ?_
            refine St.nil ?_
            refine St.norm ?_
            refine St.seq ?_
            refine St.region ?_
            refine St.val (v := (.agg #[.int .i64 x23.N, .slice A30 x23.Kids.length c31])) (Yields.load rfl (Loads.Hk (vs := [.int .i64 x23.N, .slice A30 x23.Kids.length c31]) 0 rfl ta24 rfl rfl)) trivial rfl rfl ?_
            obtain ⟨q35, e36, hm⟩ := bS hm
            refine St.call [blk b34 (.cells #[.int .i64 x23.N, .slice A30 x23.Kids.length c31] 24 (0, 0))] (ih_m_search_isTree (a0 := x23) h32 e36) rfl (fun _ ha => ev1 ha rfl) rfl en24 rfl rfl trivial ?_
            rintro _ F37 _ ⟨rfl, rfl⟩ l38
            refine St.val (v := (.bool (!q35))) (Yields.not rfl) trivial rfl rfl ?_
            refine St.nil ?_
            refine St.norm ?_
            refine St.cond_b rfl ?_ ?_
            · intro q39
              replace q39 : ¬ (q35 = true) := nb_t q39
              replace hm := iF hm q39
              refine St.seq ?_
              refine St.region ?_
              refine St.val (v := (.bool false)) (Yields.assign rfl) trivial rfl rfl ?_
              refine St.nil ?_
              refine St.norm ?_
              refine St.ret ?_
              refine St.inret ?_
              refine St.thenret ?_
              refine St.thenret ?_
              refine St.inret ?_
              refine St.thenret ?_
              obtain rfl := sI hm
              obtain rfl := aR ho19
              obtain rfl := aR ho13
              exact St.doneR1 rfl rfl ⟨rfl, rfl⟩ (fun w hs => Among.of Among.none w hs)
            · intro q40
              replace q40 : q35 = true := nb_f q40
              replace hm := iT hm q40
              refine St.skip ?_
              refine St.innorm ?_
              refine St.norm ?_
              refine St.region ?_
              refine St.val (v := (.int .i64 ((s16 + 1 : Nat) : Int))) (Yields.addn (j := 1) rfl rfl rfl (by have q_0 := q22; have q_1 := ph0_0.bnd.2; omega)) trivial rfl rfl ?_
              refine St.val (v := (.int .i64 ((s16 + 1 : Nat) : Int))) (Yields.move rfl) trivial rfl rfl ?_
              refine St.nil ?_
              refine St.norm ?_
              obtain rfl := sI hm
              intro a w ha hs
              exact ⟨s16 + 1, aL ho19, F37, (PH.le_trans l21 l38), ha.covers ⟨rfl, rfl, rfl, trivial⟩, (Among.of Among.none _ hs)⟩
          · intro q41
            replace q41 : ¬ (((s16 : Nat) : Int) < ((a0.Kids.length : Nat) : Int)) := of_decide_eq_false q41
            replace hm := iF hm q41
            refine St.exit ?_
            refine St.thenexit ?_
            refine St.thenexit ?_
            refine St.inexit ?_
            obtain rfl := sI hm
            obtain rfl := aR ho19
            intro a w ha hs
            exact ⟨(), rfl, F20, l21, ha.covers trivial, (Among.of Among.none _ hs)⟩
      · rintro a w ⟨z9, rfl, F10, l11, ha, hs⟩
        replace hm := aL ho13
        refine St.use (?_ : St _ _ _ _ _ _) ha hs
        clear ha hs a w
        refine St.seq ?_
        refine St.region ?_
        refine St.val (v := (.bool true)) (Yields.assign rfl) trivial rfl rfl ?_
        refine St.nil ?_
        refine St.norm ?_
        refine St.ret ?_
        obtain rfl := sI hm
        exact St.doneR1 rfl rfl ⟨rfl, rfl⟩ (fun w hs => Among.of Among.none w hs)
theorem m_search_isTree_all : ∀ g, m_search_isTree_S g
  | 0 => (by (try unfold m_search_isTree_S); intros; rename_i hm; exact nomatch (show (none : Option _) = some _ from hm))
  | g + 1 => m_search_isTree_st (m_search_isTree_all g)
theorem m_search_isTree_sp {F : PH} {g : Nat} {a0 : DSTree} {pA0_0 : Option Addr} {pc0_0 : Nat} (ph0_0 : Fsl 32 KDSTree F pA0_0 pc0_0 a0.Kids) {r : Bool} (hm : m_search_isTree g a0 = some r) :
    CallSp Try.prog 24 #[.agg #[.int .i64 a0.N, .slice pA0_0 a0.Kids.length pc0_0]] F [] (fun u F' H' => u = (.bool r) ∧ H' = []) := (m_search_isTree_all g) ph0_0 hm

theorem m_search_Validate_sp {F : PH} {g : Nat} {a0 : DSTree} {pA0_0 : Option Addr} {pc0_0 : Nat} (ph0_0 : Fsl 32 KDSTree F pA0_0 pc0_0 a0.Kids) {r : Int} (hm : m_search_Validate g a0 = some r) :
    CallSp Try.prog 10 #[.agg #[.int .i64 a0.N, .slice pA0_0 a0.Kids.length pc0_0]] F [] (fun u F' H' => u = (.int .i64 r) ∧ H' = []) := by
  unfold m_search_Validate at hm
  refine CallSp.enter (args := [.agg #[.int .i64 a0.N, .slice pA0_0 a0.Kids.length pc0_0]]) Try.func10 rfl rfl ?_
  intro w0 m0 hm0
  refine St.seq ?_
  refine St.region ?_
  refine St.box rfl trivial rfl ?_
  intro b2
  refine St.val (v := (.int .i64 0)) (Yields.assign rfl) trivial rfl rfl ?_
  refine St.nil ?_
  refine St.norm ?_
  refine St.seq ?_
  refine St.region ?_
  refine St.alloc tz3 trivial rfl ?_
  intro b3
  refine St.store (R := [blk b2 (.cells #[.int .i64 a0.N, .slice pA0_0 a0.Kids.length pc0_0] 24 (0, 0))]) rfl rfl 0 rfl rfl tc3 rfl rfl trivial (cs' := #[.int .i64 0]) rfl ?_
  refine St.nil ?_
  refine St.norm ?_
  refine St.seq ?_
  refine St.region ?_
  refine St.alloc tz45 trivial rfl ?_
  intro b4
  refine St.nil ?_
  refine St.norm ?_
  refine St.seq ?_
  refine St.region ?_
  refine St.val (v := (.func (.func 23) #[] #[.pointer (some ⟨b3, 0, none⟩), .pointer (some ⟨b4, 0, none⟩)])) (Yields.makeFunc (fun _ _ => ev0) (fun _ ha => ev2 ha rfl rfl)) trivial rfl rfl ?_
  refine St.store (R := [blk b3 (.cells #[.int .i64 0] 3 (0, 0)), blk b2 (.cells #[.int .i64 a0.N, .slice pA0_0 a0.Kids.length pc0_0] 24 (0, 0))]) rfl rfl 0 rfl rfl tc45 rfl rfl trivial (cs' := #[.func (.func 23) #[] #[.pointer (some ⟨b3, 0, none⟩), .pointer (some ⟨b4, 0, none⟩)]]) rfl ?_
  refine St.nil ?_
  refine St.norm ?_
  refine St.seq ?_
  refine St.seq ?_
  refine St.region ?_
  refine St.val (v := (.func (.func 23) #[] #[.pointer (some ⟨b3, 0, none⟩), .pointer (some ⟨b4, 0, none⟩)])) (Yields.load rfl (Loads.H1 0 rfl tc45 rfl)) trivial rfl rfl ?_
  refine St.val (v := (.agg #[.int .i64 a0.N, .slice pA0_0 a0.Kids.length pc0_0])) (Yields.load rfl (Loads.Hk (vs := [.int .i64 a0.N, .slice pA0_0 a0.Kids.length pc0_0]) 2 rfl ta24 rfl rfl)) trivial rfl rfl ?_
  refine St.pick (R := [blk b3 (.cells #[.int .i64 0] 3 (0, 0)), blk b2 (.cells #[.int .i64 a0.N, .slice pA0_0 a0.Kids.length pc0_0] 24 (0, 0))]) 0 rfl rfl ?_
  refine St.pick (R := [blk b4 (.cells #[.func (.func 23) #[] #[.pointer (some ⟨b3, 0, none⟩), .pointer (some ⟨b4, 0, none⟩)]] 45 (0, 0)), blk b2 (.cells #[.int .i64 a0.N, .slice pA0_0 a0.Kids.length pc0_0] 24 (0, 0))]) 1 rfl rfl ?_
  obtain ⟨q5, e6, hm⟩ := bS hm
  refine St.call [blk b2 (.cells #[.int .i64 a0.N, .slice pA0_0 a0.Kids.length pc0_0] 24 (0, 0))] (m_search_Validate_f1_sp (a0 := a0) ph0_0 e6) rfl (fun _ ha => ev2 ha rfl rfl) rfl en23 rfl rfl trivial ?_
  rintro _ F7 _ ⟨rfl, rfl⟩ l8
  refine St.nil ?_
  refine St.norm ?_
  refine St.cond_b rfl ?_ ?_
  · intro q9
    replace q9 : q5.1 = true := q9
    replace hm := iT hm q9
    refine St.seq ?_
    refine St.region ?_
    refine St.val (v := (.int .i64 3)) (Yields.assign rfl) trivial rfl rfl ?_
    refine St.nil ?_
    refine St.norm ?_
    refine St.ret ?_
    refine St.thenret ?_
    obtain rfl := sI hm
    exact St.doneR1 rfl rfl ⟨rfl, rfl⟩ (fun w hs => Among.of Among.none w hs)
  · intro q10
    replace q10 : ¬ (q5.1 = true) := bf q10
    replace hm := iF hm q10
    refine St.skip ?_
    refine St.norm ?_
    refine St.seq ?_
    refine St.seq ?_
    refine St.region ?_
    refine St.val (v := (.agg #[.int .i64 a0.N, .slice pA0_0 a0.Kids.length pc0_0])) (Yields.load rfl (Loads.Hk (vs := [.int .i64 a0.N, .slice pA0_0 a0.Kids.length pc0_0]) 2 rfl ta24 rfl rfl)) trivial rfl rfl ?_
    obtain ⟨q11, e12, hm⟩ := bS hm
    refine St.call [blk b3 (.cells #[.int .i64 q5.2] 3 (0, 0)), blk b4 (.cells #[.func (.func 23) #[] #[.pointer (some ⟨b3, 0, none⟩), .pointer (some ⟨b4, 0, none⟩)]] 45 (0, 0)), blk b2 (.cells #[.int .i64 a0.N, .slice pA0_0 a0.Kids.length pc0_0] 24 (0, 0))] (m_search_isTree_sp (a0 := a0) (Fsl.mono l8 ph0_0) e12) rfl (fun _ ha => ev1 ha rfl) rfl en24 rfl rfl trivial ?_
    rintro _ F13 _ ⟨rfl, rfl⟩ l14
    refine St.val (v := (.bool (!q11))) (Yields.not rfl) trivial rfl rfl ?_
    refine St.nil ?_
    refine St.norm ?_
    refine St.cond_b rfl ?_ ?_
    · intro q15
      replace q15 : ¬ (q11 = true) := nb_t q15
      replace hm := iF hm q15
      refine St.seq ?_
      refine St.region ?_
      refine St.val (v := (.int .i64 1)) (Yields.assign rfl) trivial rfl rfl ?_
      refine St.nil ?_
      refine St.norm ?_
      refine St.ret ?_
      refine St.thenret ?_
      obtain rfl := sI hm
      exact St.doneR1 rfl rfl ⟨rfl, rfl⟩ (fun w hs => Among.of Among.none w hs)
    · intro q16
      replace q16 : q11 = true := nb_f q16
      replace hm := iT hm q16
      refine St.skip ?_
      refine St.norm ?_
      refine St.seq ?_
      refine St.region ?_
      refine St.val (v := (.int .i64 0)) (Yields.assign rfl) trivial rfl rfl ?_
      refine St.nil ?_
      refine St.norm ?_
      refine St.ret ?_
      obtain rfl := sI hm
      exact St.doneR1 rfl rfl ⟨rfl, rfl⟩ (fun w hs => Among.of Among.none w hs)

theorem m_search_isHow_sp {F : PH} {g : Nat} {a0 : Int} {r : Bool} (hm : m_search_isHow g a0 = some r) :
    CallSp Try.prog 16 #[.int .i64 a0] F [] (fun u F' H' => u = (.bool r) ∧ H' = []) := by
  unfold m_search_isHow at hm
  refine CallSp.enter (args := [.int .i64 a0]) Try.func16 rfl rfl ?_
  intro w0 m0 hm0
  refine St.seq ?_
  refine St.region ?_
  refine St.val (v := (.bool false)) (Yields.assign rfl) trivial rfl rfl ?_
  refine St.nil ?_
  refine St.norm ?_
  obtain ⟨z1, hm, hk2⟩ := bS hm
  refine St.cutI (fun a w => Has Try.f16.ntmps a [(2, .bool z1)] ∧ Sat ⟨w0, fun b => m0 b ≠ none, F⟩ F [] w) ?_ ?_
  · skip
    refine St.region ?_
    refine St.val (v := (.int .i64 a0)) (Yields.move rfl) trivial rfl rfl ?_
    by_cases q3 : a0 ≥ 0
    · replace hm := iT hm q3
      refine St.val (v := (.bool true)) (Yields.is q3 (Yields.ge rfl rfl)) trivial rfl rfl ?_
      refine St.val (v := (.bool true)) (Yields.move rfl) trivial rfl rfl ?_
      refine St.val (v := (.int .i64 a0)) (Yields.move rfl) rfl rfl rfl ?_
      refine St.val (v := (.bool (decide (a0 ≤ 4)))) (Yields.le rfl rfl) rfl rfl rfl ?_
      refine St.val (v := (.bool (decide (a0 ≤ 4)))) (Yields.pick_t rfl rfl) trivial rfl rfl ?_
      refine St.val (v := (.bool (decide (a0 ≤ 4)))) (Yields.assign rfl) trivial rfl rfl ?_
      refine St.nil ?_
      obtain rfl := sI hm
      intro a w ha hs
      exact ⟨ha.covers ⟨rfl, trivial⟩, (Among.of Among.none _ hs)⟩
    · replace hm := iF hm q3
      refine St.val (v := (.bool false)) (Yields.isnt q3 (Yields.ge rfl rfl)) trivial rfl rfl ?_
      refine St.val (v := (.bool false)) (Yields.move rfl) trivial rfl rfl ?_
      refine St.unwanted rfl rfl rfl ?_
      refine St.unwanted rfl rfl rfl ?_
      refine St.val (v := (.bool false)) (Yields.pick_f rfl rfl) trivial rfl rfl ?_
      refine St.val (v := (.bool false)) (Yields.assign rfl) trivial rfl rfl ?_
      refine St.nil ?_
      obtain rfl := sI hm
      intro a w ha hs
      exact ⟨ha.covers ⟨rfl, trivial⟩, (Among.of Among.none _ hs)⟩
  · rintro a w ⟨ha, hs⟩
    replace hm := hk2
    refine St.use (?_ : St _ _ _ _ _ _) ha hs
    clear ha hs a w
    refine St.ret ?_
    obtain rfl := sI hm
    exact St.doneR1 rfl rfl ⟨rfl, rfl⟩ (fun w hs => Among.of Among.none w hs)

theorem m_search_Leaves_f1_sp {F : PH} {g : Nat} {a0 : List Int} {a1 : DSTree} {a2 : List Int} {pbl0 : Nat} {pA0 : Option Addr} {pc0 : Nat} {pA1_0 : Option Addr} {pc1_0 : Nat} {pA2 : Option Addr} {pc2 : Nat} {pcl2 : List Value} (ph0 : Fsl 8 (Kind.int .i64) F pA0 pc0 a0) (ph1_0 : Fsl 32 KDSTree F pA1_0 pc1_0 a1.Kids) (ph2 : Cat (Kind.int .i64) F pcl2 a2) (pbd2 : Bnd 8 a2) {r : Int × DSTree × Bool × List Int} (hm : m_search_Leaves_f1 g a0 a1 a2 = some r) :
    CallSp Try.prog 18 #[.slice pA0 a0.length pc0, .agg #[.int .i64 a1.N, .slice pA1_0 a1.Kids.length pc1_0], .pointer (some ⟨pbl0, 0, none⟩)] F [blk pbl0 (.cells #[.slice pA2 a2.length pc2] 27 (0, 0)), rowo pA2 a2.length pc2 3 1 pcl2] (fun u F' H' => ∃ (B1_0 : Option Addr) (d1_0 : Nat) (G2 : Option Addr) (e2 : Nat) (gl2 : List Value), u = (.tuple #[.int .i64 r.1, .agg #[.int .i64 r.2.1.N, .slice B1_0 r.2.1.Kids.length d1_0], .bool r.2.2.1]) ∧ Fsl 32 KDSTree F' B1_0 d1_0 r.2.1.Kids ∧ Cat (Kind.int .i64) F' gl2 r.2.2.2 ∧ Bnd 8 r.2.2.2 ∧ H' = [blk pbl0 (.cells #[.slice G2 r.2.2.2.length e2] 27 (0, 0)), rowo G2 r.2.2.2.length e2 3 1 gl2]) := by
  unfold m_search_Leaves_f1 at hm
  refine CallSp.enter (args := [.slice pA0 a0.length pc0, .agg #[.int .i64 a1.N, .slice pA1_0 a1.Kids.length pc1_0], .pointer (some ⟨pbl0, 0, none⟩)]) Try.func18 rfl rfl ?_
  intro w0 m0 hm0
  refine St.seq ?_
  refine St.region ?_
  refine St.box rfl trivial rfl ?_
  intro b4
  refine St.val (v := (.int .i64 0)) (Yields.assign rfl) trivial rfl rfl ?_
  refine St.alloc tz24 trivial rfl ?_
  intro b5
  refine St.val (v := (.bool false)) (Yields.assign rfl) trivial rfl rfl ?_
  refine St.nil ?_
  refine St.norm ?_
  obtain ⟨z6, hm, hk13⟩ := bS hm
  refine St.cutI (fun a w => ∃ (A8 : Option Addr) (c9 : Nat) (cells11 : List Value), Cat (Kind.int .i64) F cells11 z6 ∧ Bnd 8 z6 ∧ Has Try.f18.ntmps a [(4, .pointer (some ⟨b4, 0, none⟩)), (6, .pointer (some ⟨b5, 0, none⟩))] ∧ Sat ⟨w0, fun b => m0 b ≠ none, F⟩ F [blk pbl0 (.cells #[.slice A8 z6.length c9] 27 (0, 0)), blk b4 (.cells #[.int .i64 a1.N, .slice pA1_0 a1.Kids.length pc1_0] 24 (0, 0)), blk b5 (.cells #[.int .i64 0, .slice none 0 0] 24 (0, 0)), rowo A8 z6.length c9 3 1 cells11] w) ?_ ?_
  · skip
    obtain ⟨z14, hm, hk15⟩ := bS hm
    refine St.cutI (fun a w => Has Try.f18.ntmps a [(2, .pointer (some ⟨pbl0, 0, none⟩)), (4, .pointer (some ⟨b4, 0, none⟩)), (6, .pointer (some ⟨b5, 0, none⟩)), (16, .bool z14)] ∧ Sat ⟨w0, fun b => m0 b ≠ none, F⟩ F [blk pbl0 (.cells #[.slice pA2 a2.length pc2] 27 (0, 0)), blk b4 (.cells #[.int .i64 a1.N, .slice pA1_0 a1.Kids.length pc1_0] 24 (0, 0)), blk b5 (.cells #[.int .i64 0, .slice none 0 0] 24 (0, 0)), rowo pA2 a2.length pc2 3 1 pcl2] w) ?_ ?_
    · skip
      refine St.region ?_
      refine St.val (v := (.pointer (some ⟨b4, 1, none⟩))) (Yields.fieldAddr (v := (.pointer (some ⟨b4, 1, none⟩))) rfl (fun _ => by kernel_rfl)) trivial rfl rfl ?_
      refine St.val (v := (.slice pA1_0 a1.Kids.length pc1_0)) (Yields.load rfl (Loads.H1 1 rfl tc22 rfl)) trivial rfl rfl ?_
      refine St.val (v := (.int .i64 ((a1.Kids.length : Nat) : Int))) (Yields.lenSlice tu22 rfl) trivial rfl rfl ?_
      by_cases q16 : ((a1.Kids.length : Nat) : Int) = 0
      · replace hm := iT hm q16
        refine St.val (v := (.bool true)) (Yields.is q16 (Yields.eq rfl rfl)) trivial rfl rfl ?_
        refine St.val (v := (.bool true)) (Yields.move rfl) trivial rfl rfl ?_
        refine St.val (v := (.pointer (some ⟨b4, 0, none⟩))) (Yields.fieldAddr (v := (.pointer (some ⟨b4, 0, none⟩))) rfl (fun _ => by kernel_rfl)) rfl rfl rfl ?_
        refine St.val (v := (.int .i64 a1.N)) (Yields.load rfl (Loads.H1 1 rfl tc3 rfl)) rfl rfl rfl ?_
        refine St.val (v := (.bool (decide (a1.N ≥ 0)))) (Yields.ge rfl rfl) rfl rfl rfl ?_
        refine St.val (v := (.bool (decide (a1.N ≥ 0)))) (Yields.pick_t rfl rfl) trivial rfl rfl ?_
        refine St.nil ?_
        obtain rfl := sI hm
        intro a w ha hs
        exact ⟨ha.covers ⟨rfl, rfl, rfl, rfl, trivial⟩, (Among.of (Among.take 2 rfl rfl (Among.take 1 rfl rfl (Among.take 0 rfl rfl (Among.take 0 rfl rfl Among.none)))) _ hs)⟩
      · replace hm := iF hm q16
        refine St.val (v := (.bool false)) (Yields.isnt q16 (Yields.eq rfl rfl)) trivial rfl rfl ?_
        refine St.val (v := (.bool false)) (Yields.move rfl) trivial rfl rfl ?_
        refine St.unwanted rfl rfl rfl ?_
        refine St.unwanted rfl rfl rfl ?_
        refine St.unwanted rfl rfl rfl ?_
        refine St.val (v := (.bool false)) (Yields.pick_f rfl rfl) trivial rfl rfl ?_
        refine St.nil ?_
        obtain rfl := sI hm
        intro a w ha hs
        exact ⟨ha.covers ⟨rfl, rfl, rfl, rfl, trivial⟩, (Among.of (Among.take 2 rfl rfl (Among.take 1 rfl rfl (Among.take 0 rfl rfl (Among.take 0 rfl rfl Among.none)))) _ hs)⟩
    · rintro a w ⟨ha, hs⟩
      replace hm := hk15
      refine St.use (?_ : St _ _ _ _ _ _) ha hs
      clear ha hs a w
      refine St.cond_b rfl ?_ ?_
      · intro q17
        replace q17 : z14 = true := q17
        replace hm := iT hm q17
        refine St.region ?_
        refine St.val (v := (.slice pA2 a2.length pc2)) (Yields.load rfl (Loads.H1 0 rfl tc27 rfl)) trivial rfl rfl ?_
        refine St.val (v := (.pointer (some ⟨b4, 0, none⟩))) (Yields.fieldAddr (v := (.pointer (some ⟨b4, 0, none⟩))) rfl (fun _ => by kernel_rfl)) trivial rfl rfl ?_
        refine St.val (v := (.int .i64 a1.N)) (Yields.load rfl (Loads.H1 1 rfl tc3 rfl)) trivial rfl rfl ?_
        refine St.buildSlice (e := 3) (cells := #[.int .i64 a1.N]) (vs := #[(0, .int .i64 a1.N)]) (fun _ ha => evp1 ha rfl) (fun _ => by kernel_rfl) rfl trivial ?_
        intro b18
        obtain ⟨x23, e24, hm⟩ := bS hm
        refine St.pushL (R := [blk b18 (.cells #[.int .i64 a1.N] 3 (0, 0)), blk pbl0 (.cells #[.slice pA2 a2.length pc2] 27 (0, 0)), blk b4 (.cells #[.int .i64 a1.N, .slice pA1_0 a1.Kids.length pc1_0] 24 (0, 0)), blk b5 (.cells #[.int .i64 0, .slice none 0 0] 24 (0, 0))]) (R3 := [blk pbl0 (.cells #[.slice pA2 a2.length pc2] 27 (0, 0)), blk b4 (.cells #[.int .i64 a1.N, .slice pA1_0 a1.Kids.length pc1_0] 24 (0, 0)), blk b5 (.cells #[.int .i64 0, .slice none 0 0] 24 (0, 0))]) e24 ts27 rfl rfl rfl rfl rfl 4 rfl rfl 0 rfl 0 rfl rfl ph2 ⟨[.int .i64 a1.N], _, rfl, rfl, rfl⟩ rfl trivial ?_
        intro A19 c20 cells21 h22
        refine St.store (R := [rowo A19 x23.length c20 3 1 cells21, blk b4 (.cells #[.int .i64 a1.N, .slice pA1_0 a1.Kids.length pc1_0] 24 (0, 0)), blk b5 (.cells #[.int .i64 0, .slice none 0 0] 24 (0, 0))]) rfl rfl 1 rfl rfl tc27 rfl rfl trivial (cs' := #[.slice A19 x23.length c20]) rfl ?_
        refine St.nil ?_
        obtain rfl := sI hm
        intro a w ha hs
        exact ⟨A19, c20, cells21, h22, (Bnd.of_push e24), ha.covers ⟨rfl, rfl, trivial⟩, (Among.of (Among.take 0 rfl rfl (Among.take 1 rfl rfl (Among.take 1 rfl rfl (Among.take 0 rfl rfl Among.none)))) _ hs)⟩
      · intro q26
        replace q26 : ¬ (z14 = true) := bf q26
        replace hm := iF hm q26
        refine St.skip ?_
        obtain rfl := sI hm
        intro a w ha hs
        exact ⟨pA2, pc2, pcl2, ph2, pbd2, ha.covers ⟨rfl, rfl, trivial⟩, (Among.of (Among.take 0 rfl rfl (Among.take 0 rfl rfl (Among.take 0 rfl rfl (Among.take 0 rfl rfl Among.none)))) _ hs)⟩
  · rintro a w ⟨A8, c9, cells11, h10, b12, ha, hs⟩
    replace hm := hk13
    refine St.use (?_ : St _ _ _ _ _ _) ha hs
    clear ha hs a w
    refine St.seq ?_
    refine StD.start [5] [blk pbl0 (.cells #[.slice A8 z6.length c9] 27 (0, 0)), blk b4 (.cells #[.int .i64 a1.N, .slice pA1_0 a1.Kids.length pc1_0] 24 (0, 0)), blk b5 (.cells #[.int .i64 0, .slice none 0 0] 24 (0, 0)), rowo A8 z6.length c9 3 1 cells11] hmix ?_
    refine StD.takeP (i := 0) (v := (.pointer (some ⟨b4, 1, none⟩))) rfl (fun _ => Yields.fieldAddr (v := (.pointer (some ⟨b4, 1, none⟩))) rfl (fun _ => by kernel_rfl)) rfl rfl trivial (by rintro _ _ _ ⟨_, _, _, _, h, _⟩; cases h) (by kernel_rfl) (listed' := #[true, false, false, false, false, false, false]) rfl ?_
    refine StD.take [0, 2, 4, 6] (i := 1) (v := (.slice pA1_0 a1.Kids.length pc1_0)) rfl (Yields.load rfl (Loads.H1 1 rfl tc22 rfl)) rfl rfl trivial Among.refl (by rintro _ _ _ ⟨_, _, _, _, h, _⟩; cases h) (by kernel_rfl) (listed' := #[true, true, false, false, false, false, false]) rfl ?_
    refine StD.takeP (i := 2) (v := (.int .i64 ((a1.Kids.length : Nat) : Int))) rfl (fun _ => Yields.lenSlice tu22 rfl) rfl rfl trivial (by rintro _ _ _ ⟨_, _, _, _, h, _⟩; cases h) (by kernel_rfl) (listed' := #[true, true, true, false, false, false, false]) rfl ?_
    refine StD.take [0, 2, 4, 6] (i := 3) (v := (.agg #[.int .i64 a1.N, .slice pA1_0 a1.Kids.length pc1_0])) rfl (Yields.load rfl (Loads.Hk (vs := [.int .i64 a1.N, .slice pA1_0 a1.Kids.length pc1_0]) 1 rfl ta24 rfl rfl)) rfl rfl trivial Among.refl (by rintro _ _ _ ⟨_, _, _, _, h, _⟩; cases h) (by kernel_rfl) (listed' := #[true, true, true, true, false, false, false]) rfl ?_
    refine StD.takeP (i := 4) (v := (.int .i64 ((a1.Kids.length : Nat) : Int))) rfl (fun _ => Yields.assign rfl) rfl rfl trivial (by rintro _ _ _ ⟨_, _, _, _, h, _⟩; cases h) (by kernel_rfl) (listed' := #[true, true, true, true, true, false, false]) rfl ?_
    refine StD.only (i := 5) rfl (by kernel_rfl) (listed' := #[true, true, true, true, true, true, false]) rfl ?_
    intro hcl27
    refine St.storen (R := [blk pbl0 (.cells #[.slice A8 z6.length c9] 27 (0, 0)), blk b4 (.cells #[.int .i64 a1.N, .slice pA1_0 a1.Kids.length pc1_0] 24 (0, 0)), rowo A8 z6.length c9 3 1 cells11]) rfl rfl 2 rfl rfl ta24 rfl rfl rfl trivial (cs' := #[.int .i64 a1.N, .slice pA1_0 a1.Kids.length pc1_0]) rfl ?_
    refine StD.next hcl27 (fun h => by cases h) ?_
    refine StD.takeP (i := 6) (v := (.bool true)) rfl (fun _ => Yields.assign rfl) rfl rfl trivial (by rintro _ _ _ ⟨_, _, _, _, h, _⟩; cases h) (by kernel_rfl) (listed' := #[true, true, true, true, true, true, true]) rfl ?_
    refine StD.done (by kernel_rfl) ?_
    refine St.norm ?_
    refine St.ret ?_
    obtain rfl := sI hm
    exact St.doneR3 rfl rfl (ResOk.cell rfl (Loads.Hk (vs := [.int .i64 a1.N, .slice pA1_0 a1.Kids.length pc1_0]) 0 rfl ta24 rfl rfl)) rfl ⟨pA1_0, pc1_0, A8, c9, cells11, rfl, ph1_0, h10, b12, rfl⟩ (fun w hs => Among.of (Among.take 1 rfl rfl (Among.take 2 rfl rfl Among.none)) w hs)

theorem m_search_below_sp {F : PH} {g : Nat} {a0 : DSTree} {a1 : Int} {pA0_0 : Option Addr} {pc0_0 : Nat} (ph0_0 : Fsl 32 KDSTree F pA0_0 pc0_0 a0.Kids) {r : DSTree} (hm : m_search_below g a0 a1 = some r) :
    CallSp Try.prog 19 #[.agg #[.int .i64 a0.N, .slice pA0_0 a0.Kids.length pc0_0], .int .i64 a1] F [] (fun u F' H' => ∃ (B0_0 : Option Addr) (d0_0 : Nat), u = (.agg #[.int .i64 r.N, .slice B0_0 r.Kids.length d0_0]) ∧ Fsl 32 KDSTree F' B0_0 d0_0 r.Kids ∧ H' = []) := by
  unfold m_search_below at hm
  refine CallSp.enter (args := [.agg #[.int .i64 a0.N, .slice pA0_0 a0.Kids.length pc0_0], .int .i64 a1]) Try.func19 rfl rfl ?_
  intro w0 m0 hm0
  refine St.seq ?_
  refine St.region ?_
  refine St.box rfl trivial rfl ?_
  intro b2
  refine St.alloc tz24 trivial rfl ?_
  intro b3
  refine St.nil ?_
  refine St.norm ?_
  refine St.seq ?_
  refine St.region ?_
  refine St.val (v := (.pointer (some ⟨b2, 1, none⟩))) (Yields.fieldAddr (v := (.pointer (some ⟨b2, 1, none⟩))) rfl (fun _ => by kernel_rfl)) trivial rfl rfl ?_
  refine St.val (v := (.slice pA0_0 a0.Kids.length pc0_0)) (Yields.load rfl (Loads.H1 1 rfl tc22 rfl)) trivial rfl rfl ?_
  refine St.val (v := (.int .i64 a1)) (Yields.move rfl) trivial rfl rfl ?_
  obtain ⟨x4, e5, hm⟩ := bS hm
  obtain ⟨p6, cs7, jx8, R9, k10⟩ := ph0_0.idx e5
  obtain ⟨A11, c12, rfl, h13⟩ := DSTree.opn R9
  refine St.val (v := (.pointer (some p6))) (Yields.idx jx8 ts22 rfl rfl) trivial rfl rfl ?_
  refine St.val (v := (.agg #[.int .i64 x4.N, .slice A11 x4.Kids.length c12])) (Yields.load rfl (Loads.Fatn0 k10 ta24)) trivial rfl rfl ?_
  refine St.storen (R := [blk b2 (.cells #[.int .i64 a0.N, .slice pA0_0 a0.Kids.length pc0_0] 24 (0, 0))]) rfl rfl 0 rfl rfl ta24 rfl rfl rfl trivial (cs' := #[.int .i64 x4.N, .slice A11 x4.Kids.length c12]) rfl ?_
  refine St.nil ?_
  refine St.norm ?_
  refine St.ret ?_
  obtain rfl := sI hm
  exact St.doneR1 rfl (ResOk.cell rfl (Loads.Hk (vs := [.int .i64 x4.N, .slice A11 x4.Kids.length c12]) 0 rfl ta24 rfl rfl)) ⟨A11, c12, rfl, h13, rfl⟩ (fun w hs => Among.of Among.none w hs)

theorem m_api_STree_2_sp {F : PH} {g : Nat} {a0 : DSTree} {a1 : List Int} {pbl0 : Nat} {pA0_0 : Option Addr} {pc0_0 : Nat} {pA1 : Option Addr} {pc1 : Nat} {pcl1 : List Value} (ph0_0 : Fsl 32 KDSTree F pA0_0 pc0_0 a0.Kids) (ph1 : Cat (Kind.int .i64) F pcl1 a1) (pbd1 : Bnd 8 a1) {r : Bool × List Int} (hm : m_api_STree_2 g a0 a1 = some r) :
    CallSp Try.prog 28 #[.agg #[.int .i64 a0.N, .slice pA0_0 a0.Kids.length pc0_0], .func (.func 18) #[] #[.pointer (some ⟨pbl0, 0, none⟩)], .func (.func 19) #[] #[]] F [blk pbl0 (.cells #[.slice pA1 a1.length pc1] 27 (0, 0)), rowo pA1 a1.length pc1 3 1 pcl1] (fun u F' H' => ∃ (G1 : Option Addr) (e1 : Nat) (gl1 : List Value), u = (.bool r.1) ∧ Cat (Kind.int .i64) F' gl1 r.2 ∧ Bnd 8 r.2 ∧ H' = [blk pbl0 (.cells #[.slice G1 r.2.length e1] 27 (0, 0)), rowo G1 r.2.length e1 3 1 gl1]) := by
  unfold m_api_STree_2 at hm
  refine CallSp.enter (args := [.agg #[.int .i64 a0.N, .slice pA0_0 a0.Kids.length pc0_0], .func (.func 18) #[] #[.pointer (some ⟨pbl0, 0, none⟩)], .func (.func 19) #[] #[]]) Try.func28 rfl rfl ?_
  intro w0 m0 hm0
  refine St.seq ?_
  refine St.region ?_
  refine St.box rfl trivial rfl ?_
  intro b3
  refine St.val (v := (.bool false)) (Yields.assign rfl) trivial rfl rfl ?_
  refine St.nil ?_
  refine St.norm ?_
  refine St.seq ?_
  refine St.region ?_
  refine St.val (v := (.agg #[.int .i64 a0.N, .slice pA0_0 a0.Kids.length pc0_0])) (Yields.load rfl (Loads.Hk (vs := [.int .i64 a0.N, .slice pA0_0 a0.Kids.length pc0_0]) 0 rfl ta24 rfl rfl)) trivial rfl rfl ?_
  refine St.val (v := (.agg #[.slice none 0 0, .int .i64 0, .int .i64 a0.N, .slice pA0_0 a0.Kids.length pc0_0])) (Yields.build (v := (.agg #[.slice none 0 0, .int .i64 0, .int .i64 a0.N, .slice pA0_0 a0.Kids.length pc0_0])) (vs := #[(2, .agg #[.int .i64 a0.N, .slice pA0_0 a0.Kids.length pc0_0])]) (fun _ ha => evp1 ha rfl) (fun _ => by kernel_rfl)) trivial rfl rfl ?_
  refine St.buildSlice (e := 58) (cells := #[.slice none 0 0, .int .i64 0, .int .i64 a0.N, .slice pA0_0 a0.Kids.length pc0_0]) (vs := #[(0, .agg #[.slice none 0 0, .int .i64 0, .int .i64 a0.N, .slice pA0_0 a0.Kids.length pc0_0])]) (fun _ ha => evp1 ha rfl) (fun _ => by kernel_rfl) rfl trivial ?_
  intro b4
  refine St.weak (R := [blk b3 (.cells #[.int .i64 a0.N, .slice pA0_0 a0.Kids.length pc0_0] 24 (0, 0)), blk pbl0 (.cells #[.slice pA1 a1.length pc1] 27 (0, 0)), rowo pA1 a1.length pc1 3 1 pcl1]) (c' := rowo (some ⟨b4, 0, none⟩) ([(DPlace.mk ([] : List Int) 0 a0)] : List DPlace).length 1 58 4 [.slice none 0 0, .int .i64 0, .int .i64 a0.N, .slice pA0_0 a0.Kids.length pc0_0]) 0 rfl rfl (fun m hm => rowo_of_row (row_of_blk (k := 1) rfl (by decide) hm)) ?_
  refine St.val (v := (.slice (some ⟨b4, 0, none⟩) ([(DPlace.mk ([] : List Int) 0 a0)] : List DPlace).length 1)) (Yields.assign rfl) trivial rfl rfl ?_
  refine St.nil ?_
  refine St.norm ?_
  obtain ⟨o15, hm, ho16⟩ := jS hm
  refine St.cutI (fun a w => ∃ z6 : List Int, o15 = .inl z6 ∧ ∃ (A10 : Option Addr) (c11 : Nat) (cells13 : List Value) (F7 : PH), PH.le F F7 ∧ Cat (Kind.int .i64) F7 cells13 z6 ∧ Bnd 8 z6 ∧ Has Try.f28.ntmps a [] ∧ Sat ⟨w0, fun b => m0 b ≠ none, F⟩ F7 [blk pbl0 (.cells #[.slice A10 z6.length c11] 27 (0, 0)), rowo A10 z6.length c11 3 1 cells13] w) ?_ ?_
  · skip
    refine St.block ?_
    refine St.loopM hm (fun s32 a w => ∃ (A37 : Option Addr) (c38 : Nat) (cells40 : List Value) (A43 : Option Addr) (c44 : Nat) (cells46 : List Value) (F48 : PH), PH.le F F48 ∧ Cat (Kind.int .i64) F48 cells40 s32.1 ∧ Bnd 8 s32.1 ∧ Cat KDPlace F48 cells46 s32.2 ∧ Bnd 64 s32.2 ∧ Has Try.f28.ntmps a [(1, .func (.func 18) #[] #[.pointer (some ⟨pbl0, 0, none⟩)]), (2, .func (.func 19) #[] #[]), (7, .slice A43 s32.2.length c44)] ∧ Sat ⟨w0, fun b => m0 b ≠ none, F⟩ F48 [blk pbl0 (.cells #[.slice A37 s32.1.length c38] 27 (0, 0)), rowo A37 s32.1.length c38 3 1 cells40, rowo A43 s32.2.length c44 58 4 cells46] w) ?_ ?_
    · skip
      intro a w ha hs
      exact ⟨pA1, pc1, pcl1, (some ⟨b4, 0, none⟩), 1, [.slice none 0 0, .int .i64 0, .int .i64 a0.N, .slice pA0_0 a0.Kids.length pc0_0], F, (PH.le_refl _), ph1, pbd1, (show Cat KDPlace F [.slice none 0 0, .int .i64 0, .int .i64 a0.N, .slice pA0_0 a0.Kids.length pc0_0] ([(DPlace.mk ([] : List Int) 0 a0)] : List DPlace) from ⟨[.slice none 0 0, .int .i64 0, .int .i64 a0.N, .slice pA0_0 a0.Kids.length pc0_0], _, rfl, (DPlace.shut Fsl.nil ph0_0), rfl⟩), (show Bnd 64 ([(DPlace.mk ([] : List Int) 0 a0)] : List DPlace) from ⟨by simp, by simp⟩), ha.covers ⟨rfl, rfl, rfl, trivial⟩, (Among.of (Among.take 2 rfl rfl (Among.take 2 rfl rfl (Among.take 0 rfl rfl Among.none))) _ hs)⟩
    · rintro s32 o33 co34 hm ho35 a w ⟨A37, c38, cells40, A43, c44, cells46, F48, l49, h39, b41, h45, b47, ha, hs⟩
      refine St.use (?_ : St _ _ _ _ _ _) ha hs
      clear ha hs a w
      refine St.seq ?_
      refine St.seq ?_
      refine St.region ?_
      refine St.val (v := (.slice A43 s32.2.length c44)) (Yields.move rfl) trivial rfl rfl ?_
      refine St.val (v := (.int .i64 ((s32.2.length : Nat) : Int))) (Yields.lenSlice tu53 rfl) trivial rfl rfl ?_
      refine St.val (v := (.bool (decide (((s32.2.length : Nat) : Int) > 0)))) (Yields.gt rfl rfl) trivial rfl rfl ?_
      refine St.nil ?_
      refine St.norm ?_
      refine St.cond_b rfl ?_ ?_
      · intro q50
        replace q50 : ((s32.2.length : Nat) : Int) > 0 := of_decide_eq_true q50
        replace hm := iT hm q50
        refine St.skip ?_
        refine St.norm ?_
        refine St.block ?_
        refine St.seq ?_
        refine St.region ?_
        refine St.val (v := (.slice A43 s32.2.length c44)) (Yields.move rfl) trivial rfl rfl ?_
        obtain ⟨x51, e52, hm⟩ := bS hm
        replace e52 := nlit e52
        obtain ⟨jx53, jx54, cs55, R56, k57⟩ := h45.idx e52
        obtain ⟨A58, c59, A61, c62, rfl, h60, h63⟩ := DPlace.opn R56
        refine St.rowo_at 2 rfl (by omega) ?_
        intro hA66
        refine St.val (v := (.pointer (some ⟨bk A43, bo A43 + (0 : Int).toNat * 4, none⟩))) (Yields.idx (IdxAt.own hA66 jx53 jx54) ts53 rfl rfl) trivial rfl rfl ?_
        refine St.val (v := (.agg #[.slice A58 x51.l.length c59, .int .i64 x51.rank, .int .i64 x51.x.N, .slice A61 x51.x.Kids.length c62])) (Yields.load rfl (Loads.rAn (us := [.slice A58 x51.l.length c59, .int .i64 x51.rank, .int .i64 x51.x.N, .slice A61 x51.x.Kids.length c62]) 2 rfl ta58 (k57))) trivial rfl rfl ?_
        refine St.alloc tz58 trivial rfl ?_
        intro b67
        refine St.storen (R := [blk pbl0 (.cells #[.slice A37 s32.1.length c38] 27 (0, 0)), rowo A37 s32.1.length c38 3 1 cells40, rowo A43 s32.2.length c44 58 4 cells46]) rfl rfl 0 rfl rfl ta58 rfl rfl rfl trivial (cs' := #[.slice A58 x51.l.length c59, .int .i64 x51.rank, .int .i64 x51.x.N, .slice A61 x51.x.Kids.length c62]) rfl ?_
        refine St.nil ?_
        refine St.norm ?_
        refine St.seq ?_
        refine St.region ?_
        refine St.val (v := (.slice A43 s32.2.length c44)) (Yields.move rfl) trivial rfl rfl ?_
        obtain ⟨x68, e69, hm⟩ := bS hm
        refine St.rowo_len 3 rfl ?_
        intro hk70
        obtain ⟨A71, c72, s73, hw74⟩ := subOwn (D := KDPlace) A43 58 hk70 e69
        refine St.val (v := (.slice A71 x68.length c72)) (Yields.subD s73 ts53 rfl rfl) trivial rfl rfl ?_
        refine St.shrink (R := [blk b67 (.cells #[.slice A58 x51.l.length c59, .int .i64 x51.rank, .int .i64 x51.x.N, .slice A61 x51.x.Kids.length c62] 58 (0, 0)), blk pbl0 (.cells #[.slice A37 s32.1.length c38] 27 (0, 0)), rowo A37 s32.1.length c38 3 1 cells40]) 3 rfl rfl h45 hw74 ?_
        intro cells76 h77
        refine St.val (v := (.slice A71 x68.length c72)) (Yields.assign rfl) trivial rfl rfl ?_
        refine St.nil ?_
        refine St.norm ?_
        refine St.block ?_
        refine St.loopM hm (fun s105 a w => ∃ (A110 : Option Addr) (c111 : Nat) (cells113 : List Value) (A116 : Option Addr) (c117 : Nat) (cells119 : List Value) (A122 : Option Addr) (c123 : Nat) (A126 : Option Addr) (c127 : Nat) (F129 : PH), PH.le F48 F129 ∧ Cat (Kind.int .i64) F129 cells113 s105.1 ∧ Bnd 8 s105.1 ∧ Cat KDPlace F129 cells119 s105.2.1 ∧ Bnd 64 s105.2.1 ∧ Fsl 8 (Kind.int .i64) F129 A122 c123 s105.2.2.1 ∧ Fsl 32 KDSTree F129 A126 c127 s105.2.2.2.2.2 ∧ Has Try.f28.ntmps a [(1, .func (.func 18) #[] #[.pointer (some ⟨pbl0, 0, none⟩)]), (2, .func (.func 19) #[] #[]), (7, .slice A116 s105.2.1.length c117), (8, .pointer (some ⟨b67, 0, none⟩))] ∧ Sat ⟨w0, fun b => m0 b ≠ none, F⟩ F129 [blk pbl0 (.cells #[.slice A110 s105.1.length c111] 27 (0, 0)), blk b67 (.cells #[.slice A122 s105.2.2.1.length c123, .int .i64 s105.2.2.2.1, .int .i64 s105.2.2.2.2.1, .slice A126 s105.2.2.2.2.2.length c127] 58 (0, 0)), rowo A110 s105.1.length c111 3 1 cells113, rowo A116 s105.2.1.length c117 58 4 cells119] w) ?_ ?_
        · skip
          intro a w ha hs
          exact ⟨A37, c38, cells40, A71, c72, cells76, A58, c59, A61, c62, F48, (PH.le_refl _), h39, b41, h77, (Bnd.of_sub b47 e69), h60, h63, ha.covers ⟨rfl, rfl, rfl, rfl, trivial⟩, (Among.of (Among.take 2 rfl rfl (Among.take 1 rfl rfl (Among.take 1 rfl rfl (Among.take 0 rfl rfl Among.none)))) _ hs)⟩
        · rintro s105 o106 co107 hm ho108 a w ⟨A110, c111, cells113, A116, c117, cells119, A122, c123, A126, c127, F129, l130, h112, b114, h118, b120, h124, h128, ha, hs⟩
          refine St.use (?_ : St _ _ _ _ _ _) ha hs
          clear ha hs a w
          refine St.block ?_
          refine St.seq ?_
          refine St.region ?_
          refine St.val (v := (.func (.func 18) #[] #[.pointer (some ⟨pbl0, 0, none⟩)])) (Yields.move rfl) trivial rfl rfl ?_
          refine St.val (v := (.pointer (some ⟨b67, 0, none⟩))) (Yields.fieldAddr (v := (.pointer (some ⟨b67, 0, none⟩))) rfl (fun _ => by kernel_rfl)) trivial rfl rfl ?_
          refine St.val (v := (.slice A122 s105.2.2.1.length c123)) (Yields.load rfl (Loads.H1 1 rfl tc27 rfl)) trivial rfl rfl ?_
          refine St.val (v := (.pointer (some ⟨b67, 2, none⟩))) (Yields.fieldAddr (v := (.pointer (some ⟨b67, 2, none⟩))) rfl (fun _ => by kernel_rfl)) trivial rfl rfl ?_
          refine St.val (v := (.agg #[.int .i64 s105.2.2.2.2.1, .slice A126 s105.2.2.2.2.2.length c127])) (Yields.load rfl (Loads.Hk (vs := [.int .i64 s105.2.2.2.2.1, .slice A126 s105.2.2.2.2.2.length c127]) 1 rfl ta24 rfl rfl)) trivial rfl rfl ?_
          refine St.pick (R := [blk pbl0 (.cells #[.slice A110 s105.1.length c111] 27 (0, 0)), blk b67 (.cells #[.slice A122 s105.2.2.1.length c123, .int .i64 s105.2.2.2.1, .int .i64 s105.2.2.2.2.1, .slice A126 s105.2.2.2.2.2.length c127] 58 (0, 0)), rowo A116 s105.2.1.length c117 58 4 cells119]) 2 rfl rfl ?_
          refine St.pick (R := [rowo A110 s105.1.length c111 3 1 cells113, blk b67 (.cells #[.slice A122 s105.2.2.1.length c123, .int .i64 s105.2.2.2.1, .int .i64 s105.2.2.2.2.1, .slice A126 s105.2.2.2.2.2.length c127] 58 (0, 0)), rowo A116 s105.2.1.length c117 58 4 cells119]) 1 rfl rfl ?_
          obtain ⟨q131, e132, hm⟩ := bS hm
          refine St.call [blk b67 (.cells #[.slice A122 s105.2.2.1.length c123, .int .i64 s105.2.2.2.1, .int .i64 s105.2.2.2.2.1, .slice A126 s105.2.2.2.2.2.length c127] 58 (0, 0)), rowo A116 s105.2.1.length c117 58 4 cells119] (m_search_Leaves_f1_sp (a1 := (DSTree.mk s105.2.2.2.2.1 s105.2.2.2.2.2)) h124 h128 h112 b114 e132) rfl (fun _ ha => ev2 ha rfl rfl) rfl en18 rfl rfl trivial ?_
          rintro _ F133 _ ⟨A135, c136, A139, c140, cells143, rfl, h137, h141, b144, rfl⟩ l134
          refine St.val (v := (.tuple #[.int .i64 q131.1, .agg #[.int .i64 q131.2.1.N, .slice A135 q131.2.1.Kids.length c136], .bool q131.2.2.1])) (Yields.move rfl) trivial rfl rfl ?_
          refine St.val (v := (.int .i64 q131.1)) (Yields.extract rfl rfl) trivial rfl rfl ?_
          refine St.val (v := (.agg #[.int .i64 q131.2.1.N, .slice A135 q131.2.1.Kids.length c136])) (Yields.extract rfl rfl) trivial rfl rfl ?_
          refine St.val (v := (.bool q131.2.2.1)) (Yields.extract rfl rfl) trivial rfl rfl ?_
          refine St.alloc tz24 trivial rfl ?_
          intro b145
          refine St.val (v := (.int .i64 q131.1)) (Yields.assign rfl) trivial rfl rfl ?_
          refine St.storen (R := [blk pbl0 (.cells #[.slice A139 q131.2.2.2.length c140] 27 (0, 0)), rowo A139 q131.2.2.2.length c140 3 1 cells143, blk b67 (.cells #[.slice A122 s105.2.2.1.length c123, .int .i64 s105.2.2.2.1, .int .i64 s105.2.2.2.2.1, .slice A126 s105.2.2.2.2.2.length c127] 58 (0, 0)), rowo A116 s105.2.1.length c117 58 4 cells119]) rfl rfl 0 rfl rfl ta24 rfl rfl rfl trivial (cs' := #[.int .i64 q131.2.1.N, .slice A135 q131.2.1.Kids.length c136]) rfl ?_
          refine St.val (v := (.bool q131.2.2.1)) (Yields.assign rfl) trivial rfl rfl ?_
          refine St.nil ?_
          refine St.norm ?_
          obtain ⟨z146, hm, hk155⟩ := bS hm
          refine St.cutI (fun a w => ∃ (A150 : Option Addr) (c151 : Nat) (cells153 : List Value) (F147 : PH), PH.le F133 F147 ∧ Cat KDPlace F147 cells153 z146 ∧ Bnd 64 z146 ∧ Has Try.f28.ntmps a [(1, .func (.func 18) #[] #[.pointer (some ⟨pbl0, 0, none⟩)]), (2, .func (.func 19) #[] #[]), (7, .slice A150 z146.length c151), (8, .pointer (some ⟨b67, 0, none⟩)), (9, .int .i64 q131.1), (10, .pointer (some ⟨b145, 0, none⟩)), (11, .bool q131.2.2.1)] ∧ Sat ⟨w0, fun b => m0 b ≠ none, F⟩ F147 [blk pbl0 (.cells #[.slice A139 q131.2.2.2.length c140] 27 (0, 0)), blk b67 (.cells #[.slice A122 s105.2.2.1.length c123, .int .i64 s105.2.2.2.1, .int .i64 s105.2.2.2.2.1, .slice A126 s105.2.2.2.2.2.length c127] 58 (0, 0)), blk b145 (.cells #[.int .i64 q131.2.1.N, .slice A135 q131.2.1.Kids.length c136] 24 (0, 0)), rowo A139 q131.2.2.2.length c140 3 1 cells143, rowo A150 z146.length c151 58 4 cells153] w) ?_ ?_
          · skip
            refine St.seq ?_
            refine St.region ?_
            refine St.val (v := (.int .i64 1)) (Yields.assign rfl) trivial rfl rfl ?_
            refine St.nil ?_
            refine St.norm ?_
            refine St.block ?_
            refine St.loopM hm (fun s174 a w => ∃ (A179 : Option Addr) (c180 : Nat) (cells182 : List Value) (F184 : PH), PH.le F133 F184 ∧ Cat KDPlace F184 cells182 s174.1 ∧ Bnd 64 s174.1 ∧ Has Try.f28.ntmps a [(1, .func (.func 18) #[] #[.pointer (some ⟨pbl0, 0, none⟩)]), (2, .func (.func 19) #[] #[]), (7, .slice A179 s174.1.length c180), (8, .pointer (some ⟨b67, 0, none⟩)), (9, .int .i64 q131.1), (10, .pointer (some ⟨b145, 0, none⟩)), (11, .bool q131.2.2.1), (12, .int .i64 s174.2)] ∧ Sat ⟨w0, fun b => m0 b ≠ none, F⟩ F184 [blk pbl0 (.cells #[.slice A139 q131.2.2.2.length c140] 27 (0, 0)), blk b67 (.cells #[.slice A122 s105.2.2.1.length c123, .int .i64 s105.2.2.2.1, .int .i64 s105.2.2.2.2.1, .slice A126 s105.2.2.2.2.2.length c127] 58 (0, 0)), blk b145 (.cells #[.int .i64 q131.2.1.N, .slice A135 q131.2.1.Kids.length c136] 24 (0, 0)), rowo A139 q131.2.2.2.length c140 3 1 cells143, rowo A179 s174.1.length c180 58 4 cells182] w) ?_ ?_
            · skip
              intro a w ha hs
              exact ⟨A116, c117, cells119, F133, (PH.le_refl _), (Cat.mono l134 h118), b120, ha.covers ⟨rfl, rfl, rfl, rfl, rfl, rfl, rfl, rfl, trivial⟩, (Among.of (Among.take 1 rfl rfl (Among.take 2 rfl rfl (Among.take 0 rfl rfl (Among.take 0 rfl rfl (Among.take 0 rfl rfl Among.none))))) _ hs)⟩
            · rintro s174 o175 co176 hm ho177 a w ⟨A179, c180, cells182, F184, l185, h181, b183, ha, hs⟩
              refine St.use (?_ : St _ _ _ _ _ _) ha hs
              clear ha hs a w
              refine St.seq ?_
              refine St.seq ?_
              refine St.region ?_
              refine St.val (v := (.int .i64 s174.2)) (Yields.move rfl) trivial rfl rfl ?_
              refine St.val (v := (.int .i64 q131.1)) (Yields.move rfl) trivial rfl rfl ?_
              refine St.val (v := (.bool (decide (s174.2 < q131.1)))) (Yields.lt rfl rfl) trivial rfl rfl ?_
              refine St.nil ?_
              refine St.norm ?_
              refine St.cond_b rfl ?_ ?_
              · intro q186
                replace q186 : s174.2 < q131.1 := of_decide_eq_true q186
                replace hm := iT hm q186
                refine St.skip ?_
                refine St.norm ?_
                obtain ⟨z187, hm, hk196⟩ := bS hm
                refine St.cutI (fun a w => ∃ (A191 : Option Addr) (c192 : Nat) (cells194 : List Value) (F188 : PH), PH.le F184 F188 ∧ Cat KDPlace F188 cells194 z187 ∧ Bnd 64 z187 ∧ Has Try.f28.ntmps a [(1, .func (.func 18) #[] #[.pointer (some ⟨pbl0, 0, none⟩)]), (2, .func (.func 19) #[] #[]), (7, .slice A191 z187.length c192), (8, .pointer (some ⟨b67, 0, none⟩)), (9, .int .i64 q131.1), (10, .pointer (some ⟨b145, 0, none⟩)), (11, .bool q131.2.2.1), (12, .int .i64 s174.2)] ∧ Sat ⟨w0, fun b => m0 b ≠ none, F⟩ F188 [blk pbl0 (.cells #[.slice A139 q131.2.2.2.length c140] 27 (0, 0)), blk b67 (.cells #[.slice A122 s105.2.2.1.length c123, .int .i64 s105.2.2.2.1, .int .i64 s105.2.2.2.2.1, .slice A126 s105.2.2.2.2.2.length c127] 58 (0, 0)), blk b145 (.cells #[.int .i64 q131.2.1.N, .slice A135 q131.2.1.Kids.length c136] 24 (0, 0)), rowo A139 q131.2.2.2.length c140 3 1 cells143, rowo A191 z187.length c192 58 4 cells194] w) ?_ ?_
                · skip
                  refine St.block ?_
                  refine StD.start [10, 12, 13] [blk pbl0 (.cells #[.slice A139 q131.2.2.2.length c140] 27 (0, 0)), blk b67 (.cells #[.slice A122 s105.2.2.1.length c123, .int .i64 s105.2.2.2.1, .int .i64 s105.2.2.2.2.1, .slice A126 s105.2.2.2.2.2.length c127] 58 (0, 0)), blk b145 (.cells #[.int .i64 q131.2.1.N, .slice A135 q131.2.1.Kids.length c136] 24 (0, 0)), rowo A139 q131.2.2.2.length c140 3 1 cells143, rowo A179 s174.1.length c180 58 4 cells182] hmix ?_
                  refine StD.takeP (i := 0) (v := (.slice A179 s174.1.length c180)) rfl (fun _ => Yields.move rfl) rfl rfl trivial (by rintro _ _ _ ⟨_, _, _, _, h, _⟩; cases h) (by kernel_rfl) (listed' := #[true, false, false, false, false, false, false, false, false, false, false, false, false, false, false]) rfl ?_
                  refine StD.takeP (i := 1) (v := (.pointer (some ⟨b67, 0, none⟩))) rfl (fun _ => Yields.fieldAddr (v := (.pointer (some ⟨b67, 0, none⟩))) rfl (fun _ => by kernel_rfl)) rfl rfl trivial (by rintro _ _ _ ⟨_, _, _, _, h, _⟩; cases h) (by kernel_rfl) (listed' := #[true, true, false, false, false, false, false, false, false, false, false, false, false, false, false]) rfl ?_
                  refine StD.take [0, 1, 4, 7, 9, 11, 14] (i := 2) (v := (.slice A122 s105.2.2.1.length c123)) rfl (Yields.load rfl (Loads.H1 1 rfl tc27 rfl)) rfl rfl trivial Among.refl (by rintro _ _ _ ⟨_, _, _, _, h, _⟩; cases h) (by kernel_rfl) (listed' := #[true, true, true, false, false, false, false, false, false, false, false, false, false, false, false]) rfl ?_
                  refine StD.takeP (i := 4) (v := (.int .i64 s174.2)) rfl (fun _ => Yields.move rfl) rfl rfl trivial (by rintro _ _ _ ⟨_, _, _, _, h, _⟩; cases h) (by kernel_rfl) (listed' := #[true, true, true, false, true, false, false, false, false, false, false, false, false, false, false]) rfl ?_
                  refine StD.takeP (i := 7) (v := (.func (.func 19) #[] #[])) rfl (fun _ => Yields.move rfl) rfl rfl trivial (by rintro _ _ _ ⟨_, _, _, _, h, _⟩; cases h) (by kernel_rfl) (listed' := #[true, true, true, false, true, false, false, true, false, false, false, false, false, false, false]) rfl ?_
                  refine StD.take [0, 1, 4, 7, 9, 11, 14] (i := 8) (v := (.agg #[.int .i64 q131.2.1.N, .slice A135 q131.2.1.Kids.length c136])) rfl (Yields.load rfl (Loads.Hk (vs := [.int .i64 q131.2.1.N, .slice A135 q131.2.1.Kids.length c136]) 2 rfl ta24 rfl rfl)) rfl rfl trivial Among.refl (by rintro _ _ _ ⟨_, _, _, _, h, _⟩; cases h) (by kernel_rfl) (listed' := #[true, true, true, false, true, false, false, true, true, false, false, false, false, false, false]) rfl ?_
                  refine StD.takeP (i := 9) (v := (.int .i64 s174.2)) rfl (fun _ => Yields.move rfl) rfl rfl trivial (by rintro _ _ _ ⟨_, _, _, _, h, _⟩; cases h) (by kernel_rfl) (listed' := #[true, true, true, false, true, false, false, true, true, true, false, false, false, false, false]) rfl ?_
                  obtain ⟨x197, e198, hm⟩ := bS hm
                  refine StD.two (i := 3) (j := 5) rfl rfl (by kernel_rfl) (l1 := #[true, true, true, true, true, false, false, true, true, true, false, false, false, false, false]) (l2 := #[true, true, true, false, true, true, false, true, true, true, false, false, false, false, false]) rfl rfl ?_ ?_
                  · intro hcl199
                    refine St.rowo_new 3 1 ?_
                    refine St.pushS (R := [blk pbl0 (.cells #[.slice A139 q131.2.2.2.length c140] 27 (0, 0)), blk b67 (.cells #[.slice A122 s105.2.2.1.length c123, .int .i64 s105.2.2.2.1, .int .i64 s105.2.2.2.2.1, .slice A126 s105.2.2.2.2.2.length c127] 58 (0, 0)), blk b145 (.cells #[.int .i64 q131.2.1.N, .slice A135 q131.2.1.Kids.length c136] 24 (0, 0)), rowo A139 q131.2.2.2.length c140 3 1 cells143, rowo A179 s174.1.length c180 58 4 cells182]) e198 ts27 rfl rfl rfl rfl 0 rfl rfl (show Cat (Kind.int .i64) _ [] [] from rfl) (Fsl.mono (PH.le_trans l134 l185) h124) rfl trivial ?_
                    intro A201 c202 cells203 h204
                    refine StD.next hcl199 (fun _ => (Among.of (Among.take 1 rfl rfl (Among.take 1 rfl rfl (Among.take 1 rfl rfl (Among.take 1 rfl rfl (Among.take 1 rfl rfl Among.none))))))) ?_
                    refine StD.only (i := 5) rfl (by kernel_rfl) (listed' := #[true, true, true, true, true, true, false, true, true, true, false, false, false, false, false]) rfl ?_
                    intro hcl206
                    refine St.buildSlice (e := 3) (cells := #[.int .i64 s174.2]) (vs := #[(0, .int .i64 s174.2)]) (fun _ ha => evp1 ha rfl) (fun _ => by kernel_rfl) rfl trivial ?_
                    intro b207
                    refine StD.next hcl206 (fun _ => (Among.of (Among.take 2 rfl rfl (Among.take 2 rfl rfl (Among.take 2 rfl rfl (Among.take 2 rfl rfl (Among.take 2 rfl rfl Among.none))))))) ?_
                    refine StD.only (i := 6) rfl (by kernel_rfl) (listed' := #[true, true, true, true, true, true, true, true, true, true, false, false, false, false, false]) rfl ?_
                    intro hcl208
                    obtain ⟨x213, e214, hm⟩ := bS hm
                    refine St.pushL (R := [blk b207 (.cells #[.int .i64 s174.2] 3 (0, 0)), blk pbl0 (.cells #[.slice A139 q131.2.2.2.length c140] 27 (0, 0)), blk b67 (.cells #[.slice A122 s105.2.2.1.length c123, .int .i64 s105.2.2.2.1, .int .i64 s105.2.2.2.2.1, .slice A126 s105.2.2.2.2.2.length c127] 58 (0, 0)), blk b145 (.cells #[.int .i64 q131.2.1.N, .slice A135 q131.2.1.Kids.length c136] 24 (0, 0)), rowo A139 q131.2.2.2.length c140 3 1 cells143, rowo A179 s174.1.length c180 58 4 cells182]) (R3 := [blk pbl0 (.cells #[.slice A139 q131.2.2.2.length c140] 27 (0, 0)), blk b67 (.cells #[.slice A122 s105.2.2.1.length c123, .int .i64 s105.2.2.2.1, .int .i64 s105.2.2.2.2.1, .slice A126 s105.2.2.2.2.2.length c127] 58 (0, 0)), blk b145 (.cells #[.int .i64 q131.2.1.N, .slice A135 q131.2.1.Kids.length c136] 24 (0, 0)), rowo A139 q131.2.2.2.length c140 3 1 cells143, rowo A179 s174.1.length c180 58 4 cells182]) e214 ts27 rfl rfl rfl rfl rfl 1 rfl rfl 0 rfl 0 rfl rfl h204 ⟨[.int .i64 s174.2], _, rfl, rfl, rfl⟩ rfl trivial ?_
                    intro A209 c210 cells211 h212
                    refine StD.next hcl208 (fun _ => (Among.of (Among.take 1 rfl rfl (Among.take 1 rfl rfl (Among.take 1 rfl rfl (Among.take 1 rfl rfl (Among.take 1 rfl rfl Among.none))))))) ?_
                    refine StD.only (i := 10) rfl (by kernel_rfl) (listed' := #[true, true, true, true, true, true, true, true, true, true, true, false, false, false, false]) rfl ?_
                    intro hcl216
                    obtain ⟨q217, e218, hm⟩ := bS hm
                    refine St.call [rowo A209 x213.length c210 3 1 cells211, blk pbl0 (.cells #[.slice A139 q131.2.2.2.length c140] 27 (0, 0)), blk b67 (.cells #[.slice A122 s105.2.2.1.length c123, .int .i64 s105.2.2.2.1, .int .i64 s105.2.2.2.2.1, .slice A126 s105.2.2.2.2.2.length c127] 58 (0, 0)), blk b145 (.cells #[.int .i64 q131.2.1.N, .slice A135 q131.2.1.Kids.length c136] 24 (0, 0)), rowo A139 q131.2.2.2.length c140 3 1 cells143, rowo A179 s174.1.length c180 58 4 cells182] (m_search_below_sp (a0 := q131.2.1) (Fsl.mono l185 h137) e218) rfl (fun _ ha => ev2 ha rfl rfl) rfl en19 rfl rfl trivial ?_
                    rintro _ F219 _ ⟨A221, c222, rfl, h223, rfl⟩ l220
                    refine StD.next hcl216 (fun h => by cases h) ?_
                    refine StD.takeP (i := 11) (v := (.agg #[.slice A209 x213.length c210, .int .i64 0, .int .i64 q217.N, .slice A221 q217.Kids.length c222])) rfl (fun _ => Yields.build (v := (.agg #[.slice A209 x213.length c210, .int .i64 0, .int .i64 q217.N, .slice A221 q217.Kids.length c222])) (vs := #[(0, .slice A209 x213.length c210), (2, .agg #[.int .i64 q217.N, .slice A221 q217.Kids.length c222])]) (fun _ ha => evp2 ha rfl rfl) (fun _ => by kernel_rfl)) rfl rfl trivial (by rintro _ _ _ ⟨_, _, _, _, h, _⟩; cases h) (by kernel_rfl) (listed' := #[true, true, true, true, true, true, true, true, true, true, true, true, false, false, false]) rfl ?_
                    refine StD.only (i := 12) rfl (by kernel_rfl) (listed' := #[true, true, true, true, true, true, true, true, true, true, true, true, true, false, false]) rfl ?_
                    intro hcl225
                    refine St.frz 0 rfl rfl rfl (Cat.mono l220 h212) (Bnd.of_push e214) ?_
                    intro F226 l227 h228
                    refine St.buildSlice (e := 58) (cells := #[.slice A209 x213.length c210, .int .i64 0, .int .i64 q217.N, .slice A221 q217.Kids.length c222]) (vs := #[(0, .agg #[.slice A209 x213.length c210, .int .i64 0, .int .i64 q217.N, .slice A221 q217.Kids.length c222])]) (fun _ ha => evp1 ha rfl) (fun _ => by kernel_rfl) rfl trivial ?_
                    intro b229
                    refine StD.next hcl225 (fun h => by cases h) ?_
                    refine StD.only (i := 13) rfl (by kernel_rfl) (listed' := #[true, true, true, true, true, true, true, true, true, true, true, true, true, true, false]) rfl ?_
                    intro hcl230
                    obtain ⟨x235, e236, hm⟩ := bS hm
                    refine St.pushL (R := [blk b229 (.cells #[.slice A209 x213.length c210, .int .i64 0, .int .i64 q217.N, .slice A221 q217.Kids.length c222] 58 (0, 0)), blk pbl0 (.cells #[.slice A139 q131.2.2.2.length c140] 27 (0, 0)), blk b67 (.cells #[.slice A122 s105.2.2.1.length c123, .int .i64 s105.2.2.2.1, .int .i64 s105.2.2.2.2.1, .slice A126 s105.2.2.2.2.2.length c127] 58 (0, 0)), blk b145 (.cells #[.int .i64 q131.2.1.N, .slice A135 q131.2.1.Kids.length c136] 24 (0, 0)), rowo A139 q131.2.2.2.length c140 3 1 cells143]) (R3 := [blk pbl0 (.cells #[.slice A139 q131.2.2.2.length c140] 27 (0, 0)), blk b67 (.cells #[.slice A122 s105.2.2.1.length c123, .int .i64 s105.2.2.2.1, .int .i64 s105.2.2.2.2.1, .slice A126 s105.2.2.2.2.2.length c127] 58 (0, 0)), blk b145 (.cells #[.int .i64 q131.2.1.N, .slice A135 q131.2.1.Kids.length c136] 24 (0, 0)), rowo A139 q131.2.2.2.length c140 3 1 cells143]) e236 ts53 rfl rfl rfl rfl rfl 5 rfl rfl 0 rfl 0 rfl rfl (Cat.mono (PH.le_trans l220 l227) h181) ⟨[.slice A209 x213.length c210, .int .i64 0, .int .i64 q217.N, .slice A221 q217.Kids.length c222], _, rfl, (DPlace.shut h228 (Fsl.mono l227 h223)), rfl⟩ rfl trivial ?_
                    intro A231 c232 cells233 h234
                    refine StD.next hcl230 (fun h => by cases h) ?_
                    refine StD.takeP (i := 14) (v := (.slice A231 x235.length c232)) rfl (fun _ => Yields.assign rfl) rfl rfl trivial (by rintro _ _ _ ⟨_, _, _, _, h, _⟩; cases h) (by kernel_rfl) (listed' := #[true, true, true, true, true, true, true, true, true, true, true, true, true, true, true]) rfl ?_
                    refine StD.done (by kernel_rfl) ?_
                    refine St.innorm ?_
                    obtain rfl := sI hm
                    intro a w ha hs
                    exact ⟨A231, c232, cells233, F226, (PH.le_trans l220 l227), h234, (Bnd.of_push e236), ha.covers ⟨rfl, rfl, rfl, rfl, rfl, rfl, rfl, rfl, trivial⟩, (Among.of (Among.take 1 rfl rfl (Among.take 1 rfl rfl (Among.take 1 rfl rfl (Among.take 1 rfl rfl (Among.take 0 rfl rfl Among.none))))) _ hs)⟩
                  · intro hcl238
                    refine St.buildSlice (e := 3) (cells := #[.int .i64 s174.2]) (vs := #[(0, .int .i64 s174.2)]) (fun _ ha => evp1 ha rfl) (fun _ => by kernel_rfl) rfl trivial ?_
                    intro b239
                    refine StD.next hcl238 (fun _ => (Among.of (Among.take 1 rfl rfl (Among.take 1 rfl rfl (Among.take 1 rfl rfl (Among.take 1 rfl rfl (Among.take 1 rfl rfl Among.none))))))) ?_
                    refine StD.only (i := 3) rfl (by kernel_rfl) (listed' := #[true, true, true, true, true, true, false, true, true, true, false, false, false, false, false]) rfl ?_
                    intro hcl240
                    refine St.rowo_new 3 1 ?_
                    refine St.pushS (R := [blk b239 (.cells #[.int .i64 s174.2] 3 (0, 0)), blk pbl0 (.cells #[.slice A139 q131.2.2.2.length c140] 27 (0, 0)), blk b67 (.cells #[.slice A122 s105.2.2.1.length c123, .int .i64 s105.2.2.2.1, .int .i64 s105.2.2.2.2.1, .slice A126 s105.2.2.2.2.2.length c127] 58 (0, 0)), blk b145 (.cells #[.int .i64 q131.2.1.N, .slice A135 q131.2.1.Kids.length c136] 24 (0, 0)), rowo A139 q131.2.2.2.length c140 3 1 cells143, rowo A179 s174.1.length c180 58 4 cells182]) e198 ts27 rfl rfl rfl rfl 0 rfl rfl (show Cat (Kind.int .i64) _ [] [] from rfl) (Fsl.mono (PH.le_trans l134 l185) h124) rfl trivial ?_
                    intro A242 c243 cells244 h245
                    refine StD.next hcl240 (fun _ => (Among.of (Among.take 2 rfl rfl (Among.take 2 rfl rfl (Among.take 2 rfl rfl (Among.take 2 rfl rfl (Among.take 2 rfl rfl Among.none))))))) ?_
                    refine StD.only (i := 6) rfl (by kernel_rfl) (listed' := #[true, true, true, true, true, true, true, true, true, true, false, false, false, false, false]) rfl ?_
                    intro hcl247
                    obtain ⟨x252, e253, hm⟩ := bS hm
                    refine St.pushL (R := [blk b239 (.cells #[.int .i64 s174.2] 3 (0, 0)), blk pbl0 (.cells #[.slice A139 q131.2.2.2.length c140] 27 (0, 0)), blk b67 (.cells #[.slice A122 s105.2.2.1.length c123, .int .i64 s105.2.2.2.1, .int .i64 s105.2.2.2.2.1, .slice A126 s105.2.2.2.2.2.length c127] 58 (0, 0)), blk b145 (.cells #[.int .i64 q131.2.1.N, .slice A135 q131.2.1.Kids.length c136] 24 (0, 0)), rowo A139 q131.2.2.2.length c140 3 1 cells143, rowo A179 s174.1.length c180 58 4 cells182]) (R3 := [blk pbl0 (.cells #[.slice A139 q131.2.2.2.length c140] 27 (0, 0)), blk b67 (.cells #[.slice A122 s105.2.2.1.length c123, .int .i64 s105.2.2.2.1, .int .i64 s105.2.2.2.2.1, .slice A126 s105.2.2.2.2.2.length c127] 58 (0, 0)), blk b145 (.cells #[.int .i64 q131.2.1.N, .slice A135 q131.2.1.Kids.length c136] 24 (0, 0)), rowo A139 q131.2.2.2.length c140 3 1 cells143, rowo A179 s174.1.length c180 58 4 cells182]) e253 ts27 rfl rfl rfl rfl rfl 0 rfl rfl 1 rfl 0 rfl rfl h245 ⟨[.int .i64 s174.2], _, rfl, rfl, rfl⟩ rfl trivial ?_
                    intro A248 c249 cells250 h251
                    refine StD.next hcl247 (fun _ => (Among.of (Among.take 1 rfl rfl (Among.take 1 rfl rfl (Among.take 1 rfl rfl (Among.take 1 rfl rfl (Among.take 1 rfl rfl Among.none))))))) ?_
                    refine StD.only (i := 10) rfl (by kernel_rfl) (listed' := #[true, true, true, true, true, true, true, true, true, true, true, false, false, false, false]) rfl ?_
                    intro hcl255
                    obtain ⟨q256, e257, hm⟩ := bS hm
                    refine St.call [rowo A248 x252.length c249 3 1 cells250, blk pbl0 (.cells #[.slice A139 q131.2.2.2.length c140] 27 (0, 0)), blk b67 (.cells #[.slice A122 s105.2.2.1.length c123, .int .i64 s105.2.2.2.1, .int .i64 s105.2.2.2.2.1, .slice A126 s105.2.2.2.2.2.length c127] 58 (0, 0)), blk b145 (.cells #[.int .i64 q131.2.1.N, .slice A135 q131.2.1.Kids.length c136] 24 (0, 0)), rowo A139 q131.2.2.2.length c140 3 1 cells143, rowo A179 s174.1.length c180 58 4 cells182] (m_search_below_sp (a0 := q131.2.1) (Fsl.mono l185 h137) e257) rfl (fun _ ha => ev2 ha rfl rfl) rfl en19 rfl rfl trivial ?_
                    rintro _ F258 _ ⟨A260, c261, rfl, h262, rfl⟩ l259
                    refine StD.next hcl255 (fun h => by cases h) ?_
                    refine StD.takeP (i := 11) (v := (.agg #[.slice A248 x252.length c249, .int .i64 0, .int .i64 q256.N, .slice A260 q256.Kids.length c261])) rfl (fun _ => Yields.build (v := (.agg #[.slice A248 x252.length c249, .int .i64 0, .int .i64 q256.N, .slice A260 q256.Kids.length c261])) (vs := #[(0, .slice A248 x252.length c249), (2, .agg #[.int .i64 q256.N, .slice A260 q256.Kids.length c261])]) (fun _ ha => evp2 ha rfl rfl) (fun _ => by kernel_rfl)) rfl rfl trivial (by rintro _ _ _ ⟨_, _, _, _, h, _⟩; cases h) (by kernel_rfl) (listed' := #[true, true, true, true, true, true, true, true, true, true, true, true, false, false, false]) rfl ?_
                    refine StD.only (i := 12) rfl (by kernel_rfl) (listed' := #[true, true, true, true, true, true, true, true, true, true, true, true, true, false, false]) rfl ?_
                    intro hcl264
                    refine St.frz 0 rfl rfl rfl (Cat.mono l259 h251) (Bnd.of_push e253) ?_
                    intro F265 l266 h267
                    refine St.buildSlice (e := 58) (cells := #[.slice A248 x252.length c249, .int .i64 0, .int .i64 q256.N, .slice A260 q256.Kids.length c261]) (vs := #[(0, .agg #[.slice A248 x252.length c249, .int .i64 0, .int .i64 q256.N, .slice A260 q256.Kids.length c261])]) (fun _ ha => evp1 ha rfl) (fun _ => by kernel_rfl) rfl trivial ?_
                    intro b268
                    refine StD.next hcl264 (fun h => by cases h) ?_
                    refine StD.only (i := 13) rfl (by kernel_rfl) (listed' := #[true, true, true, true, true, true, true, true, true, true, true, true, true, true, false]) rfl ?_
                    intro hcl269
                    obtain ⟨x274, e275, hm⟩ := bS hm
                    refine St.pushL (R := [blk b268 (.cells #[.slice A248 x252.length c249, .int .i64 0, .int .i64 q256.N, .slice A260 q256.Kids.length c261] 58 (0, 0)), blk pbl0 (.cells #[.slice A139 q131.2.2.2.length c140] 27 (0, 0)), blk b67 (.cells #[.slice A122 s105.2.2.1.length c123, .int .i64 s105.2.2.2.1, .int .i64 s105.2.2.2.2.1, .slice A126 s105.2.2.2.2.2.length c127] 58 (0, 0)), blk b145 (.cells #[.int .i64 q131.2.1.N, .slice A135 q131.2.1.Kids.length c136] 24 (0, 0)), rowo A139 q131.2.2.2.length c140 3 1 cells143]) (R3 := [blk pbl0 (.cells #[.slice A139 q131.2.2.2.length c140] 27 (0, 0)), blk b67 (.cells #[.slice A122 s105.2.2.1.length c123, .int .i64 s105.2.2.2.1, .int .i64 s105.2.2.2.2.1, .slice A126 s105.2.2.2.2.2.length c127] 58 (0, 0)), blk b145 (.cells #[.int .i64 q131.2.1.N, .slice A135 q131.2.1.Kids.length c136] 24 (0, 0)), rowo A139 q131.2.2.2.length c140 3 1 cells143]) e275 ts53 rfl rfl rfl rfl rfl 5 rfl rfl 0 rfl 0 rfl rfl (Cat.mono (PH.le_trans l259 l266) h181) ⟨[.slice A248 x252.length c249, .int .i64 0, .int .i64 q256.N, .slice A260 q256.Kids.length c261], _, rfl, (DPlace.shut h267 (Fsl.mono l266 h262)), rfl⟩ rfl trivial ?_
                    intro A270 c271 cells272 h273
                    refine StD.next hcl269 (fun h => by cases h) ?_
                    refine StD.takeP (i := 14) (v := (.slice A270 x274.length c271)) rfl (fun _ => Yields.assign rfl) rfl rfl trivial (by rintro _ _ _ ⟨_, _, _, _, h, _⟩; cases h) (by kernel_rfl) (listed' := #[true, true, true, true, true, true, true, true, true, true, true, true, true, true, true]) rfl ?_
                    refine StD.done (by kernel_rfl) ?_
                    refine St.innorm ?_
                    obtain rfl := sI hm
                    intro a w ha hs
                    exact ⟨A270, c271, cells272, F265, (PH.le_trans l259 l266), h273, (Bnd.of_push e275), ha.covers ⟨rfl, rfl, rfl, rfl, rfl, rfl, rfl, rfl, trivial⟩, (Among.of (Among.take 1 rfl rfl (Among.take 1 rfl rfl (Among.take 1 rfl rfl (Among.take 1 rfl rfl (Among.take 0 rfl rfl Among.none))))) _ hs)⟩
                · rintro a w ⟨A191, c192, cells194, F188, l189, h193, b195, ha, hs⟩
                  replace hm := hk196
                  refine St.use (?_ : St _ _ _ _ _ _) ha hs
                  clear ha hs a w
                  refine St.region ?_
                  refine St.val (v := (.int .i64 s174.2)) (Yields.move rfl) trivial rfl rfl ?_
                  refine St.val (v := (.int .i64 (Mir.w64 (s174.2 + 1)))) (Yields.addw rfl rfl) trivial rfl rfl ?_
                  refine St.val (v := (.int .i64 (Mir.w64 (s174.2 + 1)))) (Yields.assign rfl) trivial rfl rfl ?_
                  refine St.nil ?_
                  refine St.norm ?_
                  obtain rfl := sI hm
                  intro a w ha hs
                  exact ⟨(z187, Mir.w64 (s174.2 + 1)), aL ho177, A191, c192, cells194, F188, (PH.le_trans l185 l189), h193, b195, ha.covers ⟨rfl, rfl, rfl, rfl, rfl, rfl, rfl, rfl, trivial⟩, (Among.of (Among.take 0 rfl rfl (Among.take 0 rfl rfl (Among.take 0 rfl rfl (Among.take 0 rfl rfl (Among.take 0 rfl rfl Among.none))))) _ hs)⟩
              · intro q277
                replace q277 : ¬ (s174.2 < q131.1) := of_decide_eq_false q277
                replace hm := iF hm q277
                refine St.exit ?_
                refine St.thenexit ?_
                refine St.thenexit ?_
                refine St.inexit ?_
                obtain rfl := sI hm
                obtain rfl := aR ho177
                intro a w ha hs
                exact ⟨A179, c180, cells182, F184, l185, h181, b183, ha.covers ⟨rfl, rfl, rfl, rfl, rfl, rfl, rfl, trivial⟩, (Among.of (Among.take 0 rfl rfl (Among.take 0 rfl rfl (Among.take 0 rfl rfl (Among.take 0 rfl rfl (Among.take 0 rfl rfl Among.none))))) _ hs)⟩
          · rintro a w ⟨A150, c151, cells153, F147, l148, h152, b154, ha, hs⟩
            replace hm := hk155
            refine St.use (?_ : St _ _ _ _ _ _) ha hs
            clear ha hs a w
            refine St.seq ?_
            refine St.seq ?_
            refine St.region ?_
            refine St.val (v := (.bool q131.2.2.1)) (Yields.move rfl) trivial rfl rfl ?_
            refine St.val (v := (.bool (!q131.2.2.1))) (Yields.not rfl) trivial rfl rfl ?_
            refine St.nil ?_
            refine St.norm ?_
            refine St.cond_b rfl ?_ ?_
            · intro q278
              replace q278 : ¬ (q131.2.2.1 = true) := nb_t q278
              replace hm := iF hm q278
              obtain ⟨z279, hm, hk280⟩ := bS hm
              refine St.cutI (fun a w => Has Try.f28.ntmps a [(6, .bool z279)] ∧ Sat ⟨w0, fun b => m0 b ≠ none, F⟩ F147 [blk pbl0 (.cells #[.slice A139 q131.2.2.2.length c140] 27 (0, 0)), rowo A139 q131.2.2.2.length c140 3 1 cells143] w) ?_ ?_
              · skip
                refine St.region ?_
                refine St.val (v := (.int .i64 q131.1)) (Yields.move rfl) trivial rfl rfl ?_
                by_cases q281 : q131.1 > 0
                · replace hm := iT hm q281
                  refine St.val (v := (.bool true)) (Yields.is q281 (Yields.gt rfl rfl)) trivial rfl rfl ?_
                  refine St.val (v := (.bool true)) (Yields.move rfl) trivial rfl rfl ?_
                  refine St.unwanted rfl rfl rfl ?_
                  refine St.unwanted rfl rfl rfl ?_
                  refine St.unwanted rfl rfl rfl ?_
                  refine St.val (v := (.bool true)) (Yields.pick_t rfl rfl) trivial rfl rfl ?_
                  refine St.val (v := (.bool true)) (Yields.assign rfl) trivial rfl rfl ?_
                  refine St.nil ?_
                  obtain rfl := sI hm
                  intro a w ha hs
                  exact ⟨ha.covers ⟨rfl, trivial⟩, (Among.of (Among.take 0 rfl rfl (Among.take 2 rfl rfl Among.none)) _ hs)⟩
                · replace hm := iF hm q281
                  refine St.val (v := (.bool false)) (Yields.isnt q281 (Yields.gt rfl rfl)) trivial rfl rfl ?_
                  refine St.val (v := (.bool false)) (Yields.move rfl) trivial rfl rfl ?_
                  refine St.val (v := (.slice A150 z146.length c151)) (Yields.move rfl) rfl rfl rfl ?_
                  refine St.val (v := (.int .i64 ((z146.length : Nat) : Int))) (Yields.lenSlice tu53 rfl) rfl rfl rfl ?_
                  refine St.val (v := (.bool (decide (((z146.length : Nat) : Int) > 0)))) (Yields.gt rfl rfl) rfl rfl rfl ?_
                  refine St.val (v := (.bool (decide (((z146.length : Nat) : Int) > 0)))) (Yields.pick_f rfl rfl) trivial rfl rfl ?_
                  refine St.val (v := (.bool (decide (((z146.length : Nat) : Int) > 0)))) (Yields.assign rfl) trivial rfl rfl ?_
                  refine St.nil ?_
                  obtain rfl := sI hm
                  intro a w ha hs
                  exact ⟨ha.covers ⟨rfl, trivial⟩, (Among.of (Among.take 0 rfl rfl (Among.take 2 rfl rfl Among.none)) _ hs)⟩
              · rintro a w ⟨ha, hs⟩
                replace hm := hk280
                refine St.use (?_ : St _ _ _ _ _ _) ha hs
                clear ha hs a w
                refine St.ret ?_
                refine St.thenret ?_
                refine St.inret ?_
                refine St.thenret ?_
                refine St.inret ?_
                refine St.inret ?_
                refine St.thenret ?_
                refine St.inret ?_
                refine St.thenret ?_
                obtain rfl := sI hm
                obtain rfl := aR ho108
                obtain rfl := aR ho35
                obtain rfl := aR ho16
                exact St.doneR1 rfl rfl ⟨A139, c140, cells143, rfl, (Cat.mono l148 h141), b144, rfl⟩ (fun w hs => Among.of (Among.take 0 rfl rfl (Among.take 0 rfl rfl Among.none)) w hs)
            · intro q282
              replace q282 : q131.2.2.1 = true := nb_f q282
              replace hm := iT hm q282
              refine St.skip ?_
              refine St.norm ?_
              refine St.seq ?_
              refine St.seq ?_
              refine St.region ?_
              refine St.val (v := (.int .i64 q131.1)) (Yields.move rfl) trivial rfl rfl ?_
              refine St.val (v := (.bool (decide (q131.1 = 0)))) (Yields.eq rfl rfl) trivial rfl rfl ?_
              refine St.nil ?_
              refine St.norm ?_
              refine St.cond_b rfl ?_ ?_
              · intro q283
                replace q283 : q131.1 = 0 := of_decide_eq_true q283
                replace hm := iT hm q283
                refine St.exit ?_
                refine St.thenexit ?_
                refine St.inpass rfl ?_
                refine St.thenexit ?_
                refine St.inexit ?_
                refine St.innorm ?_
                refine St.norm ?_
                obtain rfl := sI hm
                obtain rfl := aR ho108
                intro a w ha hs
                exact ⟨(q131.2.2.2, z146), aL ho35, A139, c140, cells143, A150, c151, cells153, F147, (PH.le_trans l49 (PH.le_trans l130 (PH.le_trans l134 l148))), (Cat.mono l148 h141), b144, h152, b154, ha.covers ⟨rfl, rfl, rfl, trivial⟩, (Among.of (Among.take 0 rfl rfl (Among.take 2 rfl rfl (Among.take 2 rfl rfl Among.none))) _ hs)⟩
              · intro q284
                replace q284 : ¬ (q131.1 = 0) := of_decide_eq_false q284
                replace hm := iF hm q284
                refine St.skip ?_
                refine St.norm ?_
                refine StD.start [7, 9] [blk pbl0 (.cells #[.slice A139 q131.2.2.2.length c140] 27 (0, 0)), blk b67 (.cells #[.slice A122 s105.2.2.1.length c123, .int .i64 s105.2.2.2.1, .int .i64 s105.2.2.2.2.1, .slice A126 s105.2.2.2.2.2.length c127] 58 (0, 0)), blk b145 (.cells #[.int .i64 q131.2.1.N, .slice A135 q131.2.1.Kids.length c136] 24 (0, 0)), rowo A139 q131.2.2.2.length c140 3 1 cells143, rowo A150 z146.length c151 58 4 cells153] hmix ?_
                refine StD.takeP (i := 0) (v := (.pointer (some ⟨b67, 0, none⟩))) rfl (fun _ => Yields.fieldAddr (v := (.pointer (some ⟨b67, 0, none⟩))) rfl (fun _ => by kernel_rfl)) rfl rfl trivial (by rintro _ _ _ ⟨_, _, _, _, h, _⟩; cases h) (by kernel_rfl) (listed' := #[true, false, false, false, false, false, false, false, false, false]) rfl ?_
                refine StD.take [0, 5, 8] (i := 1) (v := (.slice A122 s105.2.2.1.length c123)) rfl (Yields.load rfl (Loads.H1 1 rfl tc27 rfl)) rfl rfl trivial Among.refl (by rintro _ _ _ ⟨_, _, _, _, h, _⟩; cases h) (by kernel_rfl) (listed' := #[true, true, false, false, false, false, false, false, false, false]) rfl ?_
                refine StD.takeP (i := 5) (v := (.func (.func 19) #[] #[])) rfl (fun _ => Yields.move rfl) rfl rfl trivial (by rintro _ _ _ ⟨_, _, _, _, h, _⟩; cases h) (by kernel_rfl) (listed' := #[true, true, false, false, false, true, false, false, false, false]) rfl ?_
                refine StD.take [0, 5, 8] (i := 6) (v := (.agg #[.int .i64 q131.2.1.N, .slice A135 q131.2.1.Kids.length c136])) rfl (Yields.load rfl (Loads.Hk (vs := [.int .i64 q131.2.1.N, .slice A135 q131.2.1.Kids.length c136]) 2 rfl ta24 rfl rfl)) rfl rfl trivial Among.refl (by rintro _ _ _ ⟨_, _, _, _, h, _⟩; cases h) (by kernel_rfl) (listed' := #[true, true, false, false, false, true, true, false, false, false]) rfl ?_
                obtain ⟨x285, e286, hm⟩ := bS hm
                refine StD.two (i := 2) (j := 3) rfl rfl (by kernel_rfl) (l1 := #[true, true, true, false, false, true, true, false, false, false]) (l2 := #[true, true, false, true, false, true, true, false, false, false]) rfl rfl ?_ ?_
                · intro hcl287
                  refine St.rowo_new 3 1 ?_
                  refine St.pushS (R := [blk pbl0 (.cells #[.slice A139 q131.2.2.2.length c140] 27 (0, 0)), blk b67 (.cells #[.slice A122 s105.2.2.1.length c123, .int .i64 s105.2.2.2.1, .int .i64 s105.2.2.2.2.1, .slice A126 s105.2.2.2.2.2.length c127] 58 (0, 0)), blk b145 (.cells #[.int .i64 q131.2.1.N, .slice A135 q131.2.1.Kids.length c136] 24 (0, 0)), rowo A139 q131.2.2.2.length c140 3 1 cells143, rowo A150 z146.length c151 58 4 cells153]) e286 ts27 rfl rfl rfl rfl 0 rfl rfl (show Cat (Kind.int .i64) _ [] [] from rfl) (Fsl.mono (PH.le_trans l134 l148) h124) rfl trivial ?_
                  intro A289 c290 cells291 h292
                  refine StD.next hcl287 (fun _ => (Among.of (Among.take 1 rfl rfl (Among.take 1 rfl rfl (Among.take 1 rfl rfl (Among.take 1 rfl rfl (Among.take 1 rfl rfl Among.none))))))) ?_
                  refine StD.only (i := 3) rfl (by kernel_rfl) (listed' := #[true, true, true, true, false, true, true, false, false, false]) rfl ?_
                  intro hcl294
                  refine St.buildSlice (e := 3) (cells := #[.int .i64 0]) (vs := #[(0, .int .i64 0)]) (fun a _ => by simp only [List.map_toArray, List.map_cons, List.map_nil, Act.eval] <;> rfl) (fun _ => by kernel_rfl) rfl trivial ?_
                  intro b295
                  refine StD.next hcl294 (fun _ => (Among.of (Among.take 2 rfl rfl (Among.take 2 rfl rfl (Among.take 2 rfl rfl (Among.take 2 rfl rfl (Among.take 2 rfl rfl Among.none))))))) ?_
                  refine StD.only (i := 4) rfl (by kernel_rfl) (listed' := #[true, true, true, true, true, true, true, false, false, false]) rfl ?_
                  intro hcl296
                  obtain ⟨x301, e302, hm⟩ := bS hm
                  refine St.pushL (R := [blk b295 (.cells #[.int .i64 0] 3 (0, 0)), blk pbl0 (.cells #[.slice A139 q131.2.2.2.length c140] 27 (0, 0)), blk b67 (.cells #[.slice A122 s105.2.2.1.length c123, .int .i64 s105.2.2.2.1, .int .i64 s105.2.2.2.2.1, .slice A126 s105.2.2.2.2.2.length c127] 58 (0, 0)), blk b145 (.cells #[.int .i64 q131.2.1.N, .slice A135 q131.2.1.Kids.length c136] 24 (0, 0)), rowo A139 q131.2.2.2.length c140 3 1 cells143, rowo A150 z146.length c151 58 4 cells153]) (R3 := [blk pbl0 (.cells #[.slice A139 q131.2.2.2.length c140] 27 (0, 0)), blk b67 (.cells #[.slice A122 s105.2.2.1.length c123, .int .i64 s105.2.2.2.1, .int .i64 s105.2.2.2.2.1, .slice A126 s105.2.2.2.2.2.length c127] 58 (0, 0)), blk b145 (.cells #[.int .i64 q131.2.1.N, .slice A135 q131.2.1.Kids.length c136] 24 (0, 0)), rowo A139 q131.2.2.2.length c140 3 1 cells143, rowo A150 z146.length c151 58 4 cells153]) e302 ts27 rfl rfl rfl rfl rfl 1 rfl rfl 0 rfl 0 rfl rfl h292 ⟨[.int .i64 0], _, rfl, rfl, rfl⟩ rfl trivial ?_
                  intro A297 c298 cells299 h300
                  refine StD.next hcl296 (fun _ => (Among.of (Among.take 1 rfl rfl (Among.take 1 rfl rfl (Among.take 1 rfl rfl (Among.take 1 rfl rfl (Among.take 1 rfl rfl Among.none))))))) ?_
                  refine StD.only (i := 7) rfl (by kernel_rfl) (listed' := #[true, true, true, true, true, true, true, true, false, false]) rfl ?_
                  intro hcl304
                  obtain ⟨q305, e306, hm⟩ := bS hm
                  refine St.call [rowo A297 x301.length c298 3 1 cells299, blk pbl0 (.cells #[.slice A139 q131.2.2.2.length c140] 27 (0, 0)), blk b67 (.cells #[.slice A122 s105.2.2.1.length c123, .int .i64 s105.2.2.2.1, .int .i64 s105.2.2.2.2.1, .slice A126 s105.2.2.2.2.2.length c127] 58 (0, 0)), blk b145 (.cells #[.int .i64 q131.2.1.N, .slice A135 q131.2.1.Kids.length c136] 24 (0, 0)), rowo A139 q131.2.2.2.length c140 3 1 cells143, rowo A150 z146.length c151 58 4 cells153] (m_search_below_sp (a0 := q131.2.1) (Fsl.mono l148 h137) e306) rfl (fun _ ha => ev2 ha rfl rfl) rfl en19 rfl rfl trivial ?_
                  rintro _ F307 _ ⟨A309, c310, rfl, h311, rfl⟩ l308
                  refine StD.next hcl304 (fun h => by cases h) ?_
                  refine StD.takeP (i := 8) (v := (.agg #[.slice A297 x301.length c298, .int .i64 0, .int .i64 q305.N, .slice A309 q305.Kids.length c310])) rfl (fun _ => Yields.build (v := (.agg #[.slice A297 x301.length c298, .int .i64 0, .int .i64 q305.N, .slice A309 q305.Kids.length c310])) (vs := #[(0, .slice A297 x301.length c298), (2, .agg #[.int .i64 q305.N, .slice A309 q305.Kids.length c310])]) (fun _ ha => evp2 ha rfl rfl) (fun _ => by kernel_rfl)) rfl rfl trivial (by rintro _ _ _ ⟨_, _, _, _, h, _⟩; cases h) (by kernel_rfl) (listed' := #[true, true, true, true, true, true, true, true, true, false]) rfl ?_
                  refine StD.only (i := 9) rfl (by kernel_rfl) (listed' := #[true, true, true, true, true, true, true, true, true, true]) rfl ?_
                  intro hcl313
                  refine St.storen (R := [rowo A297 x301.length c298 3 1 cells299, blk pbl0 (.cells #[.slice A139 q131.2.2.2.length c140] 27 (0, 0)), blk b145 (.cells #[.int .i64 q131.2.1.N, .slice A135 q131.2.1.Kids.length c136] 24 (0, 0)), rowo A139 q131.2.2.2.length c140 3 1 cells143, rowo A150 z146.length c151 58 4 cells153]) rfl rfl 2 rfl rfl ta58 rfl rfl rfl trivial (cs' := #[.slice A297 x301.length c298, .int .i64 0, .int .i64 q305.N, .slice A309 q305.Kids.length c310]) rfl ?_
                  refine StD.next hcl313 (fun h => by cases h) ?_
                  refine StD.done (by kernel_rfl) ?_
                  refine St.innorm ?_
                  refine St.norm ?_
                  refine St.frz 1 rfl rfl rfl (Cat.mono l308 h300) (Bnd.of_push e302) ?_
                  intro F314 l315 h316
                  obtain rfl := sI hm
                  intro a w ha hs
                  exact ⟨(q131.2.2.2, z146, x301, (0 : Int), q305.N, q305.Kids), aL ho108, A139, c140, cells143, A150, c151, cells153, A297, c298, A309, c310, F314, (PH.le_trans l130 (PH.le_trans l134 (PH.le_trans l148 (PH.le_trans l308 l315)))), (Cat.mono (PH.le_trans l148 (PH.le_trans l308 l315)) h141), b144, (Cat.mono (PH.le_trans l308 l315) h152), b154, h316, (Fsl.mono l315 h311), ha.covers ⟨rfl, rfl, rfl, rfl, trivial⟩, (Among.of (Among.take 1 rfl rfl (Among.take 0 rfl rfl (Among.take 1 rfl rfl (Among.take 1 rfl rfl Among.none)))) _ hs)⟩
                · intro hcl317
                  refine St.buildSlice (e := 3) (cells := #[.int .i64 0]) (vs := #[(0, .int .i64 0)]) (fun a _ => by simp only [List.map_toArray, List.map_cons, List.map_nil, Act.eval] <;> rfl) (fun _ => by kernel_rfl) rfl trivial ?_
                  intro b318
                  refine StD.next hcl317 (fun _ => (Among.of (Among.take 1 rfl rfl (Among.take 1 rfl rfl (Among.take 1 rfl rfl (Among.take 1 rfl rfl (Among.take 1 rfl rfl Among.none))))))) ?_
                  refine StD.only (i := 2) rfl (by kernel_rfl) (listed' := #[true, true, true, true, false, true, true, false, false, false]) rfl ?_
                  intro hcl319
                  refine St.rowo_new 3 1 ?_
                  refine St.pushS (R := [blk b318 (.cells #[.int .i64 0] 3 (0, 0)), blk pbl0 (.cells #[.slice A139 q131.2.2.2.length c140] 27 (0, 0)), blk b67 (.cells #[.slice A122 s105.2.2.1.length c123, .int .i64 s105.2.2.2.1, .int .i64 s105.2.2.2.2.1, .slice A126 s105.2.2.2.2.2.length c127] 58 (0, 0)), blk b145 (.cells #[.int .i64 q131.2.1.N, .slice A135 q131.2.1.Kids.length c136] 24 (0, 0)), rowo A139 q131.2.2.2.length c140 3 1 cells143, rowo A150 z146.length c151 58 4 cells153]) e286 ts27 rfl rfl rfl rfl 0 rfl rfl (show Cat (Kind.int .i64) _ [] [] from rfl) (Fsl.mono (PH.le_trans l134 l148) h124) rfl trivial ?_
                  intro A321 c322 cells323 h324
                  refine StD.next hcl319 (fun _ => (Among.of (Among.take 2 rfl rfl (Among.take 2 rfl rfl (Among.take 2 rfl rfl (Among.take 2 rfl rfl (Among.take 2 rfl rfl Among.none))))))) ?_
                  refine StD.only (i := 4) rfl (by kernel_rfl) (listed' := #[true, true, true, true, true, true, true, false, false, false]) rfl ?_
                  intro hcl326
                  obtain ⟨x331, e332, hm⟩ := bS hm
                  refine St.pushL (R := [blk b318 (.cells #[.int .i64 0] 3 (0, 0)), blk pbl0 (.cells #[.slice A139 q131.2.2.2.length c140] 27 (0, 0)), blk b67 (.cells #[.slice A122 s105.2.2.1.length c123, .int .i64 s105.2.2.2.1, .int .i64 s105.2.2.2.2.1, .slice A126 s105.2.2.2.2.2.length c127] 58 (0, 0)), blk b145 (.cells #[.int .i64 q131.2.1.N, .slice A135 q131.2.1.Kids.length c136] 24 (0, 0)), rowo A139 q131.2.2.2.length c140 3 1 cells143, rowo A150 z146.length c151 58 4 cells153]) (R3 := [blk pbl0 (.cells #[.slice A139 q131.2.2.2.length c140] 27 (0, 0)), blk b67 (.cells #[.slice A122 s105.2.2.1.length c123, .int .i64 s105.2.2.2.1, .int .i64 s105.2.2.2.2.1, .slice A126 s105.2.2.2.2.2.length c127] 58 (0, 0)), blk b145 (.cells #[.int .i64 q131.2.1.N, .slice A135 q131.2.1.Kids.length c136] 24 (0, 0)), rowo A139 q131.2.2.2.length c140 3 1 cells143, rowo A150 z146.length c151 58 4 cells153]) e332 ts27 rfl rfl rfl rfl rfl 0 rfl rfl 1 rfl 0 rfl rfl h324 ⟨[.int .i64 0], _, rfl, rfl, rfl⟩ rfl trivial ?_
                  intro A327 c328 cells329 h330
                  refine StD.next hcl326 (fun _ => (Among.of (Among.take 1 rfl rfl (Among.take 1 rfl rfl (Among.take 1 rfl rfl (Among.take 1 rfl rfl (Among.take 1 rfl rfl Among.none))))))) ?_
                  refine StD.only (i := 7) rfl (by kernel_rfl) (listed' := #[true, true, true, true, true, true, true, true, false, false]) rfl ?_
                  intro hcl334
                  obtain ⟨q335, e336, hm⟩ := bS hm
                  refine St.call [rowo A327 x331.length c328 3 1 cells329, blk pbl0 (.cells #[.slice A139 q131.2.2.2.length c140] 27 (0, 0)), blk b67 (.cells #[.slice A122 s105.2.2.1.length c123, .int .i64 s105.2.2.2.1, .int .i64 s105.2.2.2.2.1, .slice A126 s105.2.2.2.2.2.length c127] 58 (0, 0)), blk b145 (.cells #[.int .i64 q131.2.1.N, .slice A135 q131.2.1.Kids.length c136] 24 (0, 0)), rowo A139 q131.2.2.2.length c140 3 1 cells143, rowo A150 z146.length c151 58 4 cells153] (m_search_below_sp (a0 := q131.2.1) (Fsl.mono l148 h137) e336) rfl (fun _ ha => ev2 ha rfl rfl) rfl en19 rfl rfl trivial ?_
                  rintro _ F337 _ ⟨A339, c340, rfl, h341, rfl⟩ l338
                  refine StD.next hcl334 (fun h => by cases h) ?_
                  refine StD.takeP (i := 8) (v := (.agg #[.slice A327 x331.length c328, .int .i64 0, .int .i64 q335.N, .slice A339 q335.Kids.length c340])) rfl (fun _ => Yields.build (v := (.agg #[.slice A327 x331.length c328, .int .i64 0, .int .i64 q335.N, .slice A339 q335.Kids.length c340])) (vs := #[(0, .slice A327 x331.length c328), (2, .agg #[.int .i64 q335.N, .slice A339 q335.Kids.length c340])]) (fun _ ha => evp2 ha rfl rfl) (fun _ => by kernel_rfl)) rfl rfl trivial (by rintro _ _ _ ⟨_, _, _, _, h, _⟩; cases h) (by kernel_rfl) (listed' := #[true, true, true, true, true, true, true, true, true, false]) rfl ?_
                  refine StD.only (i := 9) rfl (by kernel_rfl) (listed' := #[true, true, true, true, true, true, true, true, true, true]) rfl ?_
                  intro hcl343
                  refine St.storen (R := [rowo A327 x331.length c328 3 1 cells329, blk pbl0 (.cells #[.slice A139 q131.2.2.2.length c140] 27 (0, 0)), blk b145 (.cells #[.int .i64 q131.2.1.N, .slice A135 q131.2.1.Kids.length c136] 24 (0, 0)), rowo A139 q131.2.2.2.length c140 3 1 cells143, rowo A150 z146.length c151 58 4 cells153]) rfl rfl 2 rfl rfl ta58 rfl rfl rfl trivial (cs' := #[.slice A327 x331.length c328, .int .i64 0, .int .i64 q335.N, .slice A339 q335.Kids.length c340]) rfl ?_
                  refine StD.next hcl343 (fun h => by cases h) ?_
                  refine StD.done (by kernel_rfl) ?_
                  refine St.innorm ?_
                  refine St.norm ?_
                  refine St.frz 1 rfl rfl rfl (Cat.mono l338 h330) (Bnd.of_push e332) ?_
                  intro F344 l345 h346
                  obtain rfl := sI hm
                  intro a w ha hs
                  exact ⟨(q131.2.2.2, z146, x331, (0 : Int), q335.N, q335.Kids), aL ho108, A139, c140, cells143, A150, c151, cells153, A327, c328, A339, c340, F344, (PH.le_trans l130 (PH.le_trans l134 (PH.le_trans l148 (PH.le_trans l338 l345)))), (Cat.mono (PH.le_trans l148 (PH.le_trans l338 l345)) h141), b144, (Cat.mono (PH.le_trans l338 l345) h152), b154, h346, (Fsl.mono l345 h341), ha.covers ⟨rfl, rfl, rfl, rfl, trivial⟩, (Among.of (Among.take 1 rfl rfl (Among.take 0 rfl rfl (Among.take 1 rfl rfl (Among.take 1 rfl rfl Among.none)))) _ hs)⟩
      · intro q347
        replace q347 : ¬ (((s32.2.length : Nat) : Int) > 0) := of_decide_eq_false q347
        replace hm := iF hm q347
        refine St.exit ?_
        refine St.thenexit ?_
        refine St.thenexit ?_
        refine St.inexit ?_
        obtain rfl := sI hm
        obtain rfl := aR ho35
        intro a w ha hs
        exact ⟨s32.1, rfl, A37, c38, cells40, F48, l49, h39, b41, ha.covers trivial, (Among.of (Among.take 0 rfl rfl (Among.take 0 rfl rfl Among.none)) _ hs)⟩
  · rintro a w ⟨z6, rfl, A10, c11, cells13, F7, l8, h12, b14, ha, hs⟩
    replace hm := aL ho16
    refine St.use (?_ : St _ _ _ _ _ _) ha hs
    clear ha hs a w
    refine St.seq ?_
    refine St.region ?_
    refine St.val (v := (.bool false)) (Yields.assign rfl) trivial rfl rfl ?_
    refine St.nil ?_
    refine St.norm ?_
    refine St.ret ?_
    obtain rfl := sI hm
    exact St.doneR1 rfl rfl ⟨A10, c11, cells13, rfl, h12, b14, rfl⟩ (fun w hs => Among.of (Among.take 0 rfl rfl (Among.take 0 rfl rfl Among.none)) w hs)

theorem m_search_ranks_sp {F : PH} {g : Nat} {r : (List (Int × Nat))} (hm : m_search_ranks g = some r) :
    CallSp Try.prog 29 #[] F [] (fun u F' H' => ∃ (nb0 : Nat) (ws0 : List (Int × Value)), u = (.map (some nb0)) ∧ Mrel Kfn false F' ws0 r ∧ FnIn [36, 37, 38, 39] r ∧ H' = [mapv keyInt nb0 ws0]) := by
  unfold m_search_ranks at hm
  refine CallSp.enter (args := []) Try.func29 rfl rfl ?_
  intro w0 m0 hm0
  refine St.seq ?_
  refine St.region ?_
  refine St.val (v := (.map none)) (Yields.assign rfl) trivial rfl rfl ?_
  refine St.nil ?_
  refine St.norm ?_
  refine St.seq ?_
  refine St.region ?_
  refine St.newMap (P := Try.prog) keyInt trivial rfl ?_
  intro b1
  obtain ⟨x3, e4, hm⟩ := bS hm
  refine St.mapInsK (R := []) e4 (show Mrel Kfn false _ [] ([] : List (Int × Nat)) from trivial) ⟨[.func (.func 36) #[] #[]], rfl, rfl⟩ rfl rfl rfl 0 rfl rfl tm51 tk51 trivial ?_
  intro vs5 h6
  obtain ⟨x8, e9, hm⟩ := bS hm
  refine St.mapInsK (R := []) e9 h6 ⟨[.func (.func 37) #[] #[]], rfl, rfl⟩ rfl rfl rfl 0 rfl rfl tm51 tk51 trivial ?_
  intro vs10 h11
  obtain ⟨x13, e14, hm⟩ := bS hm
  refine St.mapInsK (R := []) e14 h11 ⟨[.func (.func 38) #[] #[]], rfl, rfl⟩ rfl rfl rfl 0 rfl rfl tm51 tk51 trivial ?_
  intro vs15 h16
  obtain ⟨x18, e19, hm⟩ := bS hm
  refine St.mapInsK (R := []) e19 h16 ⟨[.func (.func 39) #[] #[]], rfl, rfl⟩ rfl rfl rfl 0 rfl rfl tm51 tk51 trivial ?_
  intro vs20 h21
  refine St.val (v := (.map (some b1))) (Yields.move rfl) trivial rfl rfl ?_
  refine St.val (v := (.map (some b1))) (Yields.assign rfl) trivial rfl rfl ?_
  refine St.nil ?_
  refine St.norm ?_
  refine St.ret ?_
  obtain rfl := sI hm
  exact St.doneR1 rfl rfl ⟨b1, vs20, rfl, h21, (FnIn.put (show 39 ∈ [36, 37, 38, 39] by decide) (fun p hp => by have q_ := (FnIn.put (show 38 ∈ [36, 37, 38] by decide) (fun p hp => by have q_ := (FnIn.put (show 37 ∈ [36, 37] by decide) (fun p hp => by have q_ := (FnIn.put (show 36 ∈ [36] by decide) FnIn.nil e4) p hp; simp at q_ ⊢; omega) e9) p hp; simp at q_ ⊢; omega) e14) p hp; simp at q_ ⊢; omega) e19), rfl⟩ (fun w hs => Among.of (Among.take 0 rfl rfl Among.none) w hs)

theorem m_api_STree_Push_sp {F : PH} {g : Nat} {a0 : DPlace} {a1 : List DPlace} {a2 : Nat} {pbl0 : Nat} {pA0_0 : Option Addr} {pc0_0 : Nat} {pA0_1 : Option Addr} {pc0_1 : Nat} {pA1 : Option Addr} {pc1 : Nat} {pcl1 : List Value} (ph0_0 : Fsl 8 (Kind.int .i64) F pA0_0 pc0_0 a0.l) (ph0_1 : Fsl 32 KDSTree F pA0_1 pc0_1 a0.x.Kids) (ph1 : Cat KDPlace F pcl1 a1) (pbd1 : Bnd 64 a1) (ph2 : a2 ∈ [36, 37, 38, 39]) {r : List DPlace} (hm : m_api_STree_Push g a0 a1 a2 = some r) :
    CallSp Try.prog 63 #[.pointer (some ⟨pbl0, 0, none⟩), .iface 58 (.agg #[.slice pA0_0 a0.l.length pc0_0, .int .i64 a0.rank, .int .i64 a0.x.N, .slice pA0_1 a0.x.Kids.length pc0_1])] F [blk pbl0 (.cells #[.slice pA1 a1.length pc1, .func (.func a2) #[] #[]] 55 (0, 0)), rowo pA1 a1.length pc1 58 4 pcl1] (fun u F' H' => ∃ (G1 : Option Addr) (e1 : Nat) (gl1 : List Value), u = (.tuple #[]) ∧ Cat KDPlace F' gl1 r ∧ Bnd 64 r ∧ H' = [blk pbl0 (.cells #[.slice G1 r.length e1, .func (.func a2) #[] #[]] 55 (0, 0)), rowo G1 r.length e1 58 4 gl1]) := by
  unfold m_api_STree_Push at hm
  refine CallSp.enter (args := [.pointer (some ⟨pbl0, 0, none⟩), .iface 58 (.agg #[.slice pA0_0 a0.l.length pc0_0, .int .i64 a0.rank, .int .i64 a0.x.N, .slice pA0_1 a0.x.Kids.length pc0_1])]) Try.func63 rfl rfl ?_
  intro w0 m0 hm0
  refine StD.start [8, 11] [blk pbl0 (.cells #[.slice pA1 a1.length pc1, .func (.func a2) #[] #[]] 55 (0, 0)), rowo pA1 a1.length pc1 58 4 pcl1] hmix ?_
  refine StD.takeP (i := 0) (v := (.pointer (some ⟨pbl0, 0, none⟩))) rfl (fun _ => Yields.move rfl) rfl rfl trivial (by rintro _ _ _ ⟨_, _, _, _, h, _⟩; cases h) (by kernel_rfl) (listed' := #[true, false, false, false, false, false, false, false, false, false, false, false]) rfl ?_
  refine StD.takeP (i := 1) (v := (.pointer (some ⟨pbl0, 0, none⟩))) rfl (fun _ => Yields.move rfl) rfl rfl trivial (by rintro _ _ _ ⟨_, _, _, _, h, _⟩; cases h) (by kernel_rfl) (listed' := #[true, true, false, false, false, false, false, false, false, false, false, false]) rfl ?_
  refine StD.takeP (i := 2) (v := (.pointer (some ⟨pbl0, 0, none⟩))) rfl (fun _ => Yields.nilCheck rfl) rfl rfl trivial (by rintro _ _ _ ⟨_, _, _, _, h, _⟩; cases h) (by kernel_rfl) (listed' := #[true, true, true, false, false, false, false, false, false, false, false, false]) rfl ?_
  refine StD.takeP (i := 3) (v := (.pointer (some ⟨pbl0, 0, none⟩))) rfl (fun _ => Yields.fieldAddr (v := (.pointer (some ⟨pbl0, 0, none⟩))) rfl (fun _ => by kernel_rfl)) rfl rfl trivial (by rintro _ _ _ ⟨_, _, _, _, h, _⟩; cases h) (by kernel_rfl) (listed' := #[true, true, true, true, false, false, false, false, false, false, false, false]) rfl ?_
  refine StD.take [0, 1, 2, 3, 5, 6, 9, 10] (i := 4) (v := (.slice pA1 a1.length pc1)) rfl (Yields.load rfl (Loads.H1 0 rfl tc53 rfl)) rfl rfl trivial Among.refl (by rintro _ _ _ ⟨_, _, _, _, h, _⟩; cases h) (by kernel_rfl) (listed' := #[true, true, true, true, true, false, false, false, false, false, false, false]) rfl ?_
  refine StD.takeP (i := 5) (v := (.iface 58 (.agg #[.slice pA0_0 a0.l.length pc0_0, .int .i64 a0.rank, .int .i64 a0.x.N, .slice pA0_1 a0.x.Kids.length pc0_1]))) rfl (fun _ => Yields.move rfl) rfl rfl trivial (by rintro _ _ _ ⟨_, _, _, _, h, _⟩; cases h) (by kernel_rfl) (listed' := #[true, true, true, true, true, true, false, false, false, false, false, false]) rfl ?_
  refine StD.takeP (i := 6) (v := (.agg #[.slice pA0_0 a0.l.length pc0_0, .int .i64 a0.rank, .int .i64 a0.x.N, .slice pA0_1 a0.x.Kids.length pc0_1])) rfl (fun _ => Yields.typeAssert tp58 rfl) rfl rfl trivial (by rintro _ _ _ ⟨_, _, _, _, h, _⟩; cases h) (by kernel_rfl) (listed' := #[true, true, true, true, true, true, true, false, false, false, false, false]) rfl ?_
  refine StD.only (i := 7) rfl (by kernel_rfl) (listed' := #[true, true, true, true, true, true, true, true, false, false, false, false]) rfl ?_
  intro hcl4
  refine St.buildSlice (e := 58) (cells := #[.slice pA0_0 a0.l.length pc0_0, .int .i64 a0.rank, .int .i64 a0.x.N, .slice pA0_1 a0.x.Kids.length pc0_1]) (vs := #[(0, .agg #[.slice pA0_0 a0.l.length pc0_0, .int .i64 a0.rank, .int .i64 a0.x.N, .slice pA0_1 a0.x.Kids.length pc0_1])]) (fun _ ha => evp1 ha rfl) (fun _ => by kernel_rfl) rfl trivial ?_
  intro b5
  refine StD.next hcl4 (fun _ => (Among.of (Among.take 1 rfl rfl (Among.take 1 rfl rfl Among.none)))) ?_
  refine StD.only (i := 8) rfl (by kernel_rfl) (listed' := #[true, true, true, true, true, true, true, true, true, false, false, false]) rfl ?_
  intro hcl6
  obtain ⟨x11, e12, hm⟩ := bS hm
  refine St.pushL (R := [blk b5 (.cells #[.slice pA0_0 a0.l.length pc0_0, .int .i64 a0.rank, .int .i64 a0.x.N, .slice pA0_1 a0.x.Kids.length pc0_1] 58 (0, 0)), blk pbl0 (.cells #[.slice pA1 a1.length pc1, .func (.func a2) #[] #[]] 55 (0, 0))]) (R3 := [blk pbl0 (.cells #[.slice pA1 a1.length pc1, .func (.func a2) #[] #[]] 55 (0, 0))]) e12 ts53 rfl rfl rfl rfl rfl 2 rfl rfl 0 rfl 0 rfl rfl ph1 ⟨[.slice pA0_0 a0.l.length pc0_0, .int .i64 a0.rank, .int .i64 a0.x.N, .slice pA0_1 a0.x.Kids.length pc0_1], _, rfl, (DPlace.of ph0_0 ph0_1), rfl⟩ rfl trivial ?_
  intro A7 c8 cells9 h10
  refine StD.next hcl6 (fun h => by cases h) ?_
  refine StD.takeP (i := 9) (v := (.pointer (some ⟨pbl0, 0, none⟩))) rfl (fun _ => Yields.nilCheck rfl) rfl rfl trivial (by rintro _ _ _ ⟨_, _, _, _, h, _⟩; cases h) (by kernel_rfl) (listed' := #[true, true, true, true, true, true, true, true, true, true, false, false]) rfl ?_
  refine StD.takeP (i := 10) (v := (.pointer (some ⟨pbl0, 0, none⟩))) rfl (fun _ => Yields.fieldAddr (v := (.pointer (some ⟨pbl0, 0, none⟩))) rfl (fun _ => by kernel_rfl)) rfl rfl trivial (by rintro _ _ _ ⟨_, _, _, _, h, _⟩; cases h) (by kernel_rfl) (listed' := #[true, true, true, true, true, true, true, true, true, true, true, false]) rfl ?_
  refine StD.only (i := 11) rfl (by kernel_rfl) (listed' := #[true, true, true, true, true, true, true, true, true, true, true, true]) rfl ?_
  intro hcl14
  refine St.store (R := [rowo A7 x11.length c8 58 4 cells9]) rfl rfl 1 rfl rfl tc53 rfl rfl trivial (cs' := #[.slice A7 x11.length c8, .func (.func a2) #[] #[]]) rfl ?_
  refine StD.next hcl14 (fun h => by cases h) ?_
  refine StD.done (by kernel_rfl) ?_
  obtain rfl := sI hm
  exact St.endR0 rfl ⟨A7, c8, cells9, rfl, h10, (Bnd.of_push e12), rfl⟩ (fun w hs => Among.of (Among.take 0 rfl rfl (Among.take 0 rfl rfl Among.none)) w hs)

theorem m_api_STree_Len_sp {F : PH} {g : Nat} {a0 : List DPlace} {a1 : Nat} {pbl0 : Nat} {pA0 : Option Addr} {pc0 : Nat} {pcl0 : List Value} (ph0 : Cat KDPlace F pcl0 a0) (pbd0 : Bnd 64 a0) (ph1 : a1 ∈ [36, 37, 38, 39]) {r : Int} (hm : m_api_STree_Len g a0 a1 = some r) :
    CallSp Try.prog 31 #[.pointer (some ⟨pbl0, 0, none⟩)] F [blk pbl0 (.cells #[.slice pA0 a0.length pc0, .func (.func a1) #[] #[]] 55 (0, 0)), rowo pA0 a0.length pc0 58 4 pcl0] (fun u F' H' => u = (.int .i64 r) ∧ H' = [blk pbl0 (.cells #[.slice pA0 a0.length pc0, .func (.func a1) #[] #[]] 55 (0, 0)), rowo pA0 a0.length pc0 58 4 pcl0]) := by
  unfold m_api_STree_Len at hm
  refine CallSp.enter (args := [.pointer (some ⟨pbl0, 0, none⟩)]) Try.func31 rfl rfl ?_
  intro w0 m0 hm0
  refine St.seq ?_
  refine St.region ?_
  refine St.val (v := (.int .i64 0)) (Yields.assign rfl) trivial rfl rfl ?_
  refine St.nil ?_
  refine St.norm ?_
  refine St.seq ?_
  refine St.region ?_
  refine St.val (v := (.pointer (some ⟨pbl0, 0, none⟩))) (Yields.move rfl) trivial rfl rfl ?_
  refine St.val (v := (.pointer (some ⟨pbl0, 0, none⟩))) (Yields.nilCheck rfl) trivial rfl rfl ?_
  refine St.val (v := (.pointer (some ⟨pbl0, 0, none⟩))) (Yields.fieldAddr (v := (.pointer (some ⟨pbl0, 0, none⟩))) rfl (fun _ => by kernel_rfl)) trivial rfl rfl ?_
  refine St.val (v := (.slice pA0 a0.length pc0)) (Yields.load rfl (Loads.H1 0 rfl tc53 rfl)) trivial rfl rfl ?_
  refine St.val (v := (.int .i64 ((a0.length : Nat) : Int))) (Yields.lenSlice tu53 rfl) trivial rfl rfl ?_
  refine St.val (v := (.int .i64 ((a0.length : Nat) : Int))) (Yields.assign rfl) trivial rfl rfl ?_
  refine St.nil ?_
  refine St.norm ?_
  refine St.ret ?_
  obtain rfl := sI hm
  exact St.doneR1 rfl rfl ⟨rfl, rfl⟩ (fun w hs => Among.of (Among.take 0 rfl rfl (Among.take 0 rfl rfl Among.none)) w hs)

theorem m_search_before_sp {F : PH} {g : Nat} {a0 : List Int} {a1 : List Int} {pA0 : Option Addr} {pc0 : Nat} {pA1 : Option Addr} {pc1 : Nat} (ph0 : Fsl 8 (Kind.int .i64) F pA0 pc0 a0) (ph1 : Fsl 8 (Kind.int .i64) F pA1 pc1 a1) {r : Bool} (hm : m_search_before g a0 a1 = some r) :
    CallSp Try.prog 65 #[.slice pA0 a0.length pc0, .slice pA1 a1.length pc1] F [] (fun u F' H' => u = (.bool r) ∧ H' = []) := by
  unfold m_search_before at hm
  refine CallSp.enter (args := [.slice pA0 a0.length pc0, .slice pA1 a1.length pc1]) Try.func65 rfl rfl ?_
  intro w0 m0 hm0
  refine St.seq ?_
  refine St.region ?_
  refine St.val (v := (.bool false)) (Yields.assign rfl) trivial rfl rfl ?_
  refine St.nil ?_
  refine St.norm ?_
  obtain ⟨o4, hm, ho5⟩ := jS hm
  refine St.cutI (fun a w => ∃ z3 : Unit, o4 = .inl z3 ∧ Has Try.f65.ntmps a [(0, .slice pA0 a0.length pc0), (1, .slice pA1 a1.length pc1)] ∧ Sat ⟨w0, fun b => m0 b ≠ none, F⟩ F [] w) ?_ ?_
  · skip
    refine St.seq ?_
    refine St.region ?_
    refine St.val (v := (.slice pA0 a0.length pc0)) (Yields.move rfl) trivial rfl rfl ?_
    refine St.val (v := (.int .i64 ((a0.length : Nat) : Int))) (Yields.lenSlice tu27 rfl) trivial rfl rfl ?_
    refine St.val (v := (.int .i64 0)) (Yields.move rfl) trivial rfl rfl ?_
    refine St.nil ?_
    refine St.norm ?_
    refine St.block ?_
    refine St.loopM hm (fun s7 a w => Has Try.f65.ntmps a [(0, .slice pA0 a0.length pc0), (1, .slice pA1 a1.length pc1), (7, .int .i64 ((a0.length : Nat) : Int)), (8, .int .i64 ((s7 : Nat) : Int))] ∧ Sat ⟨w0, fun b => m0 b ≠ none, F⟩ F [] w) ?_ ?_
    · skip
      intro a w ha hs
      exact ⟨ha.covers ⟨rfl, rfl, rfl, rfl, trivial⟩, (Among.of Among.none _ hs)⟩
    · rintro s7 o8 co9 hm ho10 a w ⟨ha, hs⟩
      refine St.use (?_ : St _ _ _ _ _ _) ha hs
      clear ha hs a w
      refine St.seq ?_
      refine St.region ?_
      refine St.val (v := (.bool (decide (((s7 : Nat) : Int) < ((a0.length : Nat) : Int))))) (Yields.lt rfl rfl) trivial rfl rfl ?_
      refine St.nil ?_
      refine St.norm ?_
      refine St.seq ?_
      refine St.cond_b rfl ?_ ?_
      · intro q11
        replace q11 : ((s7 : Nat) : Int) < ((a0.length : Nat) : Int) := of_decide_eq_true q11
        replace hm := iT hm q11
        refine St.skip ?_
        refine St.norm ?_
        refine St.seq ?_
        refine St.block ?_
        refine St.seq ?_
        refine St.region ?_
        refine St.val (v := (.int .i64 ((s7 : Nat) : Int))) (Yields.move rfl) trivial rfl rfl ?_
        refine St.val (v := (.int .i64 ((s7 : Nat) : Int))) (Yields.assign rfl) trivial rfl rfl ?_
        refine St.nil ?_
        refine St.norm ?_
        refine St.seq ?_
        refine St.seq ?_
        refine St.region ?_
        refine St.val (v := (.int .i64 ((s7 : Nat) : Int))) (Yields.move rfl) trivial rfl rfl ?_
        refine St.val (v := (.slice pA1 a1.length pc1)) (Yields.move rfl) trivial rfl rfl ?_
        refine St.val (v := (.int .i64 ((a1.length : Nat) : Int))) (Yields.lenSlice tu27 rfl) trivial rfl rfl ?_
        refine St.val (v := (.bool (decide (((s7 : Nat) : Int) ≥ ((a1.length : Nat) : Int))))) (Yields.ge rfl rfl) trivial rfl rfl ?_
        refine St.nil ?_
        refine St.norm ?_
        refine St.cond_b rfl ?_ ?_
        · intro q12
          replace q12 : ((s7 : Nat) : Int) ≥ ((a1.length : Nat) : Int) := of_decide_eq_true q12
          replace hm := iT hm q12
          refine St.seq ?_
          refine St.region ?_
          refine St.val (v := (.bool false)) (Yields.assign rfl) trivial rfl rfl ?_
          refine St.nil ?_
          refine St.norm ?_
          refine St.ret ?_
          refine St.thenret ?_
          refine St.inret ?_
          refine St.thenret ?_
          refine St.thenret ?_
          refine St.inret ?_
          refine St.thenret ?_
          obtain rfl := sI hm
          obtain rfl := aR ho10
          obtain rfl := aR ho5
          exact St.doneR1 rfl rfl ⟨rfl, rfl⟩ (fun w hs => Among.of Among.none w hs)
        · intro q13
          replace q13 : ¬ (((s7 : Nat) : Int) ≥ ((a1.length : Nat) : Int)) := of_decide_eq_false q13
          replace hm := iF hm q13
          refine St.skip ?_
          refine St.norm ?_
          refine St.seq ?_
          refine StD.start [] [] hmix ?_
          refine StD.takeP (i := 0) (v := (.slice pA0 a0.length pc0)) rfl (fun _ => Yields.move rfl) rfl rfl trivial (by rintro _ _ _ ⟨_, _, _, _, h, _⟩; cases h) (by kernel_rfl) (listed' := #[true, false, false, false, false, false, false, false, false]) rfl ?_
          refine StD.takeP (i := 1) (v := (.int .i64 ((s7 : Nat) : Int))) rfl (fun _ => Yields.move rfl) rfl rfl trivial (by rintro _ _ _ ⟨_, _, _, _, h, _⟩; cases h) (by kernel_rfl) (listed' := #[true, true, false, false, false, false, false, false, false]) rfl ?_
          obtain ⟨x14, e15, hm⟩ := bS hm
          obtain ⟨p16, cs17, jx18, R19, k20⟩ := ph0.nidx e15
          obtain rfl := R19
          refine StD.takeP (i := 2) (v := (.pointer (some p16))) rfl (fun _ => Yields.idx jx18 ts27 rfl rfl) rfl rfl trivial (by rintro _ _ _ ⟨_, _, _, _, h, _⟩; cases h) (by kernel_rfl) (listed' := #[true, true, true, false, false, false, false, false, false]) rfl ?_
          refine StD.take [0, 1, 2, 4, 5, 6, 8] (i := 3) (v := (.int .i64 x14)) rfl (Yields.load rfl (Loads.Fat k20 tc3 rfl)) rfl rfl trivial Among.refl (by rintro _ _ _ ⟨_, _, _, _, h, _⟩; cases h) (by kernel_rfl) (listed' := #[true, true, true, true, false, false, false, false, false]) rfl ?_
          refine StD.takeP (i := 4) (v := (.slice pA1 a1.length pc1)) rfl (fun _ => Yields.move rfl) rfl rfl trivial (by rintro _ _ _ ⟨_, _, _, _, h, _⟩; cases h) (by kernel_rfl) (listed' := #[true, true, true, true, true, false, false, false, false]) rfl ?_
          refine StD.takeP (i := 5) (v := (.int .i64 ((s7 : Nat) : Int))) rfl (fun _ => Yields.move rfl) rfl rfl trivial (by rintro _ _ _ ⟨_, _, _, _, h, _⟩; cases h) (by kernel_rfl) (listed' := #[true, true, true, true, true, true, false, false, false]) rfl ?_
          obtain ⟨x21, e22, hm⟩ := bS hm
          obtain ⟨p23, cs24, jx25, R26, k27⟩ := ph1.nidx e22
          obtain rfl := R26
          refine StD.takeP (i := 6) (v := (.pointer (some p23))) rfl (fun _ => Yields.idx jx25 ts27 rfl rfl) rfl rfl trivial (by rintro _ _ _ ⟨_, _, _, _, h, _⟩; cases h) (by kernel_rfl) (listed' := #[true, true, true, true, true, true, true, false, false]) rfl ?_
          refine StD.take [0, 1, 2, 4, 5, 6, 8] (i := 7) (v := (.int .i64 x21)) rfl (Yields.load rfl (Loads.Fat k27 tc3 rfl)) rfl rfl trivial Among.refl (by rintro _ _ _ ⟨_, _, _, _, h, _⟩; cases h) (by kernel_rfl) (listed' := #[true, true, true, true, true, true, true, true, false]) rfl ?_
          refine StD.takeP (i := 8) (v := (.bool (!decide (x14 = x21)))) rfl (fun _ => Yields.ne rfl rfl) rfl rfl trivial (by rintro _ _ _ ⟨_, _, _, _, h, _⟩; cases h) (by kernel_rfl) (listed' := #[true, true, true, true, true, true, true, true, true]) rfl ?_
          refine StD.done (by kernel_rfl) ?_
          refine St.norm ?_
          refine St.cond_b rfl ?_ ?_
          · intro q28
            replace q28 : ¬ (x14 = x21) := nd_t q28
            replace hm := iF hm q28
            refine St.seq ?_
            refine StD.start [] [] hmix ?_
            refine StD.takeP (i := 0) (v := (.slice pA0 a0.length pc0)) rfl (fun _ => Yields.move rfl) rfl rfl trivial (by rintro _ _ _ ⟨_, _, _, _, h, _⟩; cases h) (by kernel_rfl) (listed' := #[true, false, false, false, false, false, false, false, false, false]) rfl ?_
            refine StD.takeP (i := 1) (v := (.int .i64 ((s7 : Nat) : Int))) rfl (fun _ => Yields.move rfl) rfl rfl trivial (by rintro _ _ _ ⟨_, _, _, _, h, _⟩; cases h) (by kernel_rfl) (listed' := #[true, true, false, false, false, false, false, false, false, false]) rfl ?_
            obtain ⟨x29, e30, hm⟩ := bS hm
            obtain ⟨p31, cs32, jx33, R34, k35⟩ := ph0.nidx e30
            obtain rfl := R34
            refine StD.takeP (i := 2) (v := (.pointer (some p31))) rfl (fun _ => Yields.idx jx33 ts27 rfl rfl) rfl rfl trivial (by rintro _ _ _ ⟨_, _, _, _, h, _⟩; cases h) (by kernel_rfl) (listed' := #[true, true, true, false, false, false, false, false, false, false]) rfl ?_
            refine StD.take [0, 1, 2, 4, 5, 6, 8, 9] (i := 3) (v := (.int .i64 x29)) rfl (Yields.load rfl (Loads.Fat k35 tc3 rfl)) rfl rfl trivial Among.refl (by rintro _ _ _ ⟨_, _, _, _, h, _⟩; cases h) (by kernel_rfl) (listed' := #[true, true, true, true, false, false, false, false, false, false]) rfl ?_
            refine StD.takeP (i := 4) (v := (.slice pA1 a1.length pc1)) rfl (fun _ => Yields.move rfl) rfl rfl trivial (by rintro _ _ _ ⟨_, _, _, _, h, _⟩; cases h) (by kernel_rfl) (listed' := #[true, true, true, true, true, false, false, false, false, false]) rfl ?_
            refine StD.takeP (i := 5) (v := (.int .i64 ((s7 : Nat) : Int))) rfl (fun _ => Yields.move rfl) rfl rfl trivial (by rintro _ _ _ ⟨_, _, _, _, h, _⟩; cases h) (by kernel_rfl) (listed' := #[true, true, true, true, true, true, false, false, false, false]) rfl ?_
            obtain ⟨x36, e37, hm⟩ := bS hm
            obtain ⟨p38, cs39, jx40, R41, k42⟩ := ph1.nidx e37
            obtain rfl := R41
            refine StD.takeP (i := 6) (v := (.pointer (some p38))) rfl (fun _ => Yields.idx jx40 ts27 rfl rfl) rfl rfl trivial (by rintro _ _ _ ⟨_, _, _, _, h, _⟩; cases h) (by kernel_rfl) (listed' := #[true, true, true, true, true, true, true, false, false, false]) rfl ?_
            refine StD.take [0, 1, 2, 4, 5, 6, 8, 9] (i := 7) (v := (.int .i64 x36)) rfl (Yields.load rfl (Loads.Fat k42 tc3 rfl)) rfl rfl trivial Among.refl (by rintro _ _ _ ⟨_, _, _, _, h, _⟩; cases h) (by kernel_rfl) (listed' := #[true, true, true, true, true, true, true, true, false, false]) rfl ?_
            refine StD.takeP (i := 8) (v := (.bool (decide (x29 < x36)))) rfl (fun _ => Yields.lt rfl rfl) rfl rfl trivial (by rintro _ _ _ ⟨_, _, _, _, h, _⟩; cases h) (by kernel_rfl) (listed' := #[true, true, true, true, true, true, true, true, true, false]) rfl ?_
            refine StD.takeP (i := 9) (v := (.bool (decide (x29 < x36)))) rfl (fun _ => Yields.assign rfl) rfl rfl trivial (by rintro _ _ _ ⟨_, _, _, _, h, _⟩; cases h) (by kernel_rfl) (listed' := #[true, true, true, true, true, true, true, true, true, true]) rfl ?_
            refine StD.done (by kernel_rfl) ?_
            refine St.norm ?_
            refine St.ret ?_
            refine St.inret ?_
            refine St.thenret ?_
            refine St.thenret ?_
            refine St.inret ?_
            refine St.thenret ?_
            obtain rfl := sI hm
            obtain rfl := aR ho10
            obtain rfl := aR ho5
            exact St.doneR1 rfl rfl ⟨rfl, rfl⟩ (fun w hs => Among.of Among.none w hs)
          · intro q43
            replace q43 : x14 = x21 := nd_f q43
            replace hm := iT hm q43
            refine St.skip ?_
            refine St.innorm ?_
            refine St.norm ?_
            refine St.region ?_
            refine St.val (v := (.int .i64 ((s7 + 1 : Nat) : Int))) (Yields.addn (j := 1) rfl rfl rfl (by have q_0 := q11; have q_1 := ph0.bnd.2; omega)) trivial rfl rfl ?_
            refine St.val (v := (.int .i64 ((s7 + 1 : Nat) : Int))) (Yields.move rfl) trivial rfl rfl ?_
            refine St.nil ?_
            refine St.norm ?_
            obtain rfl := sI hm
            intro a w ha hs
            exact ⟨s7 + 1, aL ho10, ha.covers ⟨rfl, rfl, rfl, rfl, trivial⟩, (Among.of Among.none _ hs)⟩
      · intro q44
        replace q44 : ¬ (((s7 : Nat) : Int) < ((a0.length : Nat) : Int)) := of_decide_eq_false q44
        replace hm := iF hm q44
        refine St.exit ?_
        refine St.thenexit ?_
        refine St.thenexit ?_
        refine St.inexit ?_
        obtain rfl := sI hm
        obtain rfl := aR ho10
        intro a w ha hs
        exact ⟨(), rfl, ha.covers ⟨rfl, rfl, trivial⟩, (Among.of Among.none _ hs)⟩
  · rintro a w ⟨z3, rfl, ha, hs⟩
    replace hm := aL ho5
    refine St.use (?_ : St _ _ _ _ _ _) ha hs
    clear ha hs a w
    refine St.seq ?_
    refine St.region ?_
    refine St.val (v := (.slice pA0 a0.length pc0)) (Yields.move rfl) trivial rfl rfl ?_
    refine St.val (v := (.int .i64 ((a0.length : Nat) : Int))) (Yields.lenSlice tu27 rfl) trivial rfl rfl ?_
    refine St.val (v := (.slice pA1 a1.length pc1)) (Yields.move rfl) trivial rfl rfl ?_
    refine St.val (v := (.int .i64 ((a1.length : Nat) : Int))) (Yields.lenSlice tu27 rfl) trivial rfl rfl ?_
    refine St.val (v := (.bool (decide (((a0.length : Nat) : Int) < ((a1.length : Nat) : Int))))) (Yields.lt rfl rfl) trivial rfl rfl ?_
    refine St.val (v := (.bool (decide (((a0.length : Nat) : Int) < ((a1.length : Nat) : Int))))) (Yields.assign rfl) trivial rfl rfl ?_
    refine St.nil ?_
    refine St.norm ?_
    refine St.ret ?_
    obtain rfl := sI hm
    exact St.doneR1 rfl rfl ⟨rfl, rfl⟩ (fun w hs => Among.of Among.none w hs)

theorem m_api_STree_Less_sp {F : PH} {g : Nat} {a0 : Int} {a1 : Int} {a2 : List DPlace} {a3 : Nat} {pbl0 : Nat} {pA2 : Option Addr} {pc2 : Nat} {pcl2 : List Value} (ph2 : Cat KDPlace F pcl2 a2) (pbd2 : Bnd 64 a2) (ph3 : a3 ∈ [36, 37, 38, 39]) {r : Bool} (hm : m_api_STree_Less g a0 a1 a2 a3 = some r) :
    CallSp Try.prog 61 #[.pointer (some ⟨pbl0, 0, none⟩), .int .i64 a0, .int .i64 a1] F [blk pbl0 (.cells #[.slice pA2 a2.length pc2, .func (.func a3) #[] #[]] 55 (0, 0)), rowo pA2 a2.length pc2 58 4 pcl2] (fun u F' H' => u = (.bool r) ∧ H' = [blk pbl0 (.cells #[.slice pA2 a2.length pc2, .func (.func a3) #[] #[]] 55 (0, 0)), rowo pA2 a2.length pc2 58 4 pcl2]) := by
  unfold m_api_STree_Less at hm
  refine CallSp.enter (args := [.pointer (some ⟨pbl0, 0, none⟩), .int .i64 a0, .int .i64 a1]) Try.func61 rfl rfl ?_
  intro w0 m0 hm0
  refine St.seq ?_
  refine St.region ?_
  refine St.val (v := (.bool false)) (Yields.assign rfl) trivial rfl rfl ?_
  refine St.nil ?_
  refine St.norm ?_
  refine St.seq ?_
  refine St.seq ?_
  refine StD.start [] [blk pbl0 (.cells #[.slice pA2 a2.length pc2, .func (.func a3) #[] #[]] 55 (0, 0)), rowo pA2 a2.length pc2 58 4 pcl2] hmix ?_
  refine StD.takeP (i := 0) (v := (.pointer (some ⟨pbl0, 0, none⟩))) rfl (fun _ => Yields.move rfl) rfl rfl trivial (by rintro _ _ _ ⟨_, _, _, _, h, _⟩; cases h) (by kernel_rfl) (listed' := #[true, false, false, false, false, false, false, false, false, false, false, false, false, false, false, false, false]) rfl ?_
  refine StD.takeP (i := 1) (v := (.pointer (some ⟨pbl0, 0, none⟩))) rfl (fun _ => Yields.nilCheck rfl) rfl rfl trivial (by rintro _ _ _ ⟨_, _, _, _, h, _⟩; cases h) (by kernel_rfl) (listed' := #[true, true, false, false, false, false, false, false, false, false, false, false, false, false, false, false, false]) rfl ?_
  refine StD.takeP (i := 2) (v := (.pointer (some ⟨pbl0, 0, none⟩))) rfl (fun _ => Yields.fieldAddr (v := (.pointer (some ⟨pbl0, 0, none⟩))) rfl (fun _ => by kernel_rfl)) rfl rfl trivial (by rintro _ _ _ ⟨_, _, _, _, h, _⟩; cases h) (by kernel_rfl) (listed' := #[true, true, true, false, false, false, false, false, false, false, false, false, false, false, false, false, false]) rfl ?_
  refine StD.take [0, 1, 2, 4, 5, 6, 8, 9, 10, 12, 13, 14, 16] (i := 3) (v := (.slice pA2 a2.length pc2)) rfl (Yields.load rfl (Loads.H1 0 rfl tc53 rfl)) rfl rfl trivial Among.refl (by rintro _ _ _ ⟨_, _, _, _, h, _⟩; cases h) (by kernel_rfl) (listed' := #[true, true, true, true, false, false, false, false, false, false, false, false, false, false, false, false, false]) rfl ?_
  refine StD.takeP (i := 4) (v := (.int .i64 a0)) rfl (fun _ => Yields.move rfl) rfl rfl trivial (by rintro _ _ _ ⟨_, _, _, _, h, _⟩; cases h) (by kernel_rfl) (listed' := #[true, true, true, true, true, false, false, false, false, false, false, false, false, false, false, false, false]) rfl ?_
  obtain ⟨x2, e3, hm⟩ := bS hm
  obtain ⟨jx4, jx5, cs6, R7, k8⟩ := ph2.idx e3
  obtain ⟨A9, c10, A12, c13, rfl, h11, h14⟩ := DPlace.opn R7
  refine St.rowo_at 1 rfl (by omega) ?_
  intro hA17
  refine StD.takeP (i := 5) (v := (.pointer (some ⟨bk pA2, bo pA2 + a0.toNat * 4, none⟩))) rfl (fun _ => Yields.idx (IdxAt.own hA17 jx4 jx5) ts53 rfl rfl) rfl rfl trivial (by rintro _ _ _ ⟨_, _, _, _, h, _⟩; cases h) (by kernel_rfl) (listed' := #[true, true, true, true, true, true, false, false, false, false, false, false, false, false, false, false, false]) rfl ?_
  refine StD.takeP (i := 6) (v := (.pointer (some ⟨bk pA2, bo pA2 + (a0.toNat * 4 + 1), none⟩))) rfl (fun _ => Yields.fieldAddr (v := (.pointer (some ⟨bk pA2, bo pA2 + (a0.toNat * 4 + 1), none⟩))) rfl (fieldA (off := 1) (fun _ => by kernel_rfl))) rfl rfl trivial (by rintro _ _ _ ⟨_, _, _, _, h, _⟩; cases h) (by kernel_rfl) (listed' := #[true, true, true, true, true, true, true, false, false, false, false, false, false, false, false, false, false]) rfl ?_
  refine StD.take [0, 1, 2, 4, 5, 6, 8, 9, 10, 12, 13, 14, 16] (i := 7) (v := (.int .i64 x2.rank)) rfl (Yields.load rfl (Loads.rA1 1 rfl tc3 (k8 1 _ rfl))) rfl rfl trivial Among.refl (by rintro _ _ _ ⟨_, _, _, _, h, _⟩; cases h) (by kernel_rfl) (listed' := #[true, true, true, true, true, true, true, true, false, false, false, false, false, false, false, false, false]) rfl ?_
  refine StD.takeP (i := 8) (v := (.pointer (some ⟨pbl0, 0, none⟩))) rfl (fun _ => Yields.move rfl) rfl rfl trivial (by rintro _ _ _ ⟨_, _, _, _, h, _⟩; cases h) (by kernel_rfl) (listed' := #[true, true, true, true, true, true, true, true, true, false, false, false, false, false, false, false, false]) rfl ?_
  refine StD.takeP (i := 9) (v := (.pointer (some ⟨pbl0, 0, none⟩))) rfl (fun _ => Yields.nilCheck rfl) rfl rfl trivial (by rintro _ _ _ ⟨_, _, _, _, h, _⟩; cases h) (by kernel_rfl) (listed' := #[true, true, true, true, true, true, true, true, true, true, false, false, false, false, false, false, false]) rfl ?_
  refine StD.takeP (i := 10) (v := (.pointer (some ⟨pbl0, 0, none⟩))) rfl (fun _ => Yields.fieldAddr (v := (.pointer (some ⟨pbl0, 0, none⟩))) rfl (fun _ => by kernel_rfl)) rfl rfl trivial (by rintro _ _ _ ⟨_, _, _, _, h, _⟩; cases h) (by kernel_rfl) (listed' := #[true, true, true, true, true, true, true, true, true, true, true, false, false, false, false, false, false]) rfl ?_
  refine StD.take [0, 1, 2, 4, 5, 6, 8, 9, 10, 12, 13, 14, 16] (i := 11) (v := (.slice pA2 a2.length pc2)) rfl (Yields.load rfl (Loads.H1 0 rfl tc53 rfl)) rfl rfl trivial Among.refl (by rintro _ _ _ ⟨_, _, _, _, h, _⟩; cases h) (by kernel_rfl) (listed' := #[true, true, true, true, true, true, true, true, true, true, true, true, false, false, false, false, false]) rfl ?_
  refine StD.takeP (i := 12) (v := (.int .i64 a1)) rfl (fun _ => Yields.move rfl) rfl rfl trivial (by rintro _ _ _ ⟨_, _, _, _, h, _⟩; cases h) (by kernel_rfl) (listed' := #[true, true, true, true, true, true, true, true, true, true, true, true, true, false, false, false, false]) rfl ?_
  obtain ⟨x18, e19, hm⟩ := bS hm
  obtain ⟨jx20, jx21, cs22, R23, k24⟩ := ph2.idx e19
  obtain ⟨A25, c26, A28, c29, rfl, h27, h30⟩ := DPlace.opn R23
  refine StD.takeP (i := 13) (v := (.pointer (some ⟨bk pA2, bo pA2 + a1.toNat * 4, none⟩))) rfl (fun _ => Yields.idx (IdxAt.own hA17 jx20 jx21) ts53 rfl rfl) rfl rfl trivial (by rintro _ _ _ ⟨_, _, _, _, h, _⟩; cases h) (by kernel_rfl) (listed' := #[true, true, true, true, true, true, true, true, true, true, true, true, true, true, false, false, false]) rfl ?_
  refine StD.takeP (i := 14) (v := (.pointer (some ⟨bk pA2, bo pA2 + (a1.toNat * 4 + 1), none⟩))) rfl (fun _ => Yields.fieldAddr (v := (.pointer (some ⟨bk pA2, bo pA2 + (a1.toNat * 4 + 1), none⟩))) rfl (fieldA (off := 1) (fun _ => by kernel_rfl))) rfl rfl trivial (by rintro _ _ _ ⟨_, _, _, _, h, _⟩; cases h) (by kernel_rfl) (listed' := #[true, true, true, true, true, true, true, true, true, true, true, true, true, true, true, false, false]) rfl ?_
  refine StD.take [0, 1, 2, 4, 5, 6, 8, 9, 10, 12, 13, 14, 16] (i := 15) (v := (.int .i64 x18.rank)) rfl (Yields.load rfl (Loads.rA1 1 rfl tc3 (k24 1 _ rfl))) rfl rfl trivial Among.refl (by rintro _ _ _ ⟨_, _, _, _, h, _⟩; cases h) (by kernel_rfl) (listed' := #[true, true, true, true, true, true, true, true, true, true, true, true, true, true, true, true, false]) rfl ?_
  refine StD.takeP (i := 16) (v := (.bool (!decide (x2.rank = x18.rank)))) rfl (fun _ => Yields.ne rfl rfl) rfl rfl trivial (by rintro _ _ _ ⟨_, _, _, _, h, _⟩; cases h) (by kernel_rfl) (listed' := #[true, true, true, true, true, true, true, true, true, true, true, true, true, true, true, true, true]) rfl ?_
  refine StD.done (by kernel_rfl) ?_
  refine St.norm ?_
  refine St.cond_b rfl ?_ ?_
  · intro q33
    replace q33 : ¬ (x2.rank = x18.rank) := nd_t q33
    replace hm := iF hm q33
    refine St.seq ?_
    refine StD.start [] [blk pbl0 (.cells #[.slice pA2 a2.length pc2, .func (.func a3) #[] #[]] 55 (0, 0)), rowo pA2 a2.length pc2 58 4 pcl2] hmix ?_
    refine StD.takeP (i := 0) (v := (.pointer (some ⟨pbl0, 0, none⟩))) rfl (fun _ => Yields.move rfl) rfl rfl trivial (by rintro _ _ _ ⟨_, _, _, _, h, _⟩; cases h) (by kernel_rfl) (listed' := #[true, false, false, false, false, false, false, false, false, false, false, false, false, false, false, false, false, false]) rfl ?_
    refine StD.takeP (i := 1) (v := (.pointer (some ⟨pbl0, 0, none⟩))) rfl (fun _ => Yields.nilCheck rfl) rfl rfl trivial (by rintro _ _ _ ⟨_, _, _, _, h, _⟩; cases h) (by kernel_rfl) (listed' := #[true, true, false, false, false, false, false, false, false, false, false, false, false, false, false, false, false, false]) rfl ?_
    refine StD.takeP (i := 2) (v := (.pointer (some ⟨pbl0, 0, none⟩))) rfl (fun _ => Yields.fieldAddr (v := (.pointer (some ⟨pbl0, 0, none⟩))) rfl (fun _ => by kernel_rfl)) rfl rfl trivial (by rintro _ _ _ ⟨_, _, _, _, h, _⟩; cases h) (by kernel_rfl) (listed' := #[true, true, true, false, false, false, false, false, false, false, false, false, false, false, false, false, false, false]) rfl ?_
    refine StD.take [0, 1, 2, 4, 5, 6, 8, 9, 10, 12, 13, 14, 16, 17] (i := 3) (v := (.slice pA2 a2.length pc2)) rfl (Yields.load rfl (Loads.H1 0 rfl tc53 rfl)) rfl rfl trivial Among.refl (by rintro _ _ _ ⟨_, _, _, _, h, _⟩; cases h) (by kernel_rfl) (listed' := #[true, true, true, true, false, false, false, false, false, false, false, false, false, false, false, false, false, false]) rfl ?_
    refine StD.takeP (i := 4) (v := (.int .i64 a0)) rfl (fun _ => Yields.move rfl) rfl rfl trivial (by rintro _ _ _ ⟨_, _, _, _, h, _⟩; cases h) (by kernel_rfl) (listed' := #[true, true, true, true, true, false, false, false, false, false, false, false, false, false, false, false, false, false]) rfl ?_
    obtain ⟨x34, e35, hm⟩ := bS hm
    obtain ⟨jx36, jx37, cs38, R39, k40⟩ := ph2.idx e35
    obtain ⟨A41, c42, A44, c45, rfl, h43, h46⟩ := DPlace.opn R39
    refine StD.takeP (i := 5) (v := (.pointer (some ⟨bk pA2, bo pA2 + a0.toNat * 4, none⟩))) rfl (fun _ => Yields.idx (IdxAt.own hA17 jx36 jx37) ts53 rfl rfl) rfl rfl trivial (by rintro _ _ _ ⟨_, _, _, _, h, _⟩; cases h) (by kernel_rfl) (listed' := #[true, true, true, true, true, true, false, false, false, false, false, false, false, false, false, false, false, false]) rfl ?_
    refine StD.takeP (i := 6) (v := (.pointer (some ⟨bk pA2, bo pA2 + (a0.toNat * 4 + 1), none⟩))) rfl (fun _ => Yields.fieldAddr (v := (.pointer (some ⟨bk pA2, bo pA2 + (a0.toNat * 4 + 1), none⟩))) rfl (fieldA (off := 1) (fun _ => by kernel_rfl))) rfl rfl trivial (by rintro _ _ _ ⟨_, _, _, _, h, _⟩; cases h) (by kernel_rfl) (listed' := #[true, true, true, true, true, true, true, false, false, false, false, false, false, false, false, false, false, false]) rfl ?_
    refine StD.take [0, 1, 2, 4, 5, 6, 8, 9, 10, 12, 13, 14, 16, 17] (i := 7) (v := (.int .i64 x34.rank)) rfl (Yields.load rfl (Loads.rA1 1 rfl tc3 (k40 1 _ rfl))) rfl rfl trivial Among.refl (by rintro _ _ _ ⟨_, _, _, _, h, _⟩; cases h) (by kernel_rfl) (listed' := #[true, true, true, true, true, true, true, true, false, false, false, false, false, false, false, false, false, false]) rfl ?_
    refine StD.takeP (i := 8) (v := (.pointer (some ⟨pbl0, 0, none⟩))) rfl (fun _ => Yields.move rfl) rfl rfl trivial (by rintro _ _ _ ⟨_, _, _, _, h, _⟩; cases h) (by kernel_rfl) (listed' := #[true, true, true, true, true, true, true, true, true, false, false, false, false, false, false, false, false, false]) rfl ?_
    refine StD.takeP (i := 9) (v := (.pointer (some ⟨pbl0, 0, none⟩))) rfl (fun _ => Yields.nilCheck rfl) rfl rfl trivial (by rintro _ _ _ ⟨_, _, _, _, h, _⟩; cases h) (by kernel_rfl) (listed' := #[true, true, true, true, true, true, true, true, true, true, false, false, false, false, false, false, false, false]) rfl ?_
    refine StD.takeP (i := 10) (v := (.pointer (some ⟨pbl0, 0, none⟩))) rfl (fun _ => Yields.fieldAddr (v := (.pointer (some ⟨pbl0, 0, none⟩))) rfl (fun _ => by kernel_rfl)) rfl rfl trivial (by rintro _ _ _ ⟨_, _, _, _, h, _⟩; cases h) (by kernel_rfl) (listed' := #[true, true, true, true, true, true, true, true, true, true, true, false, false, false, false, false, false, false]) rfl ?_
    refine StD.take [0, 1, 2, 4, 5, 6, 8, 9, 10, 12, 13, 14, 16, 17] (i := 11) (v := (.slice pA2 a2.length pc2)) rfl (Yields.load rfl (Loads.H1 0 rfl tc53 rfl)) rfl rfl trivial Among.refl (by rintro _ _ _ ⟨_, _, _, _, h, _⟩; cases h) (by kernel_rfl) (listed' := #[true, true, true, true, true, true, true, true, true, true, true, true, false, false, false, false, false, false]) rfl ?_
    refine StD.takeP (i := 12) (v := (.int .i64 a1)) rfl (fun _ => Yields.move rfl) rfl rfl trivial (by rintro _ _ _ ⟨_, _, _, _, h, _⟩; cases h) (by kernel_rfl) (listed' := #[true, true, true, true, true, true, true, true, true, true, true, true, true, false, false, false, false, false]) rfl ?_
    obtain ⟨x49, e50, hm⟩ := bS hm
    obtain ⟨jx51, jx52, cs53, R54, k55⟩ := ph2.idx e50
    obtain ⟨A56, c57, A59, c60, rfl, h58, h61⟩ := DPlace.opn R54
    refine StD.takeP (i := 13) (v := (.pointer (some ⟨bk pA2, bo pA2 + a1.toNat * 4, none⟩))) rfl (fun _ => Yields.idx (IdxAt.own hA17 jx51 jx52) ts53 rfl rfl) rfl rfl trivial (by rintro _ _ _ ⟨_, _, _, _, h, _⟩; cases h) (by kernel_rfl) (listed' := #[true, true, true, true, true, true, true, true, true, true, true, true, true, true, false, false, false, false]) rfl ?_
    refine StD.takeP (i := 14) (v := (.pointer (some ⟨bk pA2, bo pA2 + (a1.toNat * 4 + 1), none⟩))) rfl (fun _ => Yields.fieldAddr (v := (.pointer (some ⟨bk pA2, bo pA2 + (a1.toNat * 4 + 1), none⟩))) rfl (fieldA (off := 1) (fun _ => by kernel_rfl))) rfl rfl trivial (by rintro _ _ _ ⟨_, _, _, _, h, _⟩; cases h) (by kernel_rfl) (listed' := #[true, true, true, true, true, true, true, true, true, true, true, true, true, true, true, false, false, false]) rfl ?_
    refine StD.take [0, 1, 2, 4, 5, 6, 8, 9, 10, 12, 13, 14, 16, 17] (i := 15) (v := (.int .i64 x49.rank)) rfl (Yields.load rfl (Loads.rA1 1 rfl tc3 (k55 1 _ rfl))) rfl rfl trivial Among.refl (by rintro _ _ _ ⟨_, _, _, _, h, _⟩; cases h) (by kernel_rfl) (listed' := #[true, true, true, true, true, true, true, true, true, true, true, true, true, true, true, true, false, false]) rfl ?_
    refine StD.takeP (i := 16) (v := (.bool (decide (x34.rank < x49.rank)))) rfl (fun _ => Yields.lt rfl rfl) rfl rfl trivial (by rintro _ _ _ ⟨_, _, _, _, h, _⟩; cases h) (by kernel_rfl) (listed' := #[true, true, true, true, true, true, true, true, true, true, true, true, true, true, true, true, true, false]) rfl ?_
    refine StD.takeP (i := 17) (v := (.bool (decide (x34.rank < x49.rank)))) rfl (fun _ => Yields.assign rfl) rfl rfl trivial (by rintro _ _ _ ⟨_, _, _, _, h, _⟩; cases h) (by kernel_rfl) (listed' := #[true, true, true, true, true, true, true, true, true, true, true, true, true, true, true, true, true, true]) rfl ?_
    refine StD.done (by kernel_rfl) ?_
    refine St.norm ?_
    refine St.ret ?_
    refine St.thenret ?_
    obtain rfl := sI hm
    exact St.doneR1 rfl rfl ⟨rfl, rfl⟩ (fun w hs => Among.of (Among.take 0 rfl rfl (Among.take 0 rfl rfl Among.none)) w hs)
  · intro q64
    replace q64 : x2.rank = x18.rank := nd_f q64
    replace hm := iT hm q64
    refine St.skip ?_
    refine St.norm ?_
    refine St.seq ?_
    refine StD.start [16] [blk pbl0 (.cells #[.slice pA2 a2.length pc2, .func (.func a3) #[] #[]] 55 (0, 0)), rowo pA2 a2.length pc2 58 4 pcl2] hmix ?_
    refine StD.takeP (i := 0) (v := (.pointer (some ⟨pbl0, 0, none⟩))) rfl (fun _ => Yields.move rfl) rfl rfl trivial (by rintro _ _ _ ⟨_, _, _, _, h, _⟩; cases h) (by kernel_rfl) (listed' := #[true, false, false, false, false, false, false, false, false, false, false, false, false, false, false, false, false, false]) rfl ?_
    refine StD.takeP (i := 1) (v := (.pointer (some ⟨pbl0, 0, none⟩))) rfl (fun _ => Yields.nilCheck rfl) rfl rfl trivial (by rintro _ _ _ ⟨_, _, _, _, h, _⟩; cases h) (by kernel_rfl) (listed' := #[true, true, false, false, false, false, false, false, false, false, false, false, false, false, false, false, false, false]) rfl ?_
    refine StD.takeP (i := 2) (v := (.pointer (some ⟨pbl0, 0, none⟩))) rfl (fun _ => Yields.fieldAddr (v := (.pointer (some ⟨pbl0, 0, none⟩))) rfl (fun _ => by kernel_rfl)) rfl rfl trivial (by rintro _ _ _ ⟨_, _, _, _, h, _⟩; cases h) (by kernel_rfl) (listed' := #[true, true, true, false, false, false, false, false, false, false, false, false, false, false, false, false, false, false]) rfl ?_
    refine StD.take [0, 1, 2, 4, 5, 6, 8, 9, 10, 12, 13, 14, 17] (i := 3) (v := (.slice pA2 a2.length pc2)) rfl (Yields.load rfl (Loads.H1 0 rfl tc53 rfl)) rfl rfl trivial Among.refl (by rintro _ _ _ ⟨_, _, _, _, h, _⟩; cases h) (by kernel_rfl) (listed' := #[true, true, true, true, false, false, false, false, false, false, false, false, false, false, false, false, false, false]) rfl ?_
    refine StD.takeP (i := 4) (v := (.int .i64 a0)) rfl (fun _ => Yields.move rfl) rfl rfl trivial (by rintro _ _ _ ⟨_, _, _, _, h, _⟩; cases h) (by kernel_rfl) (listed' := #[true, true, true, true, true, false, false, false, false, false, false, false, false, false, false, false, false, false]) rfl ?_
    obtain ⟨x65, e66, hm⟩ := bS hm
    obtain ⟨jx67, jx68, cs69, R70, k71⟩ := ph2.idx e66
    obtain ⟨A72, c73, A75, c76, rfl, h74, h77⟩ := DPlace.opn R70
    refine StD.takeP (i := 5) (v := (.pointer (some ⟨bk pA2, bo pA2 + a0.toNat * 4, none⟩))) rfl (fun _ => Yields.idx (IdxAt.own hA17 jx67 jx68) ts53 rfl rfl) rfl rfl trivial (by rintro _ _ _ ⟨_, _, _, _, h, _⟩; cases h) (by kernel_rfl) (listed' := #[true, true, true, true, true, true, false, false, false, false, false, false, false, false, false, false, false, false]) rfl ?_
    refine StD.takeP (i := 6) (v := (.pointer (some ⟨bk pA2, bo pA2 + a0.toNat * 4, none⟩))) rfl (fun _ => Yields.fieldAddr (v := (.pointer (some ⟨bk pA2, bo pA2 + a0.toNat * 4, none⟩))) rfl (fun _ => by kernel_rfl)) rfl rfl trivial (by rintro _ _ _ ⟨_, _, _, _, h, _⟩; cases h) (by kernel_rfl) (listed' := #[true, true, true, true, true, true, true, false, false, false, false, false, false, false, false, false, false, false]) rfl ?_
    refine StD.take [0, 1, 2, 4, 5, 6, 8, 9, 10, 12, 13, 14, 17] (i := 7) (v := (.slice A72 x65.l.length c73)) rfl (Yields.load rfl (Loads.rA1 1 rfl tc27 (k71 0 _ rfl))) rfl rfl trivial Among.refl (by rintro _ _ _ ⟨_, _, _, _, h, _⟩; cases h) (by kernel_rfl) (listed' := #[true, true, true, true, true, true, true, true, false, false, false, false, false, false, false, false, false, false]) rfl ?_
    refine StD.takeP (i := 8) (v := (.pointer (some ⟨pbl0, 0, none⟩))) rfl (fun _ => Yields.move rfl) rfl rfl trivial (by rintro _ _ _ ⟨_, _, _, _, h, _⟩; cases h) (by kernel_rfl) (listed' := #[true, true, true, true, true, true, true, true, true, false, false, false, false, false, false, false, false, false]) rfl ?_
    refine StD.takeP (i := 9) (v := (.pointer (some ⟨pbl0, 0, none⟩))) rfl (fun _ => Yields.nilCheck rfl) rfl rfl trivial (by rintro _ _ _ ⟨_, _, _, _, h, _⟩; cases h) (by kernel_rfl) (listed' := #[true, true, true, true, true, true, true, true, true, true, false, false, false, false, false, false, false, false]) rfl ?_
    refine StD.takeP (i := 10) (v := (.pointer (some ⟨pbl0, 0, none⟩))) rfl (fun _ => Yields.fieldAddr (v := (.pointer (some ⟨pbl0, 0, none⟩))) rfl (fun _ => by kernel_rfl)) rfl rfl trivial (by rintro _ _ _ ⟨_, _, _, _, h, _⟩; cases h) (by kernel_rfl) (listed' := #[true, true, true, true, true, true, true, true, true, true, true, false, false, false, false, false, false, false]) rfl ?_
    refine StD.take [0, 1, 2, 4, 5, 6, 8, 9, 10, 12, 13, 14, 17] (i := 11) (v := (.slice pA2 a2.length pc2)) rfl (Yields.load rfl (Loads.H1 0 rfl tc53 rfl)) rfl rfl trivial Among.refl (by rintro _ _ _ ⟨_, _, _, _, h, _⟩; cases h) (by kernel_rfl) (listed' := #[true, true, true, true, true, true, true, true, true, true, true, true, false, false, false, false, false, false]) rfl ?_
    refine StD.takeP (i := 12) (v := (.int .i64 a1)) rfl (fun _ => Yields.move rfl) rfl rfl trivial (by rintro _ _ _ ⟨_, _, _, _, h, _⟩; cases h) (by kernel_rfl) (listed' := #[true, true, true, true, true, true, true, true, true, true, true, true, true, false, false, false, false, false]) rfl ?_
    obtain ⟨x80, e81, hm⟩ := bS hm
    obtain ⟨jx82, jx83, cs84, R85, k86⟩ := ph2.idx e81
    obtain ⟨A87, c88, A90, c91, rfl, h89, h92⟩ := DPlace.opn R85
    refine StD.takeP (i := 13) (v := (.pointer (some ⟨bk pA2, bo pA2 + a1.toNat * 4, none⟩))) rfl (fun _ => Yields.idx (IdxAt.own hA17 jx82 jx83) ts53 rfl rfl) rfl rfl trivial (by rintro _ _ _ ⟨_, _, _, _, h, _⟩; cases h) (by kernel_rfl) (listed' := #[true, true, true, true, true, true, true, true, true, true, true, true, true, true, false, false, false, false]) rfl ?_
    refine StD.takeP (i := 14) (v := (.pointer (some ⟨bk pA2, bo pA2 + a1.toNat * 4, none⟩))) rfl (fun _ => Yields.fieldAddr (v := (.pointer (some ⟨bk pA2, bo pA2 + a1.toNat * 4, none⟩))) rfl (fun _ => by kernel_rfl)) rfl rfl trivial (by rintro _ _ _ ⟨_, _, _, _, h, _⟩; cases h) (by kernel_rfl) (listed' := #[true, true, true, true, true, true, true, true, true, true, true, true, true, true, true, false, false, false]) rfl ?_
    refine StD.take [0, 1, 2, 4, 5, 6, 8, 9, 10, 12, 13, 14, 17] (i := 15) (v := (.slice A87 x80.l.length c88)) rfl (Yields.load rfl (Loads.rA1 1 rfl tc27 (k86 0 _ rfl))) rfl rfl trivial Among.refl (by rintro _ _ _ ⟨_, _, _, _, h, _⟩; cases h) (by kernel_rfl) (listed' := #[true, true, true, true, true, true, true, true, true, true, true, true, true, true, true, true, false, false]) rfl ?_
    refine StD.only (i := 16) rfl (by kernel_rfl) (listed' := #[true, true, true, true, true, true, true, true, true, true, true, true, true, true, true, true, true, false]) rfl ?_
    intro hcl95
    obtain ⟨q96, e97, hm⟩ := bS hm
    refine St.call [blk pbl0 (.cells #[.slice pA2 a2.length pc2, .func (.func a3) #[] #[]] 55 (0, 0)), rowo pA2 a2.length pc2 58 4 pcl2] (m_search_before_sp h74 h89 e97) rfl (fun _ ha => ev2 ha rfl rfl) rfl en65 rfl rfl trivial ?_
    rintro _ F98 _ ⟨rfl, rfl⟩ l99
    refine StD.next hcl95 (fun h => by cases h) ?_
    refine StD.takeP (i := 17) (v := (.bool q96)) rfl (fun _ => Yields.assign rfl) rfl rfl trivial (by rintro _ _ _ ⟨_, _, _, _, h, _⟩; cases h) (by kernel_rfl) (listed' := #[true, true, true, true, true, true, true, true, true, true, true, true, true, true, true, true, true, true]) rfl ?_
    refine StD.done (by kernel_rfl) ?_
    refine St.norm ?_
    refine St.ret ?_
    obtain rfl := sI hm
    exact St.doneR1 rfl rfl ⟨rfl, rfl⟩ (fun w hs => Among.of (Among.take 0 rfl rfl (Among.take 0 rfl rfl Among.none)) w hs)

theorem m_api_STree_Swap_sp {F : PH} {g : Nat} {a0 : Int} {a1 : Int} {a2 : List DPlace} {a3 : Nat} {pbl0 : Nat} {pA2 : Option Addr} {pc2 : Nat} {pcl2 : List Value} (ph2 : Cat KDPlace F pcl2 a2) (pbd2 : Bnd 64 a2) (ph3 : a3 ∈ [36, 37, 38, 39]) {r : List DPlace} (hm : m_api_STree_Swap g a0 a1 a2 a3 = some r) :
    CallSp Try.prog 64 #[.pointer (some ⟨pbl0, 0, none⟩), .int .i64 a0, .int .i64 a1] F [blk pbl0 (.cells #[.slice pA2 a2.length pc2, .func (.func a3) #[] #[]] 55 (0, 0)), rowo pA2 a2.length pc2 58 4 pcl2] (fun u F' H' => ∃ (G2 : Option Addr) (e2 : Nat) (gl2 : List Value), u = (.tuple #[]) ∧ Cat KDPlace F' gl2 r ∧ Bnd 64 r ∧ H' = [blk pbl0 (.cells #[.slice G2 r.length e2, .func (.func a3) #[] #[]] 55 (0, 0)), rowo G2 r.length e2 58 4 gl2]) := by
  unfold m_api_STree_Swap at hm
  refine CallSp.enter (args := [.pointer (some ⟨pbl0, 0, none⟩), .int .i64 a0, .int .i64 a1]) Try.func64 rfl rfl ?_
  intro w0 m0 hm0
  refine StD.start [25, 27] [blk pbl0 (.cells #[.slice pA2 a2.length pc2, .func (.func a3) #[] #[]] 55 (0, 0)), rowo pA2 a2.length pc2 58 4 pcl2] hmix ?_
  refine StD.takeP (i := 0) (v := (.pointer (some ⟨pbl0, 0, none⟩))) rfl (fun _ => Yields.move rfl) rfl rfl trivial (by rintro _ _ _ ⟨_, _, _, _, h, _⟩; cases h) (by kernel_rfl) (listed' := #[true, false, false, false, false, false, false, false, false, false, false, false, false, false, false, false, false, false, false, false, false, false, false, false, false, false, false, false]) rfl ?_
  refine StD.takeP (i := 1) (v := (.pointer (some ⟨pbl0, 0, none⟩))) rfl (fun _ => Yields.nilCheck rfl) rfl rfl trivial (by rintro _ _ _ ⟨_, _, _, _, h, _⟩; cases h) (by kernel_rfl) (listed' := #[true, true, false, false, false, false, false, false, false, false, false, false, false, false, false, false, false, false, false, false, false, false, false, false, false, false, false, false]) rfl ?_
  refine StD.takeP (i := 2) (v := (.pointer (some ⟨pbl0, 0, none⟩))) rfl (fun _ => Yields.fieldAddr (v := (.pointer (some ⟨pbl0, 0, none⟩))) rfl (fun _ => by kernel_rfl)) rfl rfl trivial (by rintro _ _ _ ⟨_, _, _, _, h, _⟩; cases h) (by kernel_rfl) (listed' := #[true, true, true, false, false, false, false, false, false, false, false, false, false, false, false, false, false, false, false, false, false, false, false, false, false, false, false, false]) rfl ?_
  refine StD.take [0, 1, 2, 4, 5, 6, 7, 9, 10, 11, 12, 14, 15, 17, 18, 19, 21, 22, 24, 26] (i := 3) (v := (.slice pA2 a2.length pc2)) rfl (Yields.load rfl (Loads.H1 0 rfl tc53 rfl)) rfl rfl trivial Among.refl (by rintro _ _ _ ⟨_, _, _, _, h, _⟩; cases h) (by kernel_rfl) (listed' := #[true, true, true, true, false, false, false, false, false, false, false, false, false, false, false, false, false, false, false, false, false, false, false, false, false, false, false, false]) rfl ?_
  refine StD.takeP (i := 4) (v := (.int .i64 a0)) rfl (fun _ => Yields.move rfl) rfl rfl trivial (by rintro _ _ _ ⟨_, _, _, _, h, _⟩; cases h) (by kernel_rfl) (listed' := #[true, true, true, true, true, false, false, false, false, false, false, false, false, false, false, false, false, false, false, false, false, false, false, false, false, false, false, false]) rfl ?_
  refine StD.takeP (i := 5) (v := (.pointer (some ⟨pbl0, 0, none⟩))) rfl (fun _ => Yields.move rfl) rfl rfl trivial (by rintro _ _ _ ⟨_, _, _, _, h, _⟩; cases h) (by kernel_rfl) (listed' := #[true, true, true, true, true, true, false, false, false, false, false, false, false, false, false, false, false, false, false, false, false, false, false, false, false, false, false, false]) rfl ?_
  refine StD.takeP (i := 6) (v := (.pointer (some ⟨pbl0, 0, none⟩))) rfl (fun _ => Yields.nilCheck rfl) rfl rfl trivial (by rintro _ _ _ ⟨_, _, _, _, h, _⟩; cases h) (by kernel_rfl) (listed' := #[true, true, true, true, true, true, true, false, false, false, false, false, false, false, false, false, false, false, false, false, false, false, false, false, false, false, false, false]) rfl ?_
  refine StD.takeP (i := 7) (v := (.pointer (some ⟨pbl0, 0, none⟩))) rfl (fun _ => Yields.fieldAddr (v := (.pointer (some ⟨pbl0, 0, none⟩))) rfl (fun _ => by kernel_rfl)) rfl rfl trivial (by rintro _ _ _ ⟨_, _, _, _, h, _⟩; cases h) (by kernel_rfl) (listed' := #[true, true, true, true, true, true, true, true, false, false, false, false, false, false, false, false, false, false, false, false, false, false, false, false, false, false, false, false]) rfl ?_
  refine StD.take [0, 1, 2, 4, 5, 6, 7, 9, 10, 11, 12, 14, 15, 17, 18, 19, 21, 22, 24, 26] (i := 8) (v := (.slice pA2 a2.length pc2)) rfl (Yields.load rfl (Loads.H1 0 rfl tc53 rfl)) rfl rfl trivial Among.refl (by rintro _ _ _ ⟨_, _, _, _, h, _⟩; cases h) (by kernel_rfl) (listed' := #[true, true, true, true, true, true, true, true, true, false, false, false, false, false, false, false, false, false, false, false, false, false, false, false, false, false, false, false]) rfl ?_
  refine StD.takeP (i := 9) (v := (.int .i64 a1)) rfl (fun _ => Yields.move rfl) rfl rfl trivial (by rintro _ _ _ ⟨_, _, _, _, h, _⟩; cases h) (by kernel_rfl) (listed' := #[true, true, true, true, true, true, true, true, true, true, false, false, false, false, false, false, false, false, false, false, false, false, false, false, false, false, false, false]) rfl ?_
  refine StD.takeP (i := 10) (v := (.pointer (some ⟨pbl0, 0, none⟩))) rfl (fun _ => Yields.move rfl) rfl rfl trivial (by rintro _ _ _ ⟨_, _, _, _, h, _⟩; cases h) (by kernel_rfl) (listed' := #[true, true, true, true, true, true, true, true, true, true, true, false, false, false, false, false, false, false, false, false, false, false, false, false, false, false, false, false]) rfl ?_
  refine StD.takeP (i := 11) (v := (.pointer (some ⟨pbl0, 0, none⟩))) rfl (fun _ => Yields.nilCheck rfl) rfl rfl trivial (by rintro _ _ _ ⟨_, _, _, _, h, _⟩; cases h) (by kernel_rfl) (listed' := #[true, true, true, true, true, true, true, true, true, true, true, true, false, false, false, false, false, false, false, false, false, false, false, false, false, false, false, false]) rfl ?_
  refine StD.takeP (i := 12) (v := (.pointer (some ⟨pbl0, 0, none⟩))) rfl (fun _ => Yields.fieldAddr (v := (.pointer (some ⟨pbl0, 0, none⟩))) rfl (fun _ => by kernel_rfl)) rfl rfl trivial (by rintro _ _ _ ⟨_, _, _, _, h, _⟩; cases h) (by kernel_rfl) (listed' := #[true, true, true, true, true, true, true, true, true, true, true, true, true, false, false, false, false, false, false, false, false, false, false, false, false, false, false, false]) rfl ?_
  refine StD.take [0, 1, 2, 4, 5, 6, 7, 9, 10, 11, 12, 14, 15, 17, 18, 19, 21, 22, 24, 26] (i := 13) (v := (.slice pA2 a2.length pc2)) rfl (Yields.load rfl (Loads.H1 0 rfl tc53 rfl)) rfl rfl trivial Among.refl (by rintro _ _ _ ⟨_, _, _, _, h, _⟩; cases h) (by kernel_rfl) (listed' := #[true, true, true, true, true, true, true, true, true, true, true, true, true, true, false, false, false, false, false, false, false, false, false, false, false, false, false, false]) rfl ?_
  refine StD.takeP (i := 14) (v := (.int .i64 a1)) rfl (fun _ => Yields.move rfl) rfl rfl trivial (by rintro _ _ _ ⟨_, _, _, _, h, _⟩; cases h) (by kernel_rfl) (listed' := #[true, true, true, true, true, true, true, true, true, true, true, true, true, true, true, false, false, false, false, false, false, false, false, false, false, false, false, false]) rfl ?_
  obtain ⟨x2, e3, hm⟩ := bS hm
  obtain ⟨jx4, jx5, cs6, R7, k8⟩ := ph2.idx e3
  obtain ⟨A9, c10, A12, c13, rfl, h11, h14⟩ := DPlace.opn R7
  refine St.rowo_at 1 rfl (by omega) ?_
  intro hA17
  refine StD.takeP (i := 15) (v := (.pointer (some ⟨bk pA2, bo pA2 + a1.toNat * 4, none⟩))) rfl (fun _ => Yields.idx (IdxAt.own hA17 jx4 jx5) ts53 rfl rfl) rfl rfl trivial (by rintro _ _ _ ⟨_, _, _, _, h, _⟩; cases h) (by kernel_rfl) (listed' := #[true, true, true, true, true, true, true, true, true, true, true, true, true, true, true, true, false, false, false, false, false, false, false, false, false, false, false, false]) rfl ?_
  refine StD.take [0, 1, 2, 4, 5, 6, 7, 9, 10, 11, 12, 14, 15, 17, 18, 19, 21, 22, 24, 26] (i := 16) (v := (.agg #[.slice A9 x2.l.length c10, .int .i64 x2.rank, .int .i64 x2.x.N, .slice A12 x2.x.Kids.length c13])) rfl (Yields.load rfl (Loads.rAn (us := [.slice A9 x2.l.length c10, .int .i64 x2.rank, .int .i64 x2.x.N, .slice A12 x2.x.Kids.length c13]) 1 rfl ta58 (k8))) rfl rfl trivial Among.refl (by rintro _ _ _ ⟨_, _, _, _, h, _⟩; cases h) (by kernel_rfl) (listed' := #[true, true, true, true, true, true, true, true, true, true, true, true, true, true, true, true, true, false, false, false, false, false, false, false, false, false, false, false]) rfl ?_
  refine StD.takeP (i := 17) (v := (.pointer (some ⟨pbl0, 0, none⟩))) rfl (fun _ => Yields.move rfl) rfl rfl trivial (by rintro _ _ _ ⟨_, _, _, _, h, _⟩; cases h) (by kernel_rfl) (listed' := #[true, true, true, true, true, true, true, true, true, true, true, true, true, true, true, true, true, true, false, false, false, false, false, false, false, false, false, false]) rfl ?_
  refine StD.takeP (i := 18) (v := (.pointer (some ⟨pbl0, 0, none⟩))) rfl (fun _ => Yields.nilCheck rfl) rfl rfl trivial (by rintro _ _ _ ⟨_, _, _, _, h, _⟩; cases h) (by kernel_rfl) (listed' := #[true, true, true, true, true, true, true, true, true, true, true, true, true, true, true, true, true, true, true, false, false, false, false, false, false, false, false, false]) rfl ?_
  refine StD.takeP (i := 19) (v := (.pointer (some ⟨pbl0, 0, none⟩))) rfl (fun _ => Yields.fieldAddr (v := (.pointer (some ⟨pbl0, 0, none⟩))) rfl (fun _ => by kernel_rfl)) rfl rfl trivial (by rintro _ _ _ ⟨_, _, _, _, h, _⟩; cases h) (by kernel_rfl) (listed' := #[true, true, true, true, true, true, true, true, true, true, true, true, true, true, true, true, true, true, true, true, false, false, false, false, false, false, false, false]) rfl ?_
  refine StD.take [0, 1, 2, 4, 5, 6, 7, 9, 10, 11, 12, 14, 15, 17, 18, 19, 21, 22, 24, 26] (i := 20) (v := (.slice pA2 a2.length pc2)) rfl (Yields.load rfl (Loads.H1 0 rfl tc53 rfl)) rfl rfl trivial Among.refl (by rintro _ _ _ ⟨_, _, _, _, h, _⟩; cases h) (by kernel_rfl) (listed' := #[true, true, true, true, true, true, true, true, true, true, true, true, true, true, true, true, true, true, true, true, true, false, false, false, false, false, false, false]) rfl ?_
  refine StD.takeP (i := 21) (v := (.int .i64 a0)) rfl (fun _ => Yields.move rfl) rfl rfl trivial (by rintro _ _ _ ⟨_, _, _, _, h, _⟩; cases h) (by kernel_rfl) (listed' := #[true, true, true, true, true, true, true, true, true, true, true, true, true, true, true, true, true, true, true, true, true, true, false, false, false, false, false, false]) rfl ?_
  obtain ⟨x18, e19, hm⟩ := bS hm
  obtain ⟨jx20, jx21, cs22, R23, k24⟩ := ph2.idx e19
  obtain ⟨A25, c26, A28, c29, rfl, h27, h30⟩ := DPlace.opn R23
  refine StD.takeP (i := 22) (v := (.pointer (some ⟨bk pA2, bo pA2 + a0.toNat * 4, none⟩))) rfl (fun _ => Yields.idx (IdxAt.own hA17 jx20 jx21) ts53 rfl rfl) rfl rfl trivial (by rintro _ _ _ ⟨_, _, _, _, h, _⟩; cases h) (by kernel_rfl) (listed' := #[true, true, true, true, true, true, true, true, true, true, true, true, true, true, true, true, true, true, true, true, true, true, true, false, false, false, false, false]) rfl ?_
  refine StD.take [0, 1, 2, 4, 5, 6, 7, 9, 10, 11, 12, 14, 15, 17, 18, 19, 21, 22, 24, 26] (i := 23) (v := (.agg #[.slice A25 x18.l.length c26, .int .i64 x18.rank, .int .i64 x18.x.N, .slice A28 x18.x.Kids.length c29])) rfl (Yields.load rfl (Loads.rAn (us := [.slice A25 x18.l.length c26, .int .i64 x18.rank, .int .i64 x18.x.N, .slice A28 x18.x.Kids.length c29]) 1 rfl ta58 (k24))) rfl rfl trivial Among.refl (by rintro _ _ _ ⟨_, _, _, _, h, _⟩; cases h) (by kernel_rfl) (listed' := #[true, true, true, true, true, true, true, true, true, true, true, true, true, true, true, true, true, true, true, true, true, true, true, true, false, false, false, false]) rfl ?_
  obtain ⟨x33, e34, hm⟩ := bS hm
  obtain ⟨jx35, jx36, cs37, R38, k39⟩ := ph2.idx e34
  obtain ⟨A40, c41, A43, c44, rfl, h42, h45⟩ := DPlace.opn R38
  refine StD.takeP (i := 24) (v := (.pointer (some ⟨bk pA2, bo pA2 + a0.toNat * 4, none⟩))) rfl (fun _ => Yields.idx (IdxAt.own hA17 jx35 jx36) ts53 rfl rfl) rfl rfl trivial (by rintro _ _ _ ⟨_, _, _, _, h, _⟩; cases h) (by kernel_rfl) (listed' := #[true, true, true, true, true, true, true, true, true, true, true, true, true, true, true, true, true, true, true, true, true, true, true, true, true, false, false, false]) rfl ?_
  refine StD.only (i := 25) rfl (by kernel_rfl) (listed' := #[true, true, true, true, true, true, true, true, true, true, true, true, true, true, true, true, true, true, true, true, true, true, true, true, true, true, false, false]) rfl ?_
  intro hcl48
  obtain ⟨x51, e52, hm⟩ := bS hm
  refine St.putKn (R := [blk pbl0 (.cells #[.slice pA2 a2.length pc2, .func (.func a3) #[] #[]] 55 (0, 0))]) e52 ph2 (show (KDPlace).R _ [.slice A9 x2.l.length c10, .int .i64 x2.rank, .int .i64 x2.x.N, .slice A12 x2.x.Kids.length c13] x2 from (DPlace.of h11 h14)) rfl rfl rfl 1 rfl rfl ta58 rfl trivial ?_
  intro cells50 h49
  try rw [upd_len e52]
  refine StD.next hcl48 (fun h => by cases h) ?_
  obtain ⟨x53, e54, hm⟩ := bS hm
  obtain ⟨jx55, jx56, cs57, R58, k59⟩ := h49.idx e54
  obtain ⟨A60, c61, A63, c64, rfl, h62, h65⟩ := DPlace.opn R58
  refine StD.takeP (i := 26) (v := (.pointer (some ⟨bk pA2, bo pA2 + a1.toNat * 4, none⟩))) rfl (fun _ => Yields.idx (IdxAt.own hA17 jx55 jx56) ts53 rfl rfl) rfl rfl trivial (by rintro _ _ _ ⟨_, _, _, _, h, _⟩; cases h) (by kernel_rfl) (listed' := #[true, true, true, true, true, true, true, true, true, true, true, true, true, true, true, true, true, true, true, true, true, true, true, true, true, true, true, false]) rfl ?_
  refine StD.only (i := 27) rfl (by kernel_rfl) (listed' := #[true, true, true, true, true, true, true, true, true, true, true, true, true, true, true, true, true, true, true, true, true, true, true, true, true, true, true, true]) rfl ?_
  intro hcl68
  obtain ⟨x71, e72, hm⟩ := bS hm
  refine St.putKn (R := [blk pbl0 (.cells #[.slice pA2 x51.length pc2, .func (.func a3) #[] #[]] 55 (0, 0))]) e72 h49 (show (KDPlace).R _ [.slice A25 x18.l.length c26, .int .i64 x18.rank, .int .i64 x18.x.N, .slice A28 x18.x.Kids.length c29] x18 from (DPlace.of h27 h30)) rfl rfl rfl 0 rfl rfl ta58 rfl trivial ?_
  intro cells70 h69
  try rw [upd_len e72]
  refine StD.next hcl68 (fun h => by cases h) ?_
  refine StD.done (by kernel_rfl) ?_
  obtain rfl := sI hm
  exact St.endR0 rfl ⟨pA2, pc2, cells70, rfl, h69, (Bnd.of_upd (Bnd.of_upd pbd2 e52) e72), rfl⟩ (fun w hs => Among.of (Among.take 1 rfl rfl (Among.take 0 rfl rfl Among.none)) w hs)

theorem m_heap_up_sp {F : PH} {g : Nat} {a0 : Int} {a1 : List DPlace} {a2 : Nat} {pbl0 : Nat} {pA1 : Option Addr} {pc1 : Nat} {pcl1 : List Value} (ph1 : Cat KDPlace F pcl1 a1) (pbd1 : Bnd 64 a1) (ph2 : a2 ∈ [36, 37, 38, 39]) {r : List DPlace} (hm : m_heap_up g a0 a1 a2 = some r) :
    CallSp Try.prog 40 #[.iface 49 (.pointer (some ⟨pbl0, 0, none⟩)), .int .i64 a0] F [blk pbl0 (.cells #[.slice pA1 a1.length pc1, .func (.func a2) #[] #[]] 55 (0, 0)), rowo pA1 a1.length pc1 58 4 pcl1] (fun u F' H' => ∃ (G1 : Option Addr) (e1 : Nat) (gl1 : List Value), u = (.tuple #[]) ∧ Cat KDPlace F' gl1 r ∧ Bnd 64 r ∧ H' = [blk pbl0 (.cells #[.slice G1 r.length e1, .func (.func a2) #[] #[]] 55 (0, 0)), rowo G1 r.length e1 58 4 gl1]) := by
  unfold m_heap_up at hm
  refine CallSp.enter (args := [.iface 49 (.pointer (some ⟨pbl0, 0, none⟩)), .int .i64 a0]) Try.func40 rfl rfl ?_
  intro w0 m0 hm0
  refine St.block ?_
  refine St.loopM hm (fun s11 a w => ∃ (A16 : Option Addr) (c17 : Nat) (cells19 : List Value) (F21 : PH), PH.le F F21 ∧ Cat KDPlace F21 cells19 s11.1 ∧ Bnd 64 s11.1 ∧ Has Try.f40.ntmps a [(0, .iface 49 (.pointer (some ⟨pbl0, 0, none⟩))), (1, .int .i64 s11.2)] ∧ Sat ⟨w0, fun b => m0 b ≠ none, F⟩ F21 [blk pbl0 (.cells #[.slice A16 s11.1.length c17, .func (.func a2) #[] #[]] 55 (0, 0)), rowo A16 s11.1.length c17 58 4 cells19] w) ?_ ?_
  · skip
    intro a w ha hs
    exact ⟨pA1, pc1, pcl1, F, (PH.le_refl _), ph1, pbd1, ha.covers ⟨rfl, rfl, trivial⟩, (Among.of (Among.take 0 rfl rfl (Among.take 0 rfl rfl Among.none)) _ hs)⟩
  · rintro s11 o12 co13 hm ho14 a w ⟨A16, c17, cells19, F21, l22, h18, b20, ha, hs⟩
    refine St.use (?_ : St _ _ _ _ _ _) ha hs
    clear ha hs a w
    refine St.block ?_
    refine St.seq ?_
    refine St.region ?_
    refine St.val (v := (.int .i64 s11.2)) (Yields.move rfl) trivial rfl rfl ?_
    refine St.val (v := (.int .i64 (Mir.w64 (s11.2 - 1)))) (Yields.subw rfl rfl) trivial rfl rfl ?_
    obtain ⟨x23, e24, hm⟩ := bS hm
    refine St.val (v := (.int .i64 x23)) (Yields.quow e24 rfl rfl) trivial rfl rfl ?_
    refine St.val (v := (.int .i64 x23)) (Yields.assign rfl) trivial rfl rfl ?_
    refine St.nil ?_
    refine St.norm ?_
    refine St.seq ?_
    obtain ⟨z25, hm, hk28⟩ := bS hm
    refine St.cutI (fun a w => ∃ (F26 : PH), PH.le F21 F26 ∧ Has Try.f40.ntmps a [(0, .iface 49 (.pointer (some ⟨pbl0, 0, none⟩))), (1, .int .i64 s11.2), (4, .int .i64 x23), (17, .bool z25)] ∧ Sat ⟨w0, fun b => m0 b ≠ none, F⟩ F26 [blk pbl0 (.cells #[.slice A16 s11.1.length c17, .func (.func a2) #[] #[]] 55 (0, 0)), rowo A16 s11.1.length c17 58 4 cells19] w) ?_ ?_
    · skip
      refine St.region ?_
      refine St.val (v := (.int .i64 x23)) (Yields.move rfl) trivial rfl rfl ?_
      refine St.val (v := (.int .i64 s11.2)) (Yields.move rfl) trivial rfl rfl ?_
      by_cases q29 : x23 = s11.2
      · replace hm := iT hm q29
        refine St.val (v := (.bool true)) (Yields.is q29 (Yields.eq rfl rfl)) trivial rfl rfl ?_
        refine St.val (v := (.bool true)) (Yields.move rfl) trivial rfl rfl ?_
        refine St.unwanted rfl rfl rfl ?_
        refine St.unwanted rfl rfl rfl ?_
        refine St.unwanted rfl rfl rfl ?_
        refine St.unwanted rfl rfl rfl ?_
        refine St.unwanted rfl rfl rfl ?_
        refine St.val (v := (.bool true)) (Yields.pick_t rfl rfl) trivial rfl rfl ?_
        refine St.nil ?_
        obtain rfl := sI hm
        intro a w ha hs
        exact ⟨F21, (PH.le_refl _), ha.covers ⟨rfl, rfl, rfl, rfl, trivial⟩, (Among.of (Among.take 0 rfl rfl (Among.take 0 rfl rfl Among.none)) _ hs)⟩
      · replace hm := iF hm q29
        refine St.val (v := (.bool false)) (Yields.isnt q29 (Yields.eq rfl rfl)) trivial rfl rfl ?_
        refine St.val (v := (.bool false)) (Yields.move rfl) trivial rfl rfl ?_
        refine St.val (v := (.iface 49 (.pointer (some ⟨pbl0, 0, none⟩)))) (Yields.move rfl) rfl rfl rfl ?_
        refine St.val (v := (.int .i64 s11.2)) (Yields.move rfl) rfl rfl rfl ?_
        refine St.val (v := (.int .i64 x23)) (Yields.move rfl) rfl rfl rfl ?_
        refine St.pick (R := [blk pbl0 (.cells #[.slice A16 s11.1.length c17, .func (.func a2) #[] #[]] 55 (0, 0))]) 1 rfl rfl ?_
        refine St.pick (R := [rowo A16 s11.1.length c17 58 4 cells19]) 1 rfl rfl ?_
        obtain ⟨q30, e31, hm⟩ := bS hm
        refine St.invoke [] (m_api_STree_Less_sp h18 b20 ph2 e31) rfl (fun _ ha => ev2 ha rfl rfl) rfl iv49_Less rfl rfl rfl ?_
        rintro _ F32 _ ⟨rfl, rfl⟩ l33
        refine St.val (v := (.bool (!q30))) (Yields.not rfl) rfl rfl rfl ?_
        refine St.val (v := (.bool (!q30))) (Yields.pick_f rfl rfl) trivial rfl rfl ?_
        refine St.nil ?_
        obtain rfl := sI hm
        intro a w ha hs
        exact ⟨F32, l33, ha.covers ⟨rfl, rfl, rfl, rfl, trivial⟩, (Among.of (Among.take 0 rfl rfl (Among.take 0 rfl rfl Among.none)) _ hs)⟩
    · rintro a w ⟨F26, l27, ha, hs⟩
      replace hm := hk28
      refine St.use (?_ : St _ _ _ _ _ _) ha hs
      clear ha hs a w
      refine St.cond_b rfl ?_ ?_
      · intro q34
        replace q34 : z25 = true := q34
        replace hm := iT hm q34
        refine St.exit ?_
        refine St.thenexit ?_
        refine St.inpass rfl ?_
        refine St.thenexit ?_
        refine St.inexit ?_
        obtain rfl := sI hm
        obtain rfl := aR ho14
        exact St.endR0 rfl ⟨A16, c17, cells19, rfl, (Cat.mono l27 h18), b20, rfl⟩ (fun w hs => Among.of (Among.take 0 rfl rfl (Among.take 0 rfl rfl Among.none)) w hs)
      · intro q35
        replace q35 : ¬ (z25 = true) := bf q35
        replace hm := iF hm q35
        refine St.skip ?_
        refine St.norm ?_
        refine St.seq ?_
        refine St.region ?_
        refine St.val (v := (.iface 49 (.pointer (some ⟨pbl0, 0, none⟩)))) (Yields.move rfl) trivial rfl rfl ?_
        refine St.val (v := (.int .i64 x23)) (Yields.move rfl) trivial rfl rfl ?_
        refine St.val (v := (.int .i64 s11.2)) (Yields.move rfl) trivial rfl rfl ?_
        refine St.pick (R := [blk pbl0 (.cells #[.slice A16 s11.1.length c17, .func (.func a2) #[] #[]] 55 (0, 0))]) 1 rfl rfl ?_
        refine St.pick (R := [rowo A16 s11.1.length c17 58 4 cells19]) 1 rfl rfl ?_
        obtain ⟨q36, e37, hm⟩ := bS hm
        refine St.invoke [] (m_api_STree_Swap_sp (Cat.mono l27 h18) b20 ph2 e37) rfl (fun _ ha => ev2 ha rfl rfl) rfl iv49_Swap rfl rfl trivial ?_
        rintro _ F38 _ ⟨A40, c41, cells44, rfl, h42, b45, rfl⟩ l39
        refine St.nil ?_
        refine St.norm ?_
        refine St.region ?_
        refine St.val (v := (.int .i64 x23)) (Yields.move rfl) trivial rfl rfl ?_
        refine St.val (v := (.int .i64 x23)) (Yields.assign rfl) trivial rfl rfl ?_
        refine St.nil ?_
        refine St.innorm ?_
        refine St.norm ?_
        obtain rfl := sI hm
        intro a w ha hs
        exact ⟨(q36, x23), aL ho14, A40, c41, cells44, F38, (PH.le_trans l22 (PH.le_trans l27 l39)), h42, b45, ha.covers ⟨rfl, rfl, trivial⟩, (Among.of (Among.take 0 rfl rfl (Among.take 0 rfl rfl Among.none)) _ hs)⟩

theorem m_heap_Push_sp {F : PH} {g : Nat} {a0 : DPlace} {a1 : List DPlace} {a2 : Nat} {pbl0 : Nat} {pA0_0 : Option Addr} {pc0_0 : Nat} {pA0_1 : Option Addr} {pc0_1 : Nat} {pA1 : Option Addr} {pc1 : Nat} {pcl1 : List Value} (ph0_0 : Fsl 8 (Kind.int .i64) F pA0_0 pc0_0 a0.l) (ph0_1 : Fsl 32 KDSTree F pA0_1 pc0_1 a0.x.Kids) (ph1 : Cat KDPlace F pcl1 a1) (pbd1 : Bnd 64 a1) (ph2 : a2 ∈ [36, 37, 38, 39]) {r : List DPlace} (hm : m_heap_Push g a0 a1 a2 = some r) :
    CallSp Try.prog 30 #[.iface 49 (.pointer (some ⟨pbl0, 0, none⟩)), .iface 58 (.agg #[.slice pA0_0 a0.l.length pc0_0, .int .i64 a0.rank, .int .i64 a0.x.N, .slice pA0_1 a0.x.Kids.length pc0_1])] F [blk pbl0 (.cells #[.slice pA1 a1.length pc1, .func (.func a2) #[] #[]] 55 (0, 0)), rowo pA1 a1.length pc1 58 4 pcl1] (fun u F' H' => ∃ (G1 : Option Addr) (e1 : Nat) (gl1 : List Value), u = (.tuple #[]) ∧ Cat KDPlace F' gl1 r ∧ Bnd 64 r ∧ H' = [blk pbl0 (.cells #[.slice G1 r.length e1, .func (.func a2) #[] #[]] 55 (0, 0)), rowo G1 r.length e1 58 4 gl1]) := by
  unfold m_heap_Push at hm
  refine CallSp.enter (args := [.iface 49 (.pointer (some ⟨pbl0, 0, none⟩)), .iface 58 (.agg #[.slice pA0_0 a0.l.length pc0_0, .int .i64 a0.rank, .int .i64 a0.x.N, .slice pA0_1 a0.x.Kids.length pc0_1])]) Try.func30 rfl rfl ?_
  intro w0 m0 hm0
  refine St.seq ?_
  refine St.region ?_
  refine St.val (v := (.iface 49 (.pointer (some ⟨pbl0, 0, none⟩)))) (Yields.move rfl) trivial rfl rfl ?_
  refine St.val (v := (.iface 58 (.agg #[.slice pA0_0 a0.l.length pc0_0, .int .i64 a0.rank, .int .i64 a0.x.N, .slice pA0_1 a0.x.Kids.length pc0_1]))) (Yields.move rfl) trivial rfl rfl ?_
  refine St.pick (R := [blk pbl0 (.cells #[.slice pA1 a1.length pc1, .func (.func a2) #[] #[]] 55 (0, 0))]) 1 rfl rfl ?_
  refine St.pick (R := [rowo pA1 a1.length pc1 58 4 pcl1]) 1 rfl rfl ?_
  obtain ⟨q4, e5, hm⟩ := bS hm
  refine St.invoke [] (m_api_STree_Push_sp (a0 := a0) ph0_0 ph0_1 ph1 pbd1 ph2 e5) rfl (fun _ ha => ev1 ha rfl) rfl iv49_Push rfl rfl trivial ?_
  rintro _ F6 _ ⟨A8, c9, cells12, rfl, h10, b13, rfl⟩ l7
  refine St.nil ?_
  refine St.norm ?_
  refine St.region ?_
  refine St.val (v := (.iface 49 (.pointer (some ⟨pbl0, 0, none⟩)))) (Yields.move rfl) trivial rfl rfl ?_
  refine St.val (v := (.iface 49 (.pointer (some ⟨pbl0, 0, none⟩)))) (Yields.move rfl) trivial rfl rfl ?_
  refine St.pick (R := [blk pbl0 (.cells #[.slice A8 q4.length c9, .func (.func a2) #[] #[]] 55 (0, 0))]) 1 rfl rfl ?_
  refine St.pick (R := [rowo A8 q4.length c9 58 4 cells12]) 1 rfl rfl ?_
  obtain ⟨q14, e15, hm⟩ := bS hm
  refine St.invoke [] (m_api_STree_Len_sp h10 b13 ph2 e15) rfl (fun _ _ => ev0) rfl iv49_Len rfl rfl trivial ?_
  rintro _ F16 _ ⟨rfl, rfl⟩ l17
  refine St.val (v := (.int .i64 (Mir.w64 (q14 - 1)))) (Yields.subw rfl rfl) trivial rfl rfl ?_
  refine St.pick (R := [blk pbl0 (.cells #[.slice A8 q4.length c9, .func (.func a2) #[] #[]] 55 (0, 0))]) 1 rfl rfl ?_
  refine St.pick (R := [rowo A8 q4.length c9 58 4 cells12]) 1 rfl rfl ?_
  obtain ⟨q18, e19, hm⟩ := bS hm
  refine St.call [] (m_heap_up_sp (Cat.mono l17 h10) b13 ph2 e19) rfl (fun _ ha => ev2 ha rfl rfl) rfl en40 rfl rfl trivial ?_
  rintro _ F20 _ ⟨A22, c23, cells26, rfl, h24, b27, rfl⟩ l21
  refine St.nil ?_
  obtain rfl := sI hm
  exact St.endR0 rfl ⟨A22, c23, cells26, rfl, h24, b27, rfl⟩ (fun w hs => Among.of (Among.take 0 rfl rfl (Among.take 0 rfl rfl Among.none)) w hs)

theorem m_heap_down_sp {F : PH} {g : Nat} {a0 : Int} {a1 : Int} {a2 : List DPlace} {a3 : Nat} {pbl0 : Nat} {pA2 : Option Addr} {pc2 : Nat} {pcl2 : List Value} (ph2 : Cat KDPlace F pcl2 a2) (pbd2 : Bnd 64 a2) (ph3 : a3 ∈ [36, 37, 38, 39]) {r : Bool × List DPlace} (hm : m_heap_down g a0 a1 a2 a3 = some r) :
    CallSp Try.prog 41 #[.iface 49 (.pointer (some ⟨pbl0, 0, none⟩)), .int .i64 a0, .int .i64 a1] F [blk pbl0 (.cells #[.slice pA2 a2.length pc2, .func (.func a3) #[] #[]] 55 (0, 0)), rowo pA2 a2.length pc2 58 4 pcl2] (fun u F' H' => ∃ (G2 : Option Addr) (e2 : Nat) (gl2 : List Value), u = (.bool r.1) ∧ Cat KDPlace F' gl2 r.2 ∧ Bnd 64 r.2 ∧ H' = [blk pbl0 (.cells #[.slice G2 r.2.length e2, .func (.func a3) #[] #[]] 55 (0, 0)), rowo G2 r.2.length e2 58 4 gl2]) := by
  unfold m_heap_down at hm
  refine CallSp.enter (args := [.iface 49 (.pointer (some ⟨pbl0, 0, none⟩)), .int .i64 a0, .int .i64 a1]) Try.func41 rfl rfl ?_
  intro w0 m0 hm0
  refine St.seq ?_
  refine St.region ?_
  refine St.val (v := (.bool false)) (Yields.assign rfl) trivial rfl rfl ?_
  refine St.nil ?_
  refine St.norm ?_
  refine St.seq ?_
  refine St.region ?_
  refine St.val (v := (.int .i64 a0)) (Yields.move rfl) trivial rfl rfl ?_
  refine St.val (v := (.int .i64 a0)) (Yields.assign rfl) trivial rfl rfl ?_
  refine St.nil ?_
  refine St.norm ?_
  obtain ⟨z2, hm, hk11⟩ := bS hm
  refine St.cutI (fun a w => ∃ (A6 : Option Addr) (c7 : Nat) (cells9 : List Value) (F3 : PH), PH.le F F3 ∧ Cat KDPlace F3 cells9 z2.1 ∧ Bnd 64 z2.1 ∧ Has Try.f41.ntmps a [(1, .int .i64 a0), (7, .int .i64 z2.2)] ∧ Sat ⟨w0, fun b => m0 b ≠ none, F⟩ F3 [blk pbl0 (.cells #[.slice A6 z2.1.length c7, .func (.func a3) #[] #[]] 55 (0, 0)), rowo A6 z2.1.length c7 58 4 cells9] w) ?_ ?_
  · skip
    refine St.block ?_
    refine St.loopM hm (fun s21 a w => ∃ (A26 : Option Addr) (c27 : Nat) (cells29 : List Value) (F31 : PH), PH.le F F31 ∧ Cat KDPlace F31 cells29 s21.1 ∧ Bnd 64 s21.1 ∧ Has Try.f41.ntmps a [(0, .iface 49 (.pointer (some ⟨pbl0, 0, none⟩))), (1, .int .i64 a0), (2, .int .i64 a1), (7, .int .i64 s21.2)] ∧ Sat ⟨w0, fun b => m0 b ≠ none, F⟩ F31 [blk pbl0 (.cells #[.slice A26 s21.1.length c27, .func (.func a3) #[] #[]] 55 (0, 0)), rowo A26 s21.1.length c27 58 4 cells29] w) ?_ ?_
    · skip
      intro a w ha hs
      exact ⟨pA2, pc2, pcl2, F, (PH.le_refl _), ph2, pbd2, ha.covers ⟨rfl, rfl, rfl, rfl, trivial⟩, (Among.of (Among.take 0 rfl rfl (Among.take 0 rfl rfl Among.none)) _ hs)⟩
    · rintro s21 o22 co23 hm ho24 a w ⟨A26, c27, cells29, F31, l32, h28, b30, ha, hs⟩
      refine St.use (?_ : St _ _ _ _ _ _) ha hs
      clear ha hs a w
      refine St.block ?_
      refine St.seq ?_
      refine St.region ?_
      refine St.val (v := (.int .i64 s21.2)) (Yields.move rfl) trivial rfl rfl ?_
      refine St.val (v := (.int .i64 (Mir.w64 (2 * s21.2)))) (Yields.mulw rfl rfl) trivial rfl rfl ?_
      refine St.val (v := (.int .i64 (Mir.w64 ((Mir.w64 (2 * s21.2)) + 1)))) (Yields.addw rfl rfl) trivial rfl rfl ?_
      refine St.val (v := (.int .i64 (Mir.w64 ((Mir.w64 (2 * s21.2)) + 1)))) (Yields.assign rfl) trivial rfl rfl ?_
      refine St.nil ?_
      refine St.norm ?_
      refine St.seq ?_
      obtain ⟨z33, hm, hk34⟩ := bS hm
      refine St.cutI (fun a w => Has Try.f41.ntmps a [(0, .iface 49 (.pointer (some ⟨pbl0, 0, none⟩))), (1, .int .i64 a0), (2, .int .i64 a1), (7, .int .i64 s21.2), (8, .int .i64 (Mir.w64 ((Mir.w64 (2 * s21.2)) + 1))), (21, .bool z33)] ∧ Sat ⟨w0, fun b => m0 b ≠ none, F⟩ F31 [blk pbl0 (.cells #[.slice A26 s21.1.length c27, .func (.func a3) #[] #[]] 55 (0, 0)), rowo A26 s21.1.length c27 58 4 cells29] w) ?_ ?_
      · skip
        refine St.region ?_
        refine St.val (v := (.int .i64 (Mir.w64 ((Mir.w64 (2 * s21.2)) + 1)))) (Yields.move rfl) trivial rfl rfl ?_
        refine St.val (v := (.int .i64 a1)) (Yields.move rfl) trivial rfl rfl ?_
        by_cases q35 : Mir.w64 ((Mir.w64 (2 * s21.2)) + 1) ≥ a1
        · replace hm := iT hm q35
          refine St.val (v := (.bool true)) (Yields.is q35 (Yields.ge rfl rfl)) trivial rfl rfl ?_
          refine St.val (v := (.bool true)) (Yields.move rfl) trivial rfl rfl ?_
          refine St.unwanted rfl rfl rfl ?_
          refine St.unwanted rfl rfl rfl ?_
          refine St.val (v := (.bool true)) (Yields.pick_t rfl rfl) trivial rfl rfl ?_
          refine St.nil ?_
          obtain rfl := sI hm
          intro a w ha hs
          exact ⟨ha.covers ⟨rfl, rfl, rfl, rfl, rfl, rfl, trivial⟩, (Among.of (Among.take 0 rfl rfl (Among.take 0 rfl rfl Among.none)) _ hs)⟩
        · replace hm := iF hm q35
          refine St.val (v := (.bool false)) (Yields.isnt q35 (Yields.ge rfl rfl)) trivial rfl rfl ?_
          refine St.val (v := (.bool false)) (Yields.move rfl) trivial rfl rfl ?_
          refine St.val (v := (.int .i64 (Mir.w64 ((Mir.w64 (2 * s21.2)) + 1)))) (Yields.move rfl) rfl rfl rfl ?_
          refine St.val (v := (.bool (decide (Mir.w64 ((Mir.w64 (2 * s21.2)) + 1) < 0)))) (Yields.lt rfl rfl) rfl rfl rfl ?_
          refine St.val (v := (.bool (decide (Mir.w64 ((Mir.w64 (2 * s21.2)) + 1) < 0)))) (Yields.pick_f rfl rfl) trivial rfl rfl ?_
          refine St.nil ?_
          obtain rfl := sI hm
          intro a w ha hs
          exact ⟨ha.covers ⟨rfl, rfl, rfl, rfl, rfl, rfl, trivial⟩, (Among.of (Among.take 0 rfl rfl (Among.take 0 rfl rfl Among.none)) _ hs)⟩
      · rintro a w ⟨ha, hs⟩
        replace hm := hk34
        refine St.use (?_ : St _ _ _ _ _ _) ha hs
        clear ha hs a w
        refine St.cond_b rfl ?_ ?_
        · intro q36
          replace q36 : z33 = true := q36
          replace hm := iT hm q36
          refine St.exit ?_
          refine St.thenexit ?_
          refine St.inpass rfl ?_
          refine St.thenexit ?_
          refine St.inexit ?_
          obtain rfl := sI hm
          obtain rfl := aR ho24
          intro a w ha hs
          exact ⟨A26, c27, cells29, F31, l32, h28, b30, ha.covers ⟨rfl, rfl, trivial⟩, (Among.of (Among.take 0 rfl rfl (Among.take 0 rfl rfl Among.none)) _ hs)⟩
        · intro q37
          replace q37 : ¬ (z33 = true) := bf q37
          replace hm := iF hm q37
          refine St.skip ?_
          refine St.norm ?_
          refine St.seq ?_
          refine St.region ?_
          refine St.val (v := (.int .i64 (Mir.w64 ((Mir.w64 (2 * s21.2)) + 1)))) (Yields.move rfl) trivial rfl rfl ?_
          refine St.val (v := (.int .i64 (Mir.w64 ((Mir.w64 (2 * s21.2)) + 1)))) (Yields.assign rfl) trivial rfl rfl ?_
          refine St.nil ?_
          refine St.norm ?_
          obtain ⟨z38, hm, hk41⟩ := bS hm
          refine St.cutI (fun a w => ∃ (F39 : PH), PH.le F31 F39 ∧ Has Try.f41.ntmps a [(0, .iface 49 (.pointer (some ⟨pbl0, 0, none⟩))), (1, .int .i64 a0), (2, .int .i64 a1), (7, .int .i64 s21.2), (9, .int .i64 z38)] ∧ Sat ⟨w0, fun b => m0 b ≠ none, F⟩ F39 [blk pbl0 (.cells #[.slice A26 s21.1.length c27, .func (.func a3) #[] #[]] 55 (0, 0)), rowo A26 s21.1.length c27 58 4 cells29] w) ?_ ?_
          · skip
            refine St.seq ?_
            refine St.region ?_
            refine St.val (v := (.int .i64 (Mir.w64 ((Mir.w64 (2 * s21.2)) + 1)))) (Yields.move rfl) trivial rfl rfl ?_
            refine St.val (v := (.int .i64 (Mir.w64 ((Mir.w64 ((Mir.w64 (2 * s21.2)) + 1)) + 1)))) (Yields.addw rfl rfl) trivial rfl rfl ?_
            refine St.val (v := (.int .i64 (Mir.w64 ((Mir.w64 ((Mir.w64 (2 * s21.2)) + 1)) + 1)))) (Yields.assign rfl) trivial rfl rfl ?_
            refine St.nil ?_
            refine St.norm ?_
            obtain ⟨z42, hm, hk45⟩ := bS hm
            refine St.cutI (fun a w => ∃ (F43 : PH), PH.le F31 F43 ∧ Has Try.f41.ntmps a [(0, .iface 49 (.pointer (some ⟨pbl0, 0, none⟩))), (1, .int .i64 a0), (2, .int .i64 a1), (7, .int .i64 s21.2), (9, .int .i64 (Mir.w64 ((Mir.w64 (2 * s21.2)) + 1))), (10, .int .i64 (Mir.w64 ((Mir.w64 ((Mir.w64 (2 * s21.2)) + 1)) + 1))), (33, .bool z42)] ∧ Sat ⟨w0, fun b => m0 b ≠ none, F⟩ F43 [blk pbl0 (.cells #[.slice A26 s21.1.length c27, .func (.func a3) #[] #[]] 55 (0, 0)), rowo A26 s21.1.length c27 58 4 cells29] w) ?_ ?_
            · skip
              refine St.region ?_
              refine St.val (v := (.int .i64 (Mir.w64 ((Mir.w64 ((Mir.w64 (2 * s21.2)) + 1)) + 1)))) (Yields.move rfl) trivial rfl rfl ?_
              refine St.val (v := (.int .i64 a1)) (Yields.move rfl) trivial rfl rfl ?_
              by_cases q46 : Mir.w64 ((Mir.w64 ((Mir.w64 (2 * s21.2)) + 1)) + 1) < a1
              · replace hm := iT hm q46
                refine St.val (v := (.bool true)) (Yields.is q46 (Yields.lt rfl rfl)) trivial rfl rfl ?_
                refine St.val (v := (.bool true)) (Yields.move rfl) trivial rfl rfl ?_
                refine St.val (v := (.iface 49 (.pointer (some ⟨pbl0, 0, none⟩)))) (Yields.move rfl) rfl rfl rfl ?_
                refine St.val (v := (.int .i64 (Mir.w64 ((Mir.w64 ((Mir.w64 (2 * s21.2)) + 1)) + 1)))) (Yields.move rfl) rfl rfl rfl ?_
                refine St.val (v := (.int .i64 (Mir.w64 ((Mir.w64 (2 * s21.2)) + 1)))) (Yields.move rfl) rfl rfl rfl ?_
                refine St.pick (R := [blk pbl0 (.cells #[.slice A26 s21.1.length c27, .func (.func a3) #[] #[]] 55 (0, 0))]) 1 rfl rfl ?_
                refine St.pick (R := [rowo A26 s21.1.length c27 58 4 cells29]) 1 rfl rfl ?_
                obtain ⟨q47, e48, hm⟩ := bS hm
                refine St.invoke [] (m_api_STree_Less_sp h28 b30 ph3 e48) rfl (fun _ ha => ev2 ha rfl rfl) rfl iv49_Less rfl rfl rfl ?_
                rintro _ F49 _ ⟨rfl, rfl⟩ l50
                refine St.val (v := (.bool q47)) (Yields.pick_t rfl rfl) trivial rfl rfl ?_
                refine St.nil ?_
                obtain rfl := sI hm
                intro a w ha hs
                exact ⟨F49, l50, ha.covers ⟨rfl, rfl, rfl, rfl, rfl, rfl, rfl, trivial⟩, (Among.of (Among.take 0 rfl rfl (Among.take 0 rfl rfl Among.none)) _ hs)⟩
              · replace hm := iF hm q46
                refine St.val (v := (.bool false)) (Yields.isnt q46 (Yields.lt rfl rfl)) trivial rfl rfl ?_
                refine St.val (v := (.bool false)) (Yields.move rfl) trivial rfl rfl ?_
                refine St.unwanted rfl rfl rfl ?_
                refine St.unwanted rfl rfl rfl ?_
                refine St.unwanted rfl rfl rfl ?_
                refine St.unwanted rfl rfl rfl ?_
                refine St.val (v := (.bool false)) (Yields.pick_f rfl rfl) trivial rfl rfl ?_
                refine St.nil ?_
                obtain rfl := sI hm
                intro a w ha hs
                exact ⟨F31, (PH.le_refl _), ha.covers ⟨rfl, rfl, rfl, rfl, rfl, rfl, rfl, trivial⟩, (Among.of (Among.take 0 rfl rfl (Among.take 0 rfl rfl Among.none)) _ hs)⟩
            · rintro a w ⟨F43, l44, ha, hs⟩
              replace hm := hk45
              refine St.use (?_ : St _ _ _ _ _ _) ha hs
              clear ha hs a w
              refine St.cond_b rfl ?_ ?_
              · intro q51
                replace q51 : z42 = true := q51
                replace hm := iT hm q51
                refine St.region ?_
                refine St.val (v := (.int .i64 (Mir.w64 ((Mir.w64 ((Mir.w64 (2 * s21.2)) + 1)) + 1)))) (Yields.move rfl) trivial rfl rfl ?_
                refine St.val (v := (.int .i64 (Mir.w64 ((Mir.w64 ((Mir.w64 (2 * s21.2)) + 1)) + 1)))) (Yields.assign rfl) trivial rfl rfl ?_
                refine St.nil ?_
                obtain rfl := sI hm
                intro a w ha hs
                exact ⟨F43, l44, ha.covers ⟨rfl, rfl, rfl, rfl, rfl, trivial⟩, (Among.of (Among.take 0 rfl rfl (Among.take 0 rfl rfl Among.none)) _ hs)⟩
              · intro q52
                replace q52 : ¬ (z42 = true) := bf q52
                replace hm := iF hm q52
                refine St.skip ?_
                obtain rfl := sI hm
                intro a w ha hs
                exact ⟨F43, l44, ha.covers ⟨rfl, rfl, rfl, rfl, rfl, trivial⟩, (Among.of (Among.take 0 rfl rfl (Among.take 0 rfl rfl Among.none)) _ hs)⟩
          · rintro a w ⟨F39, l40, ha, hs⟩
            replace hm := hk41
            refine St.use (?_ : St _ _ _ _ _ _) ha hs
            clear ha hs a w
            refine St.seq ?_
            refine St.seq ?_
            refine St.region ?_
            refine St.val (v := (.iface 49 (.pointer (some ⟨pbl0, 0, none⟩)))) (Yields.move rfl) trivial rfl rfl ?_
            refine St.val (v := (.int .i64 z38)) (Yields.move rfl) trivial rfl rfl ?_
            refine St.val (v := (.int .i64 s21.2)) (Yields.move rfl) trivial rfl rfl ?_
            refine St.pick (R := [blk pbl0 (.cells #[.slice A26 s21.1.length c27, .func (.func a3) #[] #[]] 55 (0, 0))]) 1 rfl rfl ?_
            refine St.pick (R := [rowo A26 s21.1.length c27 58 4 cells29]) 1 rfl rfl ?_
            obtain ⟨q53, e54, hm⟩ := bS hm
            refine St.invoke [] (m_api_STree_Less_sp (Cat.mono l40 h28) b30 ph3 e54) rfl (fun _ ha => ev2 ha rfl rfl) rfl iv49_Less rfl rfl trivial ?_
            rintro _ F55 _ ⟨rfl, rfl⟩ l56
            refine St.val (v := (.bool (!q53))) (Yields.not rfl) trivial rfl rfl ?_
            refine St.nil ?_
            refine St.norm ?_
            refine St.cond_b rfl ?_ ?_
            · intro q57
              replace q57 : ¬ (q53 = true) := nb_t q57
              replace hm := iF hm q57
              refine St.exit ?_
              refine St.thenexit ?_
              refine St.inpass rfl ?_
              refine St.thenexit ?_
              refine St.inexit ?_
              obtain rfl := sI hm
              obtain rfl := aR ho24
              intro a w ha hs
              exact ⟨A26, c27, cells29, F55, (PH.le_trans l32 (PH.le_trans l40 l56)), (Cat.mono (PH.le_trans l40 l56) h28), b30, ha.covers ⟨rfl, rfl, trivial⟩, (Among.of (Among.take 0 rfl rfl (Among.take 0 rfl rfl Among.none)) _ hs)⟩
            · intro q58
              replace q58 : q53 = true := nb_f q58
              replace hm := iT hm q58
              refine St.skip ?_
              refine St.norm ?_
              refine St.seq ?_
              refine St.region ?_
              refine St.val (v := (.iface 49 (.pointer (some ⟨pbl0, 0, none⟩)))) (Yields.move rfl) trivial rfl rfl ?_
              refine St.val (v := (.int .i64 s21.2)) (Yields.move rfl) trivial rfl rfl ?_
              refine St.val (v := (.int .i64 z38)) (Yields.move rfl) trivial rfl rfl ?_
              refine St.pick (R := [blk pbl0 (.cells #[.slice A26 s21.1.length c27, .func (.func a3) #[] #[]] 55 (0, 0))]) 1 rfl rfl ?_
              refine St.pick (R := [rowo A26 s21.1.length c27 58 4 cells29]) 1 rfl rfl ?_
              obtain ⟨q59, e60, hm⟩ := bS hm
              refine St.invoke [] (m_api_STree_Swap_sp (Cat.mono (PH.le_trans l40 l56) h28) b30 ph3 e60) rfl (fun _ ha => ev2 ha rfl rfl) rfl iv49_Swap rfl rfl trivial ?_
              rintro _ F61 _ ⟨A63, c64, cells67, rfl, h65, b68, rfl⟩ l62
              refine St.nil ?_
              refine St.norm ?_
              refine St.region ?_
              refine St.val (v := (.int .i64 z38)) (Yields.move rfl) trivial rfl rfl ?_
              refine St.val (v := (.int .i64 z38)) (Yields.assign rfl) trivial rfl rfl ?_
              refine St.nil ?_
              refine St.innorm ?_
              refine St.norm ?_
              obtain rfl := sI hm
              intro a w ha hs
              exact ⟨(q59, z38), aL ho24, A63, c64, cells67, F61, (PH.le_trans l32 (PH.le_trans l40 (PH.le_trans l56 l62))), h65, b68, ha.covers ⟨rfl, rfl, rfl, rfl, trivial⟩, (Among.of (Among.take 0 rfl rfl (Among.take 0 rfl rfl Among.none)) _ hs)⟩
  · rintro a w ⟨A6, c7, cells9, F3, l4, h8, b10, ha, hs⟩
    replace hm := hk11
    refine St.use (?_ : St _ _ _ _ _ _) ha hs
    clear ha hs a w
    refine St.seq ?_
    refine St.region ?_
    refine St.val (v := (.int .i64 z2.2)) (Yields.move rfl) trivial rfl rfl ?_
    refine St.val (v := (.int .i64 a0)) (Yields.move rfl) trivial rfl rfl ?_
    refine St.val (v := (.bool (decide (z2.2 > a0)))) (Yields.gt rfl rfl) trivial rfl rfl ?_
    refine St.val (v := (.bool (decide (z2.2 > a0)))) (Yields.assign rfl) trivial rfl rfl ?_
    refine St.nil ?_
    refine St.norm ?_
    refine St.ret ?_
    obtain rfl := sI hm
    exact St.doneR1 rfl rfl ⟨A6, c7, cells9, rfl, h8, b10, rfl⟩ (fun w hs => Among.of (Among.take 0 rfl rfl (Among.take 0 rfl rfl Among.none)) w hs)

theorem m_api_STree_Pop_sp {F : PH} {g : Nat} {a0 : List DPlace} {a1 : Nat} {pbl0 : Nat} {pA0 : Option Addr} {pc0 : Nat} {pcl0 : List Value} (ph0 : Cat KDPlace F pcl0 a0) (pbd0 : Bnd 64 a0) (ph1 : a1 ∈ [36, 37, 38, 39]) {r : DPlace × List DPlace} (hm : m_api_STree_Pop g a0 a1 = some r) :
    CallSp Try.prog 62 #[.pointer (some ⟨pbl0, 0, none⟩)] F [blk pbl0 (.cells #[.slice pA0 a0.length pc0, .func (.func a1) #[] #[]] 55 (0, 0)), rowo pA0 a0.length pc0 58 4 pcl0] (fun u F' H' => ∃ (B0_0 : Option Addr) (d0_0 : Nat) (B0_1 : Option Addr) (d0_1 : Nat) (G0 : Option Addr) (e0 : Nat) (gl0 : List Value), u = (.iface 58 (.agg #[.slice B0_0 r.1.l.length d0_0, .int .i64 r.1.rank, .int .i64 r.1.x.N, .slice B0_1 r.1.x.Kids.length d0_1])) ∧ Fsl 8 (Kind.int .i64) F' B0_0 d0_0 r.1.l ∧ Fsl 32 KDSTree F' B0_1 d0_1 r.1.x.Kids ∧ Cat KDPlace F' gl0 r.2 ∧ Bnd 64 r.2 ∧ H' = [blk pbl0 (.cells #[.slice G0 r.2.length e0, .func (.func a1) #[] #[]] 55 (0, 0)), rowo G0 r.2.length e0 58 4 gl0]) := by
  unfold m_api_STree_Pop at hm
  refine CallSp.enter (args := [.pointer (some ⟨pbl0, 0, none⟩)]) Try.func62 rfl rfl ?_
  intro w0 m0 hm0
  refine St.seq ?_
  refine St.region ?_
  refine St.val (v := .nilIface) (Yields.assign rfl) trivial rfl rfl ?_
  refine St.nil ?_
  refine St.norm ?_
  refine St.seq ?_
  refine StD.start [13] [blk pbl0 (.cells #[.slice pA0 a0.length pc0, .func (.func a1) #[] #[]] 55 (0, 0)), rowo pA0 a0.length pc0 58 4 pcl0] hmix ?_
  refine StD.takeP (i := 0) (v := (.pointer (some ⟨pbl0, 0, none⟩))) rfl (fun _ => Yields.move rfl) rfl rfl trivial (by rintro _ _ _ ⟨_, _, _, _, h, _⟩; cases h) (by kernel_rfl) (listed' := #[true, false, false, false, false, false, false, false, false, false, false, false, false, false]) rfl ?_
  refine StD.takeP (i := 1) (v := (.pointer (some ⟨pbl0, 0, none⟩))) rfl (fun _ => Yields.nilCheck rfl) rfl rfl trivial (by rintro _ _ _ ⟨_, _, _, _, h, _⟩; cases h) (by kernel_rfl) (listed' := #[true, true, false, false, false, false, false, false, false, false, false, false, false, false]) rfl ?_
  refine StD.takeP (i := 2) (v := (.pointer (some ⟨pbl0, 0, none⟩))) rfl (fun _ => Yields.fieldAddr (v := (.pointer (some ⟨pbl0, 0, none⟩))) rfl (fun _ => by kernel_rfl)) rfl rfl trivial (by rintro _ _ _ ⟨_, _, _, _, h, _⟩; cases h) (by kernel_rfl) (listed' := #[true, true, true, false, false, false, false, false, false, false, false, false, false, false]) rfl ?_
  refine StD.take [0, 1, 2, 4, 5, 6, 8, 9, 10] (i := 3) (v := (.slice pA0 a0.length pc0)) rfl (Yields.load rfl (Loads.H1 0 rfl tc53 rfl)) rfl rfl trivial Among.refl (by rintro _ _ _ ⟨_, _, _, _, h, _⟩; cases h) (by kernel_rfl) (listed' := #[true, true, true, true, false, false, false, false, false, false, false, false, false, false]) rfl ?_
  refine StD.takeP (i := 4) (v := (.pointer (some ⟨pbl0, 0, none⟩))) rfl (fun _ => Yields.move rfl) rfl rfl trivial (by rintro _ _ _ ⟨_, _, _, _, h, _⟩; cases h) (by kernel_rfl) (listed' := #[true, true, true, true, true, false, false, false, false, false, false, false, false, false]) rfl ?_
  refine StD.takeP (i := 5) (v := (.pointer (some ⟨pbl0, 0, none⟩))) rfl (fun _ => Yields.nilCheck rfl) rfl rfl trivial (by rintro _ _ _ ⟨_, _, _, _, h, _⟩; cases h) (by kernel_rfl) (listed' := #[true, true, true, true, true, true, false, false, false, false, false, false, false, false]) rfl ?_
  refine StD.takeP (i := 6) (v := (.pointer (some ⟨pbl0, 0, none⟩))) rfl (fun _ => Yields.fieldAddr (v := (.pointer (some ⟨pbl0, 0, none⟩))) rfl (fun _ => by kernel_rfl)) rfl rfl trivial (by rintro _ _ _ ⟨_, _, _, _, h, _⟩; cases h) (by kernel_rfl) (listed' := #[true, true, true, true, true, true, true, false, false, false, false, false, false, false]) rfl ?_
  refine StD.take [0, 1, 2, 4, 5, 6, 8, 9, 10] (i := 7) (v := (.slice pA0 a0.length pc0)) rfl (Yields.load rfl (Loads.H1 0 rfl tc53 rfl)) rfl rfl trivial Among.refl (by rintro _ _ _ ⟨_, _, _, _, h, _⟩; cases h) (by kernel_rfl) (listed' := #[true, true, true, true, true, true, true, true, false, false, false, false, false, false]) rfl ?_
  refine StD.takeP (i := 8) (v := (.int .i64 ((a0.length : Nat) : Int))) rfl (fun _ => Yields.lenSlice tu53 rfl) rfl rfl trivial (by rintro _ _ _ ⟨_, _, _, _, h, _⟩; cases h) (by kernel_rfl) (listed' := #[true, true, true, true, true, true, true, true, true, false, false, false, false, false]) rfl ?_
  refine StD.takeP (i := 9) (v := (.int .i64 (((a0.length : Nat) : Int) - 1))) rfl (fun _ => Yields.sub rfl rfl (by have q_0 := pbd0.2; omega) (by have q_0 := pbd0.2; omega)) rfl rfl trivial (by rintro _ _ _ ⟨_, _, _, _, h, _⟩; cases h) (by kernel_rfl) (listed' := #[true, true, true, true, true, true, true, true, true, true, false, false, false, false]) rfl ?_
  obtain ⟨x2, e3, hm⟩ := bS hm
  obtain ⟨jx4, jx5, cs6, R7, k8⟩ := ph0.idx e3
  obtain ⟨A9, c10, A12, c13, rfl, h11, h14⟩ := DPlace.opn R7
  refine St.rowo_at 1 rfl (by omega) ?_
  intro hA17
  refine StD.takeP (i := 10) (v := (.pointer (some ⟨bk pA0, bo pA0 + (((a0.length : Nat) : Int) - 1).toNat * 4, none⟩))) rfl (fun _ => Yields.idx (IdxAt.own hA17 jx4 jx5) ts53 rfl rfl) rfl rfl trivial (by rintro _ _ _ ⟨_, _, _, _, h, _⟩; cases h) (by kernel_rfl) (listed' := #[true, true, true, true, true, true, true, true, true, true, true, false, false, false]) rfl ?_
  refine StD.take [0, 1, 2, 4, 5, 6, 8, 9, 10] (i := 11) (v := (.agg #[.slice A9 x2.l.length c10, .int .i64 x2.rank, .int .i64 x2.x.N, .slice A12 x2.x.Kids.length c13])) rfl (Yields.load rfl (Loads.rAn (us := [.slice A9 x2.l.length c10, .int .i64 x2.rank, .int .i64 x2.x.N, .slice A12 x2.x.Kids.length c13]) 1 rfl ta58 (k8))) rfl rfl trivial Among.refl (by rintro _ _ _ ⟨_, _, _, _, h, _⟩; cases h) (by kernel_rfl) (listed' := #[true, true, true, true, true, true, true, true, true, true, true, true, false, false]) rfl ?_
  refine StD.only (i := 12) rfl (by kernel_rfl) (listed' := #[true, true, true, true, true, true, true, true, true, true, true, true, true, false]) rfl ?_
  intro hcl18
  refine St.alloc tz58 trivial rfl ?_
  intro b19
  refine StD.next hcl18 (fun _ => (Among.of (Among.take 1 rfl rfl (Among.take 1 rfl rfl Among.none)))) ?_
  refine StD.only (i := 13) rfl (by kernel_rfl) (listed' := #[true, true, true, true, true, true, true, true, true, true, true, true, true, true]) rfl ?_
  intro hcl20
  refine St.storen (R := [blk pbl0 (.cells #[.slice pA0 a0.length pc0, .func (.func a1) #[] #[]] 55 (0, 0)), rowo pA0 a0.length pc0 58 4 pcl0]) rfl rfl 0 rfl rfl ta58 rfl rfl rfl trivial (cs' := #[.slice A9 x2.l.length c10, .int .i64 x2.rank, .int .i64 x2.x.N, .slice A12 x2.x.Kids.length c13]) rfl ?_
  refine StD.next hcl20 (fun h => by cases h) ?_
  refine StD.done (by kernel_rfl) ?_
  refine St.norm ?_
  refine St.seq ?_
  refine StD.start [14] [blk b19 (.cells #[.slice A9 x2.l.length c10, .int .i64 x2.rank, .int .i64 x2.x.N, .slice A12 x2.x.Kids.length c13] 58 (0, 0)), blk pbl0 (.cells #[.slice pA0 a0.length pc0, .func (.func a1) #[] #[]] 55 (0, 0)), rowo pA0 a0.length pc0 58 4 pcl0] hmix ?_
  refine StD.takeP (i := 0) (v := (.pointer (some ⟨pbl0, 0, none⟩))) rfl (fun _ => Yields.move rfl) rfl rfl trivial (by rintro _ _ _ ⟨_, _, _, _, h, _⟩; cases h) (by kernel_rfl) (listed' := #[true, false, false, false, false, false, false, false, false, false, false, false, false, false, false]) rfl ?_
  refine StD.takeP (i := 1) (v := (.pointer (some ⟨pbl0, 0, none⟩))) rfl (fun _ => Yields.move rfl) rfl rfl trivial (by rintro _ _ _ ⟨_, _, _, _, h, _⟩; cases h) (by kernel_rfl) (listed' := #[true, true, false, false, false, false, false, false, false, false, false, false, false, false, false]) rfl ?_
  refine StD.takeP (i := 2) (v := (.pointer (some ⟨pbl0, 0, none⟩))) rfl (fun _ => Yields.nilCheck rfl) rfl rfl trivial (by rintro _ _ _ ⟨_, _, _, _, h, _⟩; cases h) (by kernel_rfl) (listed' := #[true, true, true, false, false, false, false, false, false, false, false, false, false, false, false]) rfl ?_
  refine StD.takeP (i := 3) (v := (.pointer (some ⟨pbl0, 0, none⟩))) rfl (fun _ => Yields.fieldAddr (v := (.pointer (some ⟨pbl0, 0, none⟩))) rfl (fun _ => by kernel_rfl)) rfl rfl trivial (by rintro _ _ _ ⟨_, _, _, _, h, _⟩; cases h) (by kernel_rfl) (listed' := #[true, true, true, true, false, false, false, false, false, false, false, false, false, false, false]) rfl ?_
  refine StD.take [0, 1, 2, 3, 5, 6, 7, 9, 10, 11, 12, 13] (i := 4) (v := (.slice pA0 a0.length pc0)) rfl (Yields.load rfl (Loads.H1 1 rfl tc53 rfl)) rfl rfl trivial Among.refl (by rintro _ _ _ ⟨_, _, _, _, h, _⟩; cases h) (by kernel_rfl) (listed' := #[true, true, true, true, true, false, false, false, false, false, false, false, false, false, false]) rfl ?_
  refine StD.takeP (i := 5) (v := (.pointer (some ⟨pbl0, 0, none⟩))) rfl (fun _ => Yields.move rfl) rfl rfl trivial (by rintro _ _ _ ⟨_, _, _, _, h, _⟩; cases h) (by kernel_rfl) (listed' := #[true, true, true, true, true, true, false, false, false, false, false, false, false, false, false]) rfl ?_
  refine StD.takeP (i := 6) (v := (.pointer (some ⟨pbl0, 0, none⟩))) rfl (fun _ => Yields.nilCheck rfl) rfl rfl trivial (by rintro _ _ _ ⟨_, _, _, _, h, _⟩; cases h) (by kernel_rfl) (listed' := #[true, true, true, true, true, true, true, false, false, false, false, false, false, false, false]) rfl ?_
  refine StD.takeP (i := 7) (v := (.pointer (some ⟨pbl0, 0, none⟩))) rfl (fun _ => Yields.fieldAddr (v := (.pointer (some ⟨pbl0, 0, none⟩))) rfl (fun _ => by kernel_rfl)) rfl rfl trivial (by rintro _ _ _ ⟨_, _, _, _, h, _⟩; cases h) (by kernel_rfl) (listed' := #[true, true, true, true, true, true, true, true, false, false, false, false, false, false, false]) rfl ?_
  refine StD.take [0, 1, 2, 3, 5, 6, 7, 9, 10, 11, 12, 13] (i := 8) (v := (.slice pA0 a0.length pc0)) rfl (Yields.load rfl (Loads.H1 1 rfl tc53 rfl)) rfl rfl trivial Among.refl (by rintro _ _ _ ⟨_, _, _, _, h, _⟩; cases h) (by kernel_rfl) (listed' := #[true, true, true, true, true, true, true, true, true, false, false, false, false, false, false]) rfl ?_
  refine StD.takeP (i := 9) (v := (.int .i64 ((a0.length : Nat) : Int))) rfl (fun _ => Yields.lenSlice tu53 rfl) rfl rfl trivial (by rintro _ _ _ ⟨_, _, _, _, h, _⟩; cases h) (by kernel_rfl) (listed' := #[true, true, true, true, true, true, true, true, true, true, false, false, false, false, false]) rfl ?_
  refine StD.takeP (i := 10) (v := (.int .i64 (((a0.length : Nat) : Int) - 1))) rfl (fun _ => Yields.sub rfl rfl (by have q_0 := pbd0.2; omega) (by have q_0 := pbd0.2; omega)) rfl rfl trivial (by rintro _ _ _ ⟨_, _, _, _, h, _⟩; cases h) (by kernel_rfl) (listed' := #[true, true, true, true, true, true, true, true, true, true, true, false, false, false, false]) rfl ?_
  obtain ⟨x21, e22, hm⟩ := bS hm
  refine St.rowo_len 2 rfl ?_
  intro hk23
  obtain ⟨A24, c25, s26, hw27⟩ := subOwn (D := KDPlace) pA0 58 hk23 e22
  refine StD.takeP (i := 11) (v := (.slice A24 x21.length c25)) rfl (fun _ => Yields.subT s26 ts53 rfl rfl) rfl rfl trivial (by rintro _ _ _ ⟨_, _, _, _, h, _⟩; cases h) (by kernel_rfl) (listed' := #[true, true, true, true, true, true, true, true, true, true, true, true, false, false, false]) rfl ?_
  refine StD.takeP (i := 12) (v := (.pointer (some ⟨pbl0, 0, none⟩))) rfl (fun _ => Yields.nilCheck rfl) rfl rfl trivial (by rintro _ _ _ ⟨_, _, _, _, h, _⟩; cases h) (by kernel_rfl) (listed' := #[true, true, true, true, true, true, true, true, true, true, true, true, true, false, false]) rfl ?_
  refine StD.takeP (i := 13) (v := (.pointer (some ⟨pbl0, 0, none⟩))) rfl (fun _ => Yields.fieldAddr (v := (.pointer (some ⟨pbl0, 0, none⟩))) rfl (fun _ => by kernel_rfl)) rfl rfl trivial (by rintro _ _ _ ⟨_, _, _, _, h, _⟩; cases h) (by kernel_rfl) (listed' := #[true, true, true, true, true, true, true, true, true, true, true, true, true, true, false]) rfl ?_
  refine StD.only (i := 14) rfl (by kernel_rfl) (listed' := #[true, true, true, true, true, true, true, true, true, true, true, true, true, true, true]) rfl ?_
  intro hcl29
  refine St.shrink (R := [blk b19 (.cells #[.slice A9 x2.l.length c10, .int .i64 x2.rank, .int .i64 x2.x.N, .slice A12 x2.x.Kids.length c13] 58 (0, 0)), blk pbl0 (.cells #[.slice pA0 a0.length pc0, .func (.func a1) #[] #[]] 55 (0, 0))]) 2 rfl rfl ph0 hw27 ?_
  intro cells30 h31
  refine St.store (R := [rowo A24 x21.length c25 58 4 cells30, blk b19 (.cells #[.slice A9 x2.l.length c10, .int .i64 x2.rank, .int .i64 x2.x.N, .slice A12 x2.x.Kids.length c13] 58 (0, 0))]) rfl rfl 2 rfl rfl tc53 rfl rfl trivial (cs' := #[.slice A24 x21.length c25, .func (.func a1) #[] #[]]) rfl ?_
  refine StD.next hcl29 (fun h => by cases h) ?_
  refine StD.done (by kernel_rfl) ?_
  refine St.norm ?_
  refine St.seq ?_
  refine St.region ?_
  refine St.val (v := (.agg #[.slice A9 x2.l.length c10, .int .i64 x2.rank, .int .i64 x2.x.N, .slice A12 x2.x.Kids.length c13])) (Yields.load rfl (Loads.Hk (vs := [.slice A9 x2.l.length c10, .int .i64 x2.rank, .int .i64 x2.x.N, .slice A12 x2.x.Kids.length c13]) 2 rfl ta58 rfl rfl)) trivial rfl rfl ?_
  refine St.val (v := (.iface 58 (.agg #[.slice A9 x2.l.length c10, .int .i64 x2.rank, .int .i64 x2.x.N, .slice A12 x2.x.Kids.length c13]))) (Yields.makeInterface tp58 rfl) trivial rfl rfl ?_
  refine St.val (v := (.iface 58 (.agg #[.slice A9 x2.l.length c10, .int .i64 x2.rank, .int .i64 x2.x.N, .slice A12 x2.x.Kids.length c13]))) (Yields.assign rfl) trivial rfl rfl ?_
  refine St.nil ?_
  refine St.norm ?_
  refine St.ret ?_
  obtain rfl := sI hm
  exact St.doneR1 rfl rfl ⟨A9, c10, A12, c13, A24, c25, cells30, rfl, h11, h14, h31, (Bnd.of_sub pbd0 e22), rfl⟩ (fun w hs => Among.of (Among.take 0 rfl rfl (Among.take 0 rfl rfl Among.none)) w hs)

theorem m_heap_Pop_sp {F : PH} {g : Nat} {a0 : List DPlace} {a1 : Nat} {pbl0 : Nat} {pA0 : Option Addr} {pc0 : Nat} {pcl0 : List Value} (ph0 : Cat KDPlace F pcl0 a0) (pbd0 : Bnd 64 a0) (ph1 : a1 ∈ [36, 37, 38, 39]) {r : DPlace × List DPlace} (hm : m_heap_Pop g a0 a1 = some r) :
    CallSp Try.prog 32 #[.iface 49 (.pointer (some ⟨pbl0, 0, none⟩))] F [blk pbl0 (.cells #[.slice pA0 a0.length pc0, .func (.func a1) #[] #[]] 55 (0, 0)), rowo pA0 a0.length pc0 58 4 pcl0] (fun u F' H' => ∃ (B0_0 : Option Addr) (d0_0 : Nat) (B0_1 : Option Addr) (d0_1 : Nat) (G0 : Option Addr) (e0 : Nat) (gl0 : List Value), u = (.iface 58 (.agg #[.slice B0_0 r.1.l.length d0_0, .int .i64 r.1.rank, .int .i64 r.1.x.N, .slice B0_1 r.1.x.Kids.length d0_1])) ∧ Fsl 8 (Kind.int .i64) F' B0_0 d0_0 r.1.l ∧ Fsl 32 KDSTree F' B0_1 d0_1 r.1.x.Kids ∧ Cat KDPlace F' gl0 r.2 ∧ Bnd 64 r.2 ∧ H' = [blk pbl0 (.cells #[.slice G0 r.2.length e0, .func (.func a1) #[] #[]] 55 (0, 0)), rowo G0 r.2.length e0 58 4 gl0]) := by
  unfold m_heap_Pop at hm
  refine CallSp.enter (args := [.iface 49 (.pointer (some ⟨pbl0, 0, none⟩))]) Try.func32 rfl rfl ?_
  intro w0 m0 hm0
  refine St.seq ?_
  refine St.region ?_
  refine St.val (v := .nilIface) (Yields.assign rfl) trivial rfl rfl ?_
  refine St.nil ?_
  refine St.norm ?_
  refine St.seq ?_
  refine St.region ?_
  refine St.val (v := (.iface 49 (.pointer (some ⟨pbl0, 0, none⟩)))) (Yields.move rfl) trivial rfl rfl ?_
  refine St.pick (R := [blk pbl0 (.cells #[.slice pA0 a0.length pc0, .func (.func a1) #[] #[]] 55 (0, 0))]) 1 rfl rfl ?_
  refine St.pick (R := [rowo pA0 a0.length pc0 58 4 pcl0]) 1 rfl rfl ?_
  obtain ⟨q2, e3, hm⟩ := bS hm
  refine St.invoke [] (m_api_STree_Len_sp ph0 pbd0 ph1 e3) rfl (fun _ _ => ev0) rfl iv49_Len rfl rfl trivial ?_
  rintro _ F4 _ ⟨rfl, rfl⟩ l5
  refine St.val (v := (.int .i64 (Mir.w64 (q2 - 1)))) (Yields.subw rfl rfl) trivial rfl rfl ?_
  refine St.val (v := (.int .i64 (Mir.w64 (q2 - 1)))) (Yields.assign rfl) trivial rfl rfl ?_
  refine St.nil ?_
  refine St.norm ?_
  refine St.seq ?_
  refine St.region ?_
  refine St.val (v := (.iface 49 (.pointer (some ⟨pbl0, 0, none⟩)))) (Yields.move rfl) trivial rfl rfl ?_
  refine St.val (v := (.int .i64 (Mir.w64 (q2 - 1)))) (Yields.move rfl) trivial rfl rfl ?_
  refine St.pick (R := [blk pbl0 (.cells #[.slice pA0 a0.length pc0, .func (.func a1) #[] #[]] 55 (0, 0))]) 1 rfl rfl ?_
  refine St.pick (R := [rowo pA0 a0.length pc0 58 4 pcl0]) 1 rfl rfl ?_
  obtain ⟨q6, e7, hm⟩ := bS hm
  refine St.invoke [] (m_api_STree_Swap_sp (Cat.mono l5 ph0) pbd0 ph1 e7) rfl (fun _ ha => ev2 ha rfl rfl) rfl iv49_Swap rfl rfl trivial ?_
  rintro _ F8 _ ⟨A10, c11, cells14, rfl, h12, b15, rfl⟩ l9
  refine St.nil ?_
  refine St.norm ?_
  refine St.seq ?_
  refine St.region ?_
  refine St.val (v := (.iface 49 (.pointer (some ⟨pbl0, 0, none⟩)))) (Yields.move rfl) trivial rfl rfl ?_
  refine St.val (v := (.int .i64 (Mir.w64 (q2 - 1)))) (Yields.move rfl) trivial rfl rfl ?_
  refine St.pick (R := [blk pbl0 (.cells #[.slice A10 q6.length c11, .func (.func a1) #[] #[]] 55 (0, 0))]) 1 rfl rfl ?_
  refine St.pick (R := [rowo A10 q6.length c11 58 4 cells14]) 1 rfl rfl ?_
  obtain ⟨q16, e17, hm⟩ := bS hm
  refine St.call [] (m_heap_down_sp h12 b15 ph1 e17) rfl (fun _ ha => ev3 ha rfl rfl rfl) rfl en41 rfl rfl trivial ?_
  rintro _ F18 _ ⟨A20, c21, cells24, rfl, h22, b25, rfl⟩ l19
  refine St.nil ?_
  refine St.norm ?_
  refine St.seq ?_
  refine St.region ?_
  refine St.val (v := (.iface 49 (.pointer (some ⟨pbl0, 0, none⟩)))) (Yields.move rfl) trivial rfl rfl ?_
  refine St.pick (R := [blk pbl0 (.cells #[.slice A20 q16.2.length c21, .func (.func a1) #[] #[]] 55 (0, 0))]) 1 rfl rfl ?_
  refine St.pick (R := [rowo A20 q16.2.length c21 58 4 cells24]) 1 rfl rfl ?_
  obtain ⟨q26, e27, hm⟩ := bS hm
  refine St.invoke [] (m_api_STree_Pop_sp h22 b25 ph1 e27) rfl (fun _ _ => ev0) rfl iv49_Pop rfl rfl trivial ?_
  rintro _ F28 _ ⟨A30, c31, A34, c35, A38, c39, cells42, rfl, h32, h36, h40, b43, rfl⟩ l29
  refine St.val (v := (.iface 58 (.agg #[.slice A30 q26.1.l.length c31, .int .i64 q26.1.rank, .int .i64 q26.1.x.N, .slice A34 q26.1.x.Kids.length c35]))) (Yields.assign rfl) trivial rfl rfl ?_
  refine St.nil ?_
  refine St.norm ?_
  refine St.ret ?_
  obtain rfl := sI hm
  exact St.doneR1 rfl rfl ⟨A30, c31, A34, c35, A38, c39, cells42, rfl, h32, h36, h40, b43, rfl⟩ (fun w hs => Among.of (Among.take 0 rfl rfl (Among.take 0 rfl rfl Among.none)) w hs)

theorem m_search_ranks_f1_sp {F : PH} {g : Nat} {a0 : List Int} {pA0 : Option Addr} {pc0 : Nat} (ph0 : Fsl 8 (Kind.int .i64) F pA0 pc0 a0) {r : Int} (hm : m_search_ranks_f1 g a0 = some r) :
    CallSp Try.prog 36 #[.slice pA0 a0.length pc0] F [] (fun u F' H' => u = (.int .i64 r) ∧ H' = []) := by
  unfold m_search_ranks_f1 at hm
  refine CallSp.enter (args := [.slice pA0 a0.length pc0]) Try.func36 rfl rfl ?_
  intro w0 m0 hm0
  refine St.seq ?_
  refine St.region ?_
  refine St.val (v := (.int .i64 0)) (Yields.assign rfl) trivial rfl rfl ?_
  refine St.nil ?_
  refine St.norm ?_
  refine St.seq ?_
  refine St.region ?_
  refine St.val (v := (.int .i64 0)) (Yields.assign rfl) trivial rfl rfl ?_
  refine St.nil ?_
  refine St.norm ?_
  refine St.ret ?_
  obtain rfl := sI hm
  exact St.doneR1 rfl rfl ⟨rfl, rfl⟩ (fun w hs => Among.of Among.none w hs)

theorem m_search_ranks_f2_sp {F : PH} {g : Nat} {a0 : List Int} {pA0 : Option Addr} {pc0 : Nat} (ph0 : Fsl 8 (Kind.int .i64) F pA0 pc0 a0) {r : Int} (hm : m_search_ranks_f2 g a0 = some r) :
    CallSp Try.prog 37 #[.slice pA0 a0.length pc0] F [] (fun u F' H' => u = (.int .i64 r) ∧ H' = []) := by
  unfold m_search_ranks_f2 at hm
  refine CallSp.enter (args := [.slice pA0 a0.length pc0]) Try.func37 rfl rfl ?_
  intro w0 m0 hm0
  refine St.seq ?_
  refine St.region ?_
  refine St.val (v := (.int .i64 0)) (Yields.assign rfl) trivial rfl rfl ?_
  refine St.nil ?_
  refine St.norm ?_
  refine St.seq ?_
  refine St.region ?_
  refine St.val (v := (.slice pA0 a0.length pc0)) (Yields.move rfl) trivial rfl rfl ?_
  refine St.val (v := (.int .i64 ((a0.length : Nat) : Int))) (Yields.lenSlice tu27 rfl) trivial rfl rfl ?_
  refine St.val (v := (.int .i64 ((a0.length : Nat) : Int))) (Yields.assign rfl) trivial rfl rfl ?_
  refine St.nil ?_
  refine St.norm ?_
  refine St.ret ?_
  obtain rfl := sI hm
  exact St.doneR1 rfl rfl ⟨rfl, rfl⟩ (fun w hs => Among.of Among.none w hs)

theorem m_search_ranks_f3_sp {F : PH} {g : Nat} {a0 : List Int} {pA0 : Option Addr} {pc0 : Nat} (ph0 : Fsl 8 (Kind.int .i64) F pA0 pc0 a0) {r : Int} (hm : m_search_ranks_f3 g a0 = some r) :
    CallSp Try.prog 38 #[.slice pA0 a0.length pc0] F [] (fun u F' H' => u = (.int .i64 r) ∧ H' = []) := by
  unfold m_search_ranks_f3 at hm
  refine CallSp.enter (args := [.slice pA0 a0.length pc0]) Try.func38 rfl rfl ?_
  intro w0 m0 hm0
  refine St.seq ?_
  refine St.region ?_
  refine St.val (v := (.int .i64 0)) (Yields.assign rfl) trivial rfl rfl ?_
  refine St.nil ?_
  refine St.norm ?_
  refine St.seq ?_
  refine St.region ?_
  refine St.val (v := (.slice pA0 a0.length pc0)) (Yields.move rfl) trivial rfl rfl ?_
  refine St.val (v := (.int .i64 ((a0.length : Nat) : Int))) (Yields.lenSlice tu27 rfl) trivial rfl rfl ?_
  obtain ⟨x2, e3, hm⟩ := bS hm
  refine St.val (v := (.int .i64 x2)) (Yields.quow e3 rfl rfl) trivial rfl rfl ?_
  refine St.val (v := (.int .i64 x2)) (Yields.assign rfl) trivial rfl rfl ?_
  refine St.nil ?_
  refine St.norm ?_
  refine St.ret ?_
  obtain rfl := sI hm
  exact St.doneR1 rfl rfl ⟨rfl, rfl⟩ (fun w hs => Among.of Among.none w hs)

theorem m_search_sum_sp {F : PH} {g : Nat} {a0 : List Int} {pA0 : Option Addr} {pc0 : Nat} (ph0 : Fsl 8 (Kind.int .i64) F pA0 pc0 a0) {r : Int} (hm : m_search_sum g a0 = some r) :
    CallSp Try.prog 39 #[.slice pA0 a0.length pc0] F [] (fun u F' H' => u = (.int .i64 r) ∧ H' = []) := by
  unfold m_search_sum at hm
  refine CallSp.enter (args := [.slice pA0 a0.length pc0]) Try.func39 rfl rfl ?_
  intro w0 m0 hm0
  refine St.seq ?_
  refine St.region ?_
  refine St.val (v := (.int .i64 0)) (Yields.assign rfl) trivial rfl rfl ?_
  refine St.nil ?_
  refine St.norm ?_
  refine St.seq ?_
  refine St.region ?_
  refine St.val (v := (.int .i64 0)) (Yields.assign rfl) trivial rfl rfl ?_
  refine St.nil ?_
  refine St.norm ?_
  obtain ⟨z2, hm, hk3⟩ := bS hm
  refine St.cutI (fun a w => Has Try.f39.ntmps a [(3, .int .i64 z2)] ∧ Sat ⟨w0, fun b => m0 b ≠ none, F⟩ F [] w) ?_ ?_
  · skip
    refine St.seq ?_
    refine St.region ?_
    refine St.val (v := (.slice pA0 a0.length pc0)) (Yields.move rfl) trivial rfl rfl ?_
    refine St.val (v := (.int .i64 ((a0.length : Nat) : Int))) (Yields.lenSlice tu27 rfl) trivial rfl rfl ?_
    refine St.val (v := (.int .i64 0)) (Yields.move rfl) trivial rfl rfl ?_
    refine St.nil ?_
    refine St.norm ?_
    refine St.block ?_
    refine St.loopM hm (fun s6 a w => Has Try.f39.ntmps a [(3, .int .i64 s6.1), (6, .slice pA0 a0.length pc0), (7, .int .i64 ((a0.length : Nat) : Int)), (8, .int .i64 ((s6.2 : Nat) : Int))] ∧ Sat ⟨w0, fun b => m0 b ≠ none, F⟩ F [] w) ?_ ?_
    · skip
      intro a w ha hs
      exact ⟨ha.covers ⟨rfl, rfl, rfl, rfl, trivial⟩, (Among.of Among.none _ hs)⟩
    · rintro s6 o7 co8 hm ho9 a w ⟨ha, hs⟩
      refine St.use (?_ : St _ _ _ _ _ _) ha hs
      clear ha hs a w
      refine St.seq ?_
      refine St.region ?_
      refine St.val (v := (.bool (decide (((s6.2 : Nat) : Int) < ((a0.length : Nat) : Int))))) (Yields.lt rfl rfl) trivial rfl rfl ?_
      refine St.nil ?_
      refine St.norm ?_
      refine St.seq ?_
      refine St.cond_b rfl ?_ ?_
      · intro q10
        replace q10 : ((s6.2 : Nat) : Int) < ((a0.length : Nat) : Int) := of_decide_eq_true q10
        replace hm := iT hm q10
        refine St.skip ?_
        refine St.norm ?_
        refine St.seq ?_
        refine St.block ?_
        refine St.seq ?_
        refine St.region ?_
        obtain ⟨x11, e12, hm⟩ := bS hm
        obtain ⟨p13, cs14, jx15, R16, k17⟩ := ph0.nidx e12
        obtain rfl := R16
        refine St.val (v := (.pointer (some p13))) (Yields.idx jx15 ts27 rfl rfl) trivial rfl rfl ?_
        refine St.val (v := (.int .i64 x11)) (Yields.load rfl (Loads.Fat k17 tc3 rfl)) trivial rfl rfl ?_
        refine St.val (v := (.int .i64 x11)) (Yields.assign rfl) trivial rfl rfl ?_
        refine St.nil ?_
        refine St.norm ?_
        refine St.region ?_
        refine St.val (v := (.int .i64 s6.1)) (Yields.move rfl) trivial rfl rfl ?_
        refine St.val (v := (.int .i64 x11)) (Yields.move rfl) trivial rfl rfl ?_
        refine St.val (v := (.int .i64 (Mir.w64 (s6.1 + x11)))) (Yields.addw rfl rfl) trivial rfl rfl ?_
        refine St.val (v := (.int .i64 (Mir.w64 (s6.1 + x11)))) (Yields.assign rfl) trivial rfl rfl ?_
        refine St.nil ?_
        refine St.innorm ?_
        refine St.norm ?_
        refine St.region ?_
        refine St.val (v := (.int .i64 ((s6.2 + 1 : Nat) : Int))) (Yields.addn (j := 1) rfl rfl rfl (by have q_0 := q10; have q_1 := ph0.bnd.2; omega)) trivial rfl rfl ?_
        refine St.val (v := (.int .i64 ((s6.2 + 1 : Nat) : Int))) (Yields.move rfl) trivial rfl rfl ?_
        refine St.nil ?_
        refine St.norm ?_
        obtain rfl := sI hm
        intro a w ha hs
        exact ⟨(Mir.w64 (s6.1 + x11), s6.2 + 1), aL ho9, ha.covers ⟨rfl, rfl, rfl, rfl, trivial⟩, (Among.of Among.none _ hs)⟩
      · intro q18
        replace q18 : ¬ (((s6.2 : Nat) : Int) < ((a0.length : Nat) : Int)) := of_decide_eq_false q18
        replace hm := iF hm q18
        refine St.exit ?_
        refine St.thenexit ?_
        refine St.thenexit ?_
        refine St.inexit ?_
        obtain rfl := sI hm
        obtain rfl := aR ho9
        intro a w ha hs
        exact ⟨ha.covers ⟨rfl, trivial⟩, (Among.of Among.none _ hs)⟩
  · rintro a w ⟨ha, hs⟩
    replace hm := hk3
    refine St.use (?_ : St _ _ _ _ _ _) ha hs
    clear ha hs a w
    refine St.seq ?_
    refine St.region ?_
    refine St.val (v := (.int .i64 z2)) (Yields.move rfl) trivial rfl rfl ?_
    refine St.val (v := (.int .i64 z2)) (Yields.assign rfl) trivial rfl rfl ?_
    refine St.nil ?_
    refine St.norm ?_
    refine St.ret ?_
    obtain rfl := sI hm
    exact St.doneR1 rfl rfl ⟨rfl, rfl⟩ (fun w hs => Among.of Among.none w hs)

theorem m_table1_en {f : Nat} (hf : f ∈ [36, 37, 38, 39]) : Enters Try.prog f := by
  simp only [List.mem_cons, List.not_mem_nil, or_false] at hf
  rcases hf with rfl | rfl | rfl | rfl
  · exact en36
  · exact en37
  · exact en38
  · exact en39
theorem m_table1_sp {F : PH} {g f : Nat} (hf : f ∈ [36, 37, 38, 39]) {a0 : List Int} {pA0 : Option Addr} {pc0 : Nat} (ph0 : Fsl 8 (Kind.int .i64) F pA0 pc0 a0) {r : Int} (hm : m_table1 g f a0 = some r) :
    CallSp Try.prog f #[.slice pA0 a0.length pc0] F [] (fun u F' H' => u = (.int .i64 r) ∧ H' = []) := by
  simp only [List.mem_cons, List.not_mem_nil, or_false] at hf
  unfold m_table1 at hm
  rcases hf with rfl | rfl | rfl | rfl
  · exact m_search_ranks_f1_sp ph0 (iT hm rfl)
  · exact m_search_ranks_f2_sp ph0 (iT (iF hm (by decide)) rfl)
  · exact m_search_ranks_f3_sp ph0 (iT (iF (iF hm (by decide)) (by decide)) rfl)
  · exact m_search_sum_sp ph0 (iT (iF (iF (iF hm (by decide)) (by decide)) (by decide)) rfl)

theorem m_api_STree_sp {F : PH} {g : Nat} {a0 : Int} {a1 : DSTree} {a2 : List Int} {pbl0 : Nat} {pA1_0 : Option Addr} {pc1_0 : Nat} {pA2 : Option Addr} {pc2 : Nat} {pcl2 : List Value} (ph1_0 : Fsl 32 KDSTree F pA1_0 pc1_0 a1.Kids) (ph2 : Cat (Kind.int .i64) F pcl2 a2) (pbd2 : Bnd 8 a2) {r : Bool × List Int} (hm : m_api_STree g a0 a1 a2 = some r) :
    CallSp Try.prog 17 #[.int .i64 a0, .agg #[.int .i64 a1.N, .slice pA1_0 a1.Kids.length pc1_0], .func (.func 18) #[] #[.pointer (some ⟨pbl0, 0, none⟩)], .func (.func 19) #[] #[]] F [blk pbl0 (.cells #[.slice pA2 a2.length pc2] 27 (0, 0)), rowo pA2 a2.length pc2 3 1 pcl2] (fun u F' H' => ∃ (G2 : Option Addr) (e2 : Nat) (gl2 : List Value), u = (.bool r.1) ∧ Cat (Kind.int .i64) F' gl2 r.2 ∧ Bnd 8 r.2 ∧ H' = [blk pbl0 (.cells #[.slice G2 r.2.length e2] 27 (0, 0)), rowo G2 r.2.length e2 3 1 gl2]) := by
  unfold m_api_STree at hm
  refine CallSp.enter (args := [.int .i64 a0, .agg #[.int .i64 a1.N, .slice pA1_0 a1.Kids.length pc1_0], .func (.func 18) #[] #[.pointer (some ⟨pbl0, 0, none⟩)], .func (.func 19) #[] #[]]) Try.func17 rfl rfl ?_
  intro w0 m0 hm0
  refine St.seq ?_
  refine St.region ?_
  refine St.box rfl trivial rfl ?_
  intro b3
  refine St.val (v := (.bool false)) (Yields.assign rfl) trivial rfl rfl ?_
  refine St.nil ?_
  refine St.norm ?_
  refine St.seq ?_
  refine St.seq ?_
  refine St.region ?_
  refine St.val (v := (.int .i64 a0)) (Yields.move rfl) trivial rfl rfl ?_
  refine St.val (v := (.bool (decide (a0 = 4)))) (Yields.eq rfl rfl) trivial rfl rfl ?_
  refine St.nil ?_
  refine St.norm ?_
  refine St.cond_b rfl ?_ ?_
  · intro q4
    replace q4 : a0 = 4 := of_decide_eq_true q4
    replace hm := iT hm q4
    refine St.seq ?_
    refine St.region ?_
    refine St.val (v := (.agg #[.int .i64 a1.N, .slice pA1_0 a1.Kids.length pc1_0])) (Yields.load rfl (Loads.Hk (vs := [.int .i64 a1.N, .slice pA1_0 a1.Kids.length pc1_0]) 0 rfl ta24 rfl rfl)) trivial rfl rfl ?_
    refine St.val (v := (.func (.func 18) #[] #[.pointer (some ⟨pbl0, 0, none⟩)])) (Yields.move rfl) trivial rfl rfl ?_
    refine St.val (v := (.func (.func 19) #[] #[])) (Yields.move rfl) trivial rfl rfl ?_
    refine St.pick (R := [blk b3 (.cells #[.int .i64 a1.N, .slice pA1_0 a1.Kids.length pc1_0] 24 (0, 0)), blk pbl0 (.cells #[.slice pA2 a2.length pc2] 27 (0, 0))]) 2 rfl rfl ?_
    refine St.pick (R := [rowo pA2 a2.length pc2 3 1 pcl2, blk b3 (.cells #[.int .i64 a1.N, .slice pA1_0 a1.Kids.length pc1_0] 24 (0, 0))]) 2 rfl rfl ?_
    obtain ⟨q5, e6, hm⟩ := bS hm
    refine St.call [blk b3 (.cells #[.int .i64 a1.N, .slice pA1_0 a1.Kids.length pc1_0] 24 (0, 0))] (m_api_STree_2_sp (a0 := a1) ph1_0 ph2 pbd2 e6) rfl (fun _ ha => ev3 ha rfl rfl rfl) rfl en28 rfl rfl trivial ?_
    rintro _ F7 _ ⟨A9, c10, cells13, rfl, h11, b14, rfl⟩ l8
    refine St.val (v := (.bool q5.1)) (Yields.assign rfl) trivial rfl rfl ?_
    refine St.nil ?_
    refine St.norm ?_
    refine St.ret ?_
    refine St.thenret ?_
    obtain rfl := sI hm
    exact St.doneR1 rfl rfl ⟨A9, c10, cells13, rfl, h11, b14, rfl⟩ (fun w hs => Among.of (Among.take 0 rfl rfl (Among.take 0 rfl rfl Among.none)) w hs)
  · intro q15
    replace q15 : ¬ (a0 = 4) := of_decide_eq_false q15
    replace hm := iF hm q15
    refine St.skip ?_
    refine St.norm ?_
    refine St.seq ?_
    refine St.region ?_
    obtain ⟨q16, e17, hm⟩ := bS hm
    refine St.call [blk b3 (.cells #[.int .i64 a1.N, .slice pA1_0 a1.Kids.length pc1_0] 24 (0, 0)), blk pbl0 (.cells #[.slice pA2 a2.length pc2] 27 (0, 0)), rowo pA2 a2.length pc2 3 1 pcl2] (m_search_ranks_sp e17) rfl (fun _ _ => ev0) rfl en29 rfl rfl trivial ?_
    rintro _ F18 _ ⟨bl20, vs22, rfl, h23, b24, rfl⟩ l19
    refine St.val (v := (.int .i64 a0)) (Yields.move rfl) trivial rfl rfl ?_
    obtain ⟨f25, e26, hm⟩ := bS hm
    have h27 := FnIn.get b24 e26
    refine St.val (v := (.func (.func f25) #[] #[])) (Yields.lookf h23 e26 rfl rfl 0 rfl tm51 tk51 tz50) trivial rfl rfl ?_
    refine St.val (v := (.agg #[.slice none 0 0, .func (.func f25) #[] #[]])) (Yields.build (v := (.agg #[.slice none 0 0, .func (.func f25) #[] #[]])) (vs := #[(1, .func (.func f25) #[] #[])]) (fun _ ha => evp1 ha rfl) (fun _ => by kernel_rfl)) trivial rfl rfl ?_
    refine St.box rfl trivial rfl ?_
    intro b28
    refine St.val (v := (.pointer (some ⟨b28, 0, none⟩))) (Yields.assign rfl) trivial rfl rfl ?_
    refine St.nil ?_
    refine St.norm ?_
    refine St.seq ?_
    refine St.region ?_
    refine St.val (v := (.pointer (some ⟨b28, 0, none⟩))) (Yields.move rfl) trivial rfl rfl ?_
    refine St.val (v := (.iface 49 (.pointer (some ⟨b28, 0, none⟩)))) (Yields.makeInterface tp49 rfl) trivial rfl rfl ?_
    refine St.val (v := (.agg #[.int .i64 a1.N, .slice pA1_0 a1.Kids.length pc1_0])) (Yields.load rfl (Loads.Hk (vs := [.int .i64 a1.N, .slice pA1_0 a1.Kids.length pc1_0]) 2 rfl ta24 rfl rfl)) trivial rfl rfl ?_
    refine St.val (v := (.agg #[.slice none 0 0, .int .i64 0, .int .i64 a1.N, .slice pA1_0 a1.Kids.length pc1_0])) (Yields.build (v := (.agg #[.slice none 0 0, .int .i64 0, .int .i64 a1.N, .slice pA1_0 a1.Kids.length pc1_0])) (vs := #[(2, .agg #[.int .i64 a1.N, .slice pA1_0 a1.Kids.length pc1_0])]) (fun _ ha => evp1 ha rfl) (fun _ => by kernel_rfl)) trivial rfl rfl ?_
    refine St.val (v := (.iface 58 (.agg #[.slice none 0 0, .int .i64 0, .int .i64 a1.N, .slice pA1_0 a1.Kids.length pc1_0]))) (Yields.makeInterface tp58 rfl) trivial rfl rfl ?_
    refine St.rowo_new 58 4 ?_
    refine St.pick (R := [blk b28 (.cells #[.slice none ([] : List DPlace).length 0, .func (.func f25) #[] #[]] 55 (0, 0)), mapv keyInt bl20 vs22, blk b3 (.cells #[.int .i64 a1.N, .slice pA1_0 a1.Kids.length pc1_0] 24 (0, 0)), blk pbl0 (.cells #[.slice pA2 a2.length pc2] 27 (0, 0)), rowo pA2 a2.length pc2 3 1 pcl2]) 0 rfl rfl ?_
    refine St.pick (R := [rowo none ([] : List DPlace).length 0 58 4 [], mapv keyInt bl20 vs22, blk b3 (.cells #[.int .i64 a1.N, .slice pA1_0 a1.Kids.length pc1_0] 24 (0, 0)), blk pbl0 (.cells #[.slice pA2 a2.length pc2] 27 (0, 0)), rowo pA2 a2.length pc2 3 1 pcl2]) 1 rfl rfl ?_
    obtain ⟨q30, e31, hm⟩ := bS hm
    refine St.call [mapv keyInt bl20 vs22, blk b3 (.cells #[.int .i64 a1.N, .slice pA1_0 a1.Kids.length pc1_0] 24 (0, 0)), blk pbl0 (.cells #[.slice pA2 a2.length pc2] 27 (0, 0)), rowo pA2 a2.length pc2 3 1 pcl2] (m_heap_Push_sp (a0 := (DPlace.mk ([] : List Int) 0 a1)) Fsl.nil (Fsl.mono l19 ph1_0) (show Cat KDPlace _ [] [] from rfl) Bnd.of_nil h27 e31) rfl (fun _ ha => ev2 ha rfl rfl) rfl en30 rfl rfl trivial ?_
    rintro _ F32 _ ⟨A34, c35, cells38, rfl, h36, b39, rfl⟩ l33
    refine St.nil ?_
    refine St.norm ?_
    obtain ⟨o49, hm, ho50⟩ := jS hm
    refine St.cutI (fun a w => ∃ z40 : List Int, o49 = .inl z40 ∧ ∃ (A44 : Option Addr) (c45 : Nat) (cells47 : List Value) (F41 : PH), PH.le F32 F41 ∧ Cat (Kind.int .i64) F41 cells47 z40 ∧ Bnd 8 z40 ∧ Has Try.f17.ntmps a [] ∧ Sat ⟨w0, fun b => m0 b ≠ none, F⟩ F41 [blk pbl0 (.cells #[.slice A44 z40.length c45] 27 (0, 0)), rowo A44 z40.length c45 3 1 cells47] w) ?_ ?_
    · skip
      refine St.block ?_
      refine St.loopM hm (fun s66 a w => ∃ (A71 : Option Addr) (c72 : Nat) (cells74 : List Value) (A77 : Option Addr) (c78 : Nat) (cells80 : List Value) (F82 : PH), PH.le F32 F82 ∧ Cat (Kind.int .i64) F82 cells74 s66.1 ∧ Bnd 8 s66.1 ∧ Cat KDPlace F82 cells80 s66.2 ∧ Bnd 64 s66.2 ∧ Has Try.f17.ntmps a [(2, .func (.func 18) #[] #[.pointer (some ⟨pbl0, 0, none⟩)]), (3, .func (.func 19) #[] #[]), (9, .pointer (some ⟨b28, 0, none⟩))] ∧ Sat ⟨w0, fun b => m0 b ≠ none, F⟩ F82 [blk pbl0 (.cells #[.slice A71 s66.1.length c72] 27 (0, 0)), blk b28 (.cells #[.slice A77 s66.2.length c78, .func (.func f25) #[] #[]] 55 (0, 0)), rowo A71 s66.1.length c72 3 1 cells74, rowo A77 s66.2.length c78 58 4 cells80] w) ?_ ?_
      · skip
        intro a w ha hs
        exact ⟨pA2, pc2, pcl2, A34, c35, cells38, F32, (PH.le_refl _), (Cat.mono (PH.le_trans l19 l33) ph2), pbd2, h36, b39, ha.covers ⟨rfl, rfl, rfl, trivial⟩, (Among.of (Among.take 4 rfl rfl (Among.take 0 rfl rfl (Among.take 3 rfl rfl (Among.take 0 rfl rfl Among.none)))) _ hs)⟩
      · rintro s66 o67 co68 hm ho69 a w ⟨A71, c72, cells74, A77, c78, cells80, F82, l83, h73, b75, h79, b81, ha, hs⟩
        refine St.use (?_ : St _ _ _ _ _ _) ha hs
        clear ha hs a w
        refine St.seq ?_
        refine St.seq ?_
        refine St.region ?_
        refine St.val (v := (.pointer (some ⟨b28, 0, none⟩))) (Yields.move rfl) trivial rfl rfl ?_
        refine St.pick (R := [blk pbl0 (.cells #[.slice A71 s66.1.length c72] 27 (0, 0)), blk b28 (.cells #[.slice A77 s66.2.length c78, .func (.func f25) #[] #[]] 55 (0, 0)), rowo A71 s66.1.length c72 3 1 cells74]) 3 rfl rfl ?_
        refine St.pick (R := [rowo A77 s66.2.length c78 58 4 cells80, blk pbl0 (.cells #[.slice A71 s66.1.length c72] 27 (0, 0)), rowo A71 s66.1.length c72 3 1 cells74]) 2 rfl rfl ?_
        obtain ⟨q84, e85, hm⟩ := bS hm
        refine St.call [blk pbl0 (.cells #[.slice A71 s66.1.length c72] 27 (0, 0)), rowo A71 s66.1.length c72 3 1 cells74] (m_api_STree_Len_sp h79 b81 h27 e85) rfl (fun _ ha => ev1 ha rfl) rfl en31 rfl rfl trivial ?_
        rintro _ F86 _ ⟨rfl, rfl⟩ l87
        refine St.val (v := (.bool (decide (q84 > 0)))) (Yields.gt rfl rfl) trivial rfl rfl ?_
        refine St.nil ?_
        refine St.norm ?_
        refine St.cond_b rfl ?_ ?_
        · intro q88
          replace q88 : q84 > 0 := of_decide_eq_true q88
          replace hm := iT hm q88
          refine St.skip ?_
          refine St.norm ?_
          refine St.block ?_
          refine St.seq ?_
          refine St.region ?_
          refine St.val (v := (.pointer (some ⟨b28, 0, none⟩))) (Yields.move rfl) trivial rfl rfl ?_
          refine St.val (v := (.iface 49 (.pointer (some ⟨b28, 0, none⟩)))) (Yields.makeInterface tp49 rfl) trivial rfl rfl ?_
          refine St.pick (R := [blk b28 (.cells #[.slice A77 s66.2.length c78, .func (.func f25) #[] #[]] 55 (0, 0)), blk pbl0 (.cells #[.slice A71 s66.1.length c72] 27 (0, 0)), rowo A71 s66.1.length c72 3 1 cells74]) 1 rfl rfl ?_
          refine St.pick (R := [rowo A77 s66.2.length c78 58 4 cells80, blk pbl0 (.cells #[.slice A71 s66.1.length c72] 27 (0, 0)), rowo A71 s66.1.length c72 3 1 cells74]) 1 rfl rfl ?_
          obtain ⟨q89, e90, hm⟩ := bS hm
          refine St.call [blk pbl0 (.cells #[.slice A71 s66.1.length c72] 27 (0, 0)), rowo A71 s66.1.length c72 3 1 cells74] (m_heap_Pop_sp (Cat.mono l87 h79) b81 h27 e90) rfl (fun _ ha => ev1 ha rfl) rfl en32 rfl rfl trivial ?_
          rintro _ F91 _ ⟨A93, c94, A97, c98, A101, c102, cells105, rfl, h95, h99, h103, b106, rfl⟩ l92
          refine St.val (v := (.agg #[.slice A93 q89.1.l.length c94, .int .i64 q89.1.rank, .int .i64 q89.1.x.N, .slice A97 q89.1.x.Kids.length c98])) (Yields.typeAssert tp58 rfl) trivial rfl rfl ?_
          refine St.alloc tz58 trivial rfl ?_
          intro b107
          refine St.storen (R := [blk b28 (.cells #[.slice A101 q89.2.length c102, .func (.func f25) #[] #[]] 55 (0, 0)), rowo A101 q89.2.length c102 58 4 cells105, blk pbl0 (.cells #[.slice A71 s66.1.length c72] 27 (0, 0)), rowo A71 s66.1.length c72 3 1 cells74]) rfl rfl 0 rfl rfl ta58 rfl rfl rfl trivial (cs' := #[.slice A93 q89.1.l.length c94, .int .i64 q89.1.rank, .int .i64 q89.1.x.N, .slice A97 q89.1.x.Kids.length c98]) rfl ?_
          refine St.nil ?_
          refine St.norm ?_
          refine St.seq ?_
          refine St.region ?_
          refine St.val (v := (.func (.func 18) #[] #[.pointer (some ⟨pbl0, 0, none⟩)])) (Yields.move rfl) trivial rfl rfl ?_
          refine St.val (v := (.pointer (some ⟨b107, 0, none⟩))) (Yields.fieldAddr (v := (.pointer (some ⟨b107, 0, none⟩))) rfl (fun _ => by kernel_rfl)) trivial rfl rfl ?_
          refine St.val (v := (.slice A93 q89.1.l.length c94)) (Yields.load rfl (Loads.H1 0 rfl tc27 rfl)) trivial rfl rfl ?_
          refine St.val (v := (.pointer (some ⟨b107, 2, none⟩))) (Yields.fieldAddr (v := (.pointer (some ⟨b107, 2, none⟩))) rfl (fun _ => by kernel_rfl)) trivial rfl rfl ?_
          refine St.val (v := (.agg #[.int .i64 q89.1.x.N, .slice A97 q89.1.x.Kids.length c98])) (Yields.load rfl (Loads.Hk (vs := [.int .i64 q89.1.x.N, .slice A97 q89.1.x.Kids.length c98]) 0 rfl ta24 rfl rfl)) trivial rfl rfl ?_
          refine St.pick (R := [blk b107 (.cells #[.slice A93 q89.1.l.length c94, .int .i64 q89.1.rank, .int .i64 q89.1.x.N, .slice A97 q89.1.x.Kids.length c98] 58 (0, 0)), blk b28 (.cells #[.slice A101 q89.2.length c102, .func (.func f25) #[] #[]] 55 (0, 0)), rowo A101 q89.2.length c102 58 4 cells105, blk pbl0 (.cells #[.slice A71 s66.1.length c72] 27 (0, 0))]) 4 rfl rfl ?_
          refine St.pick (R := [rowo A71 s66.1.length c72 3 1 cells74, blk b107 (.cells #[.slice A93 q89.1.l.length c94, .int .i64 q89.1.rank, .int .i64 q89.1.x.N, .slice A97 q89.1.x.Kids.length c98] 58 (0, 0)), blk b28 (.cells #[.slice A101 q89.2.length c102, .func (.func f25) #[] #[]] 55 (0, 0)), rowo A101 q89.2.length c102 58 4 cells105]) 4 rfl rfl ?_
          obtain ⟨q108, e109, hm⟩ := bS hm
          refine St.call [blk b107 (.cells #[.slice A93 q89.1.l.length c94, .int .i64 q89.1.rank, .int .i64 q89.1.x.N, .slice A97 q89.1.x.Kids.length c98] 58 (0, 0)), blk b28 (.cells #[.slice A101 q89.2.length c102, .func (.func f25) #[] #[]] 55 (0, 0)), rowo A101 q89.2.length c102 58 4 cells105] (m_search_Leaves_f1_sp (a1 := q89.1.x) h95 h99 (Cat.mono (PH.le_trans l87 l92) h73) b75 e109) rfl (fun _ ha => ev2 ha rfl rfl) rfl en18 rfl rfl trivial ?_
          rintro _ F110 _ ⟨A112, c113, A116, c117, cells120, rfl, h114, h118, b121, rfl⟩ l111
          refine St.val (v := (.tuple #[.int .i64 q108.1, .agg #[.int .i64 q108.2.1.N, .slice A112 q108.2.1.Kids.length c113], .bool q108.2.2.1])) (Yields.move rfl) trivial rfl rfl ?_
          refine St.val (v := (.int .i64 q108.1)) (Yields.extract rfl rfl) trivial rfl rfl ?_
          refine St.val (v := (.agg #[.int .i64 q108.2.1.N, .slice A112 q108.2.1.Kids.length c113])) (Yields.extract rfl rfl) trivial rfl rfl ?_
          refine St.val (v := (.bool q108.2.2.1)) (Yields.extract rfl rfl) trivial rfl rfl ?_
          refine St.alloc tz24 trivial rfl ?_
          intro b122
          refine St.val (v := (.int .i64 q108.1)) (Yields.assign rfl) trivial rfl rfl ?_
          refine St.storen (R := [blk pbl0 (.cells #[.slice A116 q108.2.2.2.length c117] 27 (0, 0)), rowo A116 q108.2.2.2.length c117 3 1 cells120, blk b107 (.cells #[.slice A93 q89.1.l.length c94, .int .i64 q89.1.rank, .int .i64 q89.1.x.N, .slice A97 q89.1.x.Kids.length c98] 58 (0, 0)), blk b28 (.cells #[.slice A101 q89.2.length c102, .func (.func f25) #[] #[]] 55 (0, 0)), rowo A101 q89.2.length c102 58 4 cells105]) rfl rfl 0 rfl rfl ta24 rfl rfl rfl trivial (cs' := #[.int .i64 q108.2.1.N, .slice A112 q108.2.1.Kids.length c113]) rfl ?_
          refine St.val (v := (.bool q108.2.2.1)) (Yields.assign rfl) trivial rfl rfl ?_
          refine St.nil ?_
          refine St.norm ?_
          obtain ⟨z123, hm, hk132⟩ := bS hm
          refine St.cutI (fun a w => ∃ (A127 : Option Addr) (c128 : Nat) (cells130 : List Value) (F124 : PH), PH.le F110 F124 ∧ Cat KDPlace F124 cells130 z123 ∧ Bnd 64 z123 ∧ Has Try.f17.ntmps a [(2, .func (.func 18) #[] #[.pointer (some ⟨pbl0, 0, none⟩)]), (3, .func (.func 19) #[] #[]), (9, .pointer (some ⟨b28, 0, none⟩)), (13, .bool q108.2.2.1)] ∧ Sat ⟨w0, fun b => m0 b ≠ none, F⟩ F124 [blk pbl0 (.cells #[.slice A116 q108.2.2.2.length c117] 27 (0, 0)), blk b28 (.cells #[.slice A127 z123.length c128, .func (.func f25) #[] #[]] 55 (0, 0)), rowo A116 q108.2.2.2.length c117 3 1 cells120, rowo A127 z123.length c128 58 4 cells130] w) ?_ ?_
          · skip
            refine St.seq ?_
            refine St.region ?_
            refine St.val (v := (.int .i64 0)) (Yields.assign rfl) trivial rfl rfl ?_
            refine St.nil ?_
            refine St.norm ?_
            refine St.block ?_
            refine St.loopM hm (fun s151 a w => ∃ (A156 : Option Addr) (c157 : Nat) (cells159 : List Value) (F161 : PH), PH.le F110 F161 ∧ Cat KDPlace F161 cells159 s151.1 ∧ Bnd 64 s151.1 ∧ Has Try.f17.ntmps a [(2, .func (.func 18) #[] #[.pointer (some ⟨pbl0, 0, none⟩)]), (3, .func (.func 19) #[] #[]), (9, .pointer (some ⟨b28, 0, none⟩)), (10, .pointer (some ⟨b107, 0, none⟩)), (11, .int .i64 q108.1), (12, .pointer (some ⟨b122, 0, none⟩)), (13, .bool q108.2.2.1), (14, .int .i64 s151.2)] ∧ Sat ⟨w0, fun b => m0 b ≠ none, F⟩ F161 [blk pbl0 (.cells #[.slice A116 q108.2.2.2.length c117] 27 (0, 0)), blk b28 (.cells #[.slice A156 s151.1.length c157, .func (.func f25) #[] #[]] 55 (0, 0)), blk b107 (.cells #[.slice A93 q89.1.l.length c94, .int .i64 q89.1.rank, .int .i64 q89.1.x.N, .slice A97 q89.1.x.Kids.length c98] 58 (0, 0)), blk b122 (.cells #[.int .i64 q108.2.1.N, .slice A112 q108.2.1.Kids.length c113] 24 (0, 0)), rowo A116 q108.2.2.2.length c117 3 1 cells120, rowo A156 s151.1.length c157 58 4 cells159] w) ?_ ?_
            · skip
              intro a w ha hs
              exact ⟨A101, c102, cells105, F110, (PH.le_refl _), (Cat.mono l111 h103), b106, ha.covers ⟨rfl, rfl, rfl, rfl, rfl, rfl, rfl, rfl, trivial⟩, (Among.of (Among.take 1 rfl rfl (Among.take 3 rfl rfl (Among.take 2 rfl rfl (Among.take 0 rfl rfl (Among.take 0 rfl rfl (Among.take 0 rfl rfl Among.none)))))) _ hs)⟩
            · rintro s151 o152 co153 hm ho154 a w ⟨A156, c157, cells159, F161, l162, h158, b160, ha, hs⟩
              refine St.use (?_ : St _ _ _ _ _ _) ha hs
              clear ha hs a w
              refine St.seq ?_
              refine St.seq ?_
              refine St.region ?_
              refine St.val (v := (.int .i64 s151.2)) (Yields.move rfl) trivial rfl rfl ?_
              refine St.val (v := (.int .i64 q108.1)) (Yields.move rfl) trivial rfl rfl ?_
              refine St.val (v := (.bool (decide (s151.2 < q108.1)))) (Yields.lt rfl rfl) trivial rfl rfl ?_
              refine St.nil ?_
              refine St.norm ?_
              refine St.cond_b rfl ?_ ?_
              · intro q163
                replace q163 : s151.2 < q108.1 := of_decide_eq_true q163
                replace hm := iT hm q163
                refine St.skip ?_
                refine St.norm ?_
                refine St.seq ?_
                refine St.block ?_
                refine St.seq ?_
                refine St.region ?_
                refine St.val (v := (.pointer (some ⟨b107, 0, none⟩))) (Yields.fieldAddr (v := (.pointer (some ⟨b107, 0, none⟩))) rfl (fun _ => by kernel_rfl)) trivial rfl rfl ?_
                refine St.val (v := (.slice A93 q89.1.l.length c94)) (Yields.load rfl (Loads.H1 2 rfl tc27 rfl)) trivial rfl rfl ?_
                refine St.rowo_new 3 1 ?_
                obtain ⟨x169, e170, hm⟩ := bS hm
                refine St.pushS (R := [blk pbl0 (.cells #[.slice A116 q108.2.2.2.length c117] 27 (0, 0)), blk b28 (.cells #[.slice A156 s151.1.length c157, .func (.func f25) #[] #[]] 55 (0, 0)), blk b107 (.cells #[.slice A93 q89.1.l.length c94, .int .i64 q89.1.rank, .int .i64 q89.1.x.N, .slice A97 q89.1.x.Kids.length c98] 58 (0, 0)), blk b122 (.cells #[.int .i64 q108.2.1.N, .slice A112 q108.2.1.Kids.length c113] 24 (0, 0)), rowo A116 q108.2.2.2.length c117 3 1 cells120, rowo A156 s151.1.length c157 58 4 cells159]) e170 ts27 rfl rfl rfl rfl 0 rfl rfl (show Cat (Kind.int .i64) _ [] [] from rfl) (Fsl.mono (PH.le_trans l111 l162) h95) rfl trivial ?_
                intro A165 c166 cells167 h168
                refine St.val (v := (.int .i64 s151.2)) (Yields.move rfl) trivial rfl rfl ?_
                refine St.buildSlice (e := 3) (cells := #[.int .i64 s151.2]) (vs := #[(0, .int .i64 s151.2)]) (fun _ ha => evp1 ha rfl) (fun _ => by kernel_rfl) rfl trivial ?_
                intro b172
                obtain ⟨x177, e178, hm⟩ := bS hm
                refine St.pushL (R := [blk b172 (.cells #[.int .i64 s151.2] 3 (0, 0)), blk pbl0 (.cells #[.slice A116 q108.2.2.2.length c117] 27 (0, 0)), blk b28 (.cells #[.slice A156 s151.1.length c157, .func (.func f25) #[] #[]] 55 (0, 0)), blk b107 (.cells #[.slice A93 q89.1.l.length c94, .int .i64 q89.1.rank, .int .i64 q89.1.x.N, .slice A97 q89.1.x.Kids.length c98] 58 (0, 0)), blk b122 (.cells #[.int .i64 q108.2.1.N, .slice A112 q108.2.1.Kids.length c113] 24 (0, 0)), rowo A116 q108.2.2.2.length c117 3 1 cells120, rowo A156 s151.1.length c157 58 4 cells159]) (R3 := [blk pbl0 (.cells #[.slice A116 q108.2.2.2.length c117] 27 (0, 0)), blk b28 (.cells #[.slice A156 s151.1.length c157, .func (.func f25) #[] #[]] 55 (0, 0)), blk b107 (.cells #[.slice A93 q89.1.l.length c94, .int .i64 q89.1.rank, .int .i64 q89.1.x.N, .slice A97 q89.1.x.Kids.length c98] 58 (0, 0)), blk b122 (.cells #[.int .i64 q108.2.1.N, .slice A112 q108.2.1.Kids.length c113] 24 (0, 0)), rowo A116 q108.2.2.2.length c117 3 1 cells120, rowo A156 s151.1.length c157 58 4 cells159]) e178 ts27 rfl rfl rfl rfl rfl 1 rfl rfl 0 rfl 0 rfl rfl h168 ⟨[.int .i64 s151.2], _, rfl, rfl, rfl⟩ rfl trivial ?_
                intro A173 c174 cells175 h176
                refine St.val (v := (.slice A173 x177.length c174)) (Yields.assign rfl) trivial rfl rfl ?_
                refine St.nil ?_
                refine St.norm ?_
                refine StD.start [12, 15] [rowo A173 x177.length c174 3 1 cells175, blk pbl0 (.cells #[.slice A116 q108.2.2.2.length c117] 27 (0, 0)), blk b28 (.cells #[.slice A156 s151.1.length c157, .func (.func f25) #[] #[]] 55 (0, 0)), blk b107 (.cells #[.slice A93 q89.1.l.length c94, .int .i64 q89.1.rank, .int .i64 q89.1.x.N, .slice A97 q89.1.x.Kids.length c98] 58 (0, 0)), blk b122 (.cells #[.int .i64 q108.2.1.N, .slice A112 q108.2.1.Kids.length c113] 24 (0, 0)), rowo A116 q108.2.2.2.length c117 3 1 cells120, rowo A156 s151.1.length c157 58 4 cells159] hmix ?_
                refine StD.takeP (i := 0) (v := (.pointer (some ⟨b28, 0, none⟩))) rfl (fun _ => Yields.move rfl) rfl rfl trivial (by rintro _ _ _ ⟨_, _, _, _, h, _⟩; cases h) (by kernel_rfl) (listed' := #[true, false, false, false, false, false, false, false, false, false, false, false, false, false, false, false]) rfl ?_
                refine StD.takeP (i := 1) (v := (.iface 49 (.pointer (some ⟨b28, 0, none⟩)))) rfl (fun _ => Yields.makeInterface tp49 rfl) rfl rfl trivial (by rintro _ _ _ ⟨_, _, _, _, h, _⟩; cases h) (by kernel_rfl) (listed' := #[true, true, false, false, false, false, false, false, false, false, false, false, false, false, false, false]) rfl ?_
                refine StD.takeP (i := 2) (v := (.slice A173 x177.length c174)) rfl (fun _ => Yields.move rfl) rfl rfl trivial (by rintro _ _ _ ⟨_, _, _, _, h, _⟩; cases h) (by kernel_rfl) (listed' := #[true, true, true, false, false, false, false, false, false, false, false, false, false, false, false, false]) rfl ?_
                refine StD.takeP (i := 3) (v := (.pointer (some ⟨b28, 0, none⟩))) rfl (fun _ => Yields.move rfl) rfl rfl trivial (by rintro _ _ _ ⟨_, _, _, _, h, _⟩; cases h) (by kernel_rfl) (listed' := #[true, true, true, true, false, false, false, false, false, false, false, false, false, false, false, false]) rfl ?_
                refine StD.takeP (i := 4) (v := (.pointer (some ⟨b28, 0, none⟩))) rfl (fun _ => Yields.nilCheck rfl) rfl rfl trivial (by rintro _ _ _ ⟨_, _, _, _, h, _⟩; cases h) (by kernel_rfl) (listed' := #[true, true, true, true, true, false, false, false, false, false, false, false, false, false, false, false]) rfl ?_
                refine StD.takeP (i := 5) (v := (.pointer (some ⟨b28, 1, none⟩))) rfl (fun _ => Yields.fieldAddr (v := (.pointer (some ⟨b28, 1, none⟩))) rfl (fun _ => by kernel_rfl)) rfl rfl trivial (by rintro _ _ _ ⟨_, _, _, _, h, _⟩; cases h) (by kernel_rfl) (listed' := #[true, true, true, true, true, true, false, false, false, false, false, false, false, false, false, false]) rfl ?_
                refine StD.take [0, 1, 2, 3, 4, 5, 7, 9, 11, 13, 14] (i := 6) (v := (.func (.func f25) #[] #[])) rfl (Yields.load rfl (Loads.H1 2 rfl tc50 rfl)) rfl rfl trivial Among.refl (by rintro _ _ _ ⟨_, _, _, _, h, _⟩; cases h) (by kernel_rfl) (listed' := #[true, true, true, true, true, true, true, false, false, false, false, false, false, false, false, false]) rfl ?_
                refine StD.takeP (i := 7) (v := (.slice A173 x177.length c174)) rfl (fun _ => Yields.move rfl) rfl rfl trivial (by rintro _ _ _ ⟨_, _, _, _, h, _⟩; cases h) (by kernel_rfl) (listed' := #[true, true, true, true, true, true, true, true, false, false, false, false, false, false, false, false]) rfl ?_
                refine StD.takeP (i := 9) (v := (.func (.func 19) #[] #[])) rfl (fun _ => Yields.move rfl) rfl rfl trivial (by rintro _ _ _ ⟨_, _, _, _, h, _⟩; cases h) (by kernel_rfl) (listed' := #[true, true, true, true, true, true, true, true, false, true, false, false, false, false, false, false]) rfl ?_
                refine StD.take [0, 1, 2, 3, 4, 5, 7, 9, 11, 13, 14] (i := 10) (v := (.agg #[.int .i64 q108.2.1.N, .slice A112 q108.2.1.Kids.length c113])) rfl (Yields.load rfl (Loads.Hk (vs := [.int .i64 q108.2.1.N, .slice A112 q108.2.1.Kids.length c113]) 4 rfl ta24 rfl rfl)) rfl rfl trivial Among.refl (by rintro _ _ _ ⟨_, _, _, _, h, _⟩; cases h) (by kernel_rfl) (listed' := #[true, true, true, true, true, true, true, true, false, true, true, false, false, false, false, false]) rfl ?_
                refine StD.takeP (i := 11) (v := (.int .i64 s151.2)) rfl (fun _ => Yields.move rfl) rfl rfl trivial (by rintro _ _ _ ⟨_, _, _, _, h, _⟩; cases h) (by kernel_rfl) (listed' := #[true, true, true, true, true, true, true, true, false, true, true, true, false, false, false, false]) rfl ?_
                refine StD.only (i := 8) rfl (by kernel_rfl) (listed' := #[true, true, true, true, true, true, true, true, true, true, true, true, false, false, false, false]) rfl ?_
                intro hcl180
                refine St.pick (R := [blk pbl0 (.cells #[.slice A116 q108.2.2.2.length c117] 27 (0, 0)), blk b28 (.cells #[.slice A156 s151.1.length c157, .func (.func f25) #[] #[]] 55 (0, 0)), blk b107 (.cells #[.slice A93 q89.1.l.length c94, .int .i64 q89.1.rank, .int .i64 q89.1.x.N, .slice A97 q89.1.x.Kids.length c98] 58 (0, 0)), blk b122 (.cells #[.int .i64 q108.2.1.N, .slice A112 q108.2.1.Kids.length c113] 24 (0, 0)), rowo A116 q108.2.2.2.length c117 3 1 cells120, rowo A156 s151.1.length c157 58 4 cells159]) 0 rfl rfl ?_
                obtain ⟨q181, e182, hm⟩ := bS hm
                refine St.call [blk pbl0 (.cells #[.slice A116 q108.2.2.2.length c117] 27 (0, 0)), blk b28 (.cells #[.slice A156 s151.1.length c157, .func (.func f25) #[] #[]] 55 (0, 0)), blk b107 (.cells #[.slice A93 q89.1.l.length c94, .int .i64 q89.1.rank, .int .i64 q89.1.x.N, .slice A97 q89.1.x.Kids.length c98] 58 (0, 0)), blk b122 (.cells #[.int .i64 q108.2.1.N, .slice A112 q108.2.1.Kids.length c113] 24 (0, 0)), rowo A116 q108.2.2.2.length c117 3 1 cells120, rowo A156 s151.1.length c157 58 4 cells159] (CallSp.lend (Hl := [rowo A173 x177.length c174 3 1 cells175]) (fun m_ hm_ hd_ h1_ h2_ => (m_table1_sp h27 (lentR hm_ 0 rfl rfl h176 (Bnd.of_push e178) h1_ h2_) e182).mono (fun _ _ _ h_ _ _ => h_))) rfl (fun _ ha => ev1 ha rfl) rfl (m_table1_en h27) rfl rfl trivial ?_
                rintro _ F183 _ ⟨_, rfl, rfl, rfl⟩ l184
                refine StD.next hcl180 (fun _ => (Among.of_le l184 (PH.le_trans l19 (PH.le_trans l33 (PH.le_trans l83 (PH.le_trans l87 (PH.le_trans l92 (PH.le_trans l111 l162)))))) (Among.take 0 rfl rfl (Among.take 0 rfl rfl (Among.take 0 rfl rfl (Among.take 0 rfl rfl (Among.take 0 rfl rfl (Among.take 0 rfl rfl (Among.take 0 rfl rfl Among.none))))))))) ?_
                refine StD.only (i := 12) rfl (by kernel_rfl) (listed' := #[true, true, true, true, true, true, true, true, true, true, true, true, true, false, false, false]) rfl ?_
                intro hcl185
                obtain ⟨q186, e187, hm⟩ := bS hm
                refine St.call [rowo A173 x177.length c174 3 1 cells175, blk pbl0 (.cells #[.slice A116 q108.2.2.2.length c117] 27 (0, 0)), blk b28 (.cells #[.slice A156 s151.1.length c157, .func (.func f25) #[] #[]] 55 (0, 0)), blk b107 (.cells #[.slice A93 q89.1.l.length c94, .int .i64 q89.1.rank, .int .i64 q89.1.x.N, .slice A97 q89.1.x.Kids.length c98] 58 (0, 0)), blk b122 (.cells #[.int .i64 q108.2.1.N, .slice A112 q108.2.1.Kids.length c113] 24 (0, 0)), rowo A116 q108.2.2.2.length c117 3 1 cells120, rowo A156 s151.1.length c157 58 4 cells159] (m_search_below_sp (a0 := q108.2.1) (Fsl.mono (PH.le_trans l162 l184) h114) e187) rfl (fun _ ha => ev2 ha rfl rfl) rfl en19 rfl rfl trivial ?_
                rintro _ F188 _ ⟨A190, c191, rfl, h192, rfl⟩ l189
                refine StD.next hcl185 (fun h => by cases h) ?_
                refine StD.takeP (i := 13) (v := (.agg #[.slice A173 x177.length c174, .int .i64 q181, .int .i64 q186.N, .slice A190 q186.Kids.length c191])) rfl (fun _ => Yields.build (v := (.agg #[.slice A173 x177.length c174, .int .i64 q181, .int .i64 q186.N, .slice A190 q186.Kids.length c191])) (vs := #[(0, .slice A173 x177.length c174), (1, .int .i64 q181), (2, .agg #[.int .i64 q186.N, .slice A190 q186.Kids.length c191])]) (fun _ ha => evp3 ha rfl rfl rfl) (fun _ => by kernel_rfl)) rfl rfl trivial (by rintro _ _ _ ⟨_, _, _, _, h, _⟩; cases h) (by kernel_rfl) (listed' := #[true, true, true, true, true, true, true, true, true, true, true, true, true, true, false, false]) rfl ?_
                refine StD.takeP (i := 14) (v := (.iface 58 (.agg #[.slice A173 x177.length c174, .int .i64 q181, .int .i64 q186.N, .slice A190 q186.Kids.length c191]))) rfl (fun _ => Yields.makeInterface tp58 rfl) rfl rfl trivial (by rintro _ _ _ ⟨_, _, _, _, h, _⟩; cases h) (by kernel_rfl) (listed' := #[true, true, true, true, true, true, true, true, true, true, true, true, true, true, true, false]) rfl ?_
                refine StD.only (i := 15) rfl (by kernel_rfl) (listed' := #[true, true, true, true, true, true, true, true, true, true, true, true, true, true, true, true]) rfl ?_
                intro hcl194
                refine St.frz 0 rfl rfl rfl (Cat.mono (PH.le_trans l184 l189) h176) (Bnd.of_push e178) ?_
                intro F195 l196 h197
                refine St.pick (R := [blk pbl0 (.cells #[.slice A116 q108.2.2.2.length c117] 27 (0, 0)), blk b28 (.cells #[.slice A156 s151.1.length c157, .func (.func f25) #[] #[]] 55 (0, 0)), blk b107 (.cells #[.slice A93 q89.1.l.length c94, .int .i64 q89.1.rank, .int .i64 q89.1.x.N, .slice A97 q89.1.x.Kids.length c98] 58 (0, 0)), blk b122 (.cells #[.int .i64 q108.2.1.N, .slice A112 q108.2.1.Kids.length c113] 24 (0, 0)), rowo A116 q108.2.2.2.length c117 3 1 cells120]) 5 rfl rfl ?_
                refine St.pick (R := [rowo A156 s151.1.length c157 58 4 cells159, blk pbl0 (.cells #[.slice A116 q108.2.2.2.length c117] 27 (0, 0)), blk b107 (.cells #[.slice A93 q89.1.l.length c94, .int .i64 q89.1.rank, .int .i64 q89.1.x.N, .slice A97 q89.1.x.Kids.length c98] 58 (0, 0)), blk b122 (.cells #[.int .i64 q108.2.1.N, .slice A112 q108.2.1.Kids.length c113] 24 (0, 0)), rowo A116 q108.2.2.2.length c117 3 1 cells120]) 2 rfl rfl ?_
                obtain ⟨q198, e199, hm⟩ := bS hm
                refine St.call [blk pbl0 (.cells #[.slice A116 q108.2.2.2.length c117] 27 (0, 0)), blk b107 (.cells #[.slice A93 q89.1.l.length c94, .int .i64 q89.1.rank, .int .i64 q89.1.x.N, .slice A97 q89.1.x.Kids.length c98] 58 (0, 0)), blk b122 (.cells #[.int .i64 q108.2.1.N, .slice A112 q108.2.1.Kids.length c113] 24 (0, 0)), rowo A116 q108.2.2.2.length c117 3 1 cells120] (m_heap_Push_sp (a0 := (DPlace.mk x177 q181 q186)) h197 (Fsl.mono l196 h192) (Cat.mono (PH.le_trans l184 (PH.le_trans l189 l196)) h158) b160 h27 e199) rfl (fun _ ha => ev2 ha rfl rfl) rfl en30 rfl rfl trivial ?_
                rintro _ F200 _ ⟨A202, c203, cells206, rfl, h204, b207, rfl⟩ l201
                refine StD.next hcl194 (fun h => by cases h) ?_
                refine StD.done (by kernel_rfl) ?_
                refine St.innorm ?_
                refine St.norm ?_
                refine St.region ?_
                refine St.val (v := (.int .i64 s151.2)) (Yields.move rfl) trivial rfl rfl ?_
                refine St.val (v := (.int .i64 (Mir.w64 (s151.2 + 1)))) (Yields.addw rfl rfl) trivial rfl rfl ?_
                refine St.val (v := (.int .i64 (Mir.w64 (s151.2 + 1)))) (Yields.assign rfl) trivial rfl rfl ?_
                refine St.nil ?_
                refine St.norm ?_
                obtain rfl := sI hm
                intro a w ha hs
                exact ⟨(q198, Mir.w64 (s151.2 + 1)), aL ho154, A202, c203, cells206, F200, (PH.le_trans l162 (PH.le_trans l184 (PH.le_trans l189 (PH.le_trans l196 l201)))), h204, b207, ha.covers ⟨rfl, rfl, rfl, rfl, rfl, rfl, rfl, rfl, trivial⟩, (Among.of (Among.take 2 rfl rfl (Among.take 0 rfl rfl (Among.take 1 rfl rfl (Among.take 1 rfl rfl (Among.take 1 rfl rfl (Among.take 0 rfl rfl Among.none)))))) _ hs)⟩
              · intro q208
                replace q208 : ¬ (s151.2 < q108.1) := of_decide_eq_false q208
                replace hm := iF hm q208
                refine St.exit ?_
                refine St.thenexit ?_
                refine St.thenexit ?_
                refine St.inexit ?_
                obtain rfl := sI hm
                obtain rfl := aR ho154
                intro a w ha hs
                exact ⟨A156, c157, cells159, F161, l162, h158, b160, ha.covers ⟨rfl, rfl, rfl, rfl, trivial⟩, (Among.of (Among.take 0 rfl rfl (Among.take 0 rfl rfl (Among.take 2 rfl rfl (Among.take 2 rfl rfl Among.none)))) _ hs)⟩
          · rintro a w ⟨A127, c128, cells130, F124, l125, h129, b131, ha, hs⟩
            replace hm := hk132
            refine St.use (?_ : St _ _ _ _ _ _) ha hs
            clear ha hs a w
            refine St.seq ?_
            refine St.region ?_
            refine St.val (v := (.bool q108.2.2.1)) (Yields.move rfl) trivial rfl rfl ?_
            refine St.val (v := (.bool (!q108.2.2.1))) (Yields.not rfl) trivial rfl rfl ?_
            refine St.nil ?_
            refine St.norm ?_
            refine St.cond_b rfl ?_ ?_
            · intro q209
              replace q209 : ¬ (q108.2.2.1 = true) := nb_t q209
              replace hm := iF hm q209
              refine St.seq ?_
              refine St.region ?_
              refine St.val (v := (.pointer (some ⟨b28, 0, none⟩))) (Yields.move rfl) trivial rfl rfl ?_
              refine St.pick (R := [blk pbl0 (.cells #[.slice A116 q108.2.2.2.length c117] 27 (0, 0)), blk b28 (.cells #[.slice A127 z123.length c128, .func (.func f25) #[] #[]] 55 (0, 0)), rowo A116 q108.2.2.2.length c117 3 1 cells120]) 3 rfl rfl ?_
              refine St.pick (R := [rowo A127 z123.length c128 58 4 cells130, blk pbl0 (.cells #[.slice A116 q108.2.2.2.length c117] 27 (0, 0)), rowo A116 q108.2.2.2.length c117 3 1 cells120]) 2 rfl rfl ?_
              obtain ⟨q210, e211, hm⟩ := bS hm
              refine St.call [blk pbl0 (.cells #[.slice A116 q108.2.2.2.length c117] 27 (0, 0)), rowo A116 q108.2.2.2.length c117 3 1 cells120] (m_api_STree_Len_sp h129 b131 h27 e211) rfl (fun _ ha => ev1 ha rfl) rfl en31 rfl rfl trivial ?_
              rintro _ F212 _ ⟨rfl, rfl⟩ l213
              refine St.val (v := (.bool (decide (q210 > 0)))) (Yields.gt rfl rfl) trivial rfl rfl ?_
              refine St.val (v := (.bool (decide (q210 > 0)))) (Yields.assign rfl) trivial rfl rfl ?_
              refine St.nil ?_
              refine St.norm ?_
              refine St.ret ?_
              refine St.inret ?_
              refine St.thenret ?_
              refine St.inret ?_
              refine St.thenret ?_
              obtain rfl := sI hm
              obtain rfl := aR ho69
              obtain rfl := aR ho50
              exact St.doneR1 rfl rfl ⟨A116, c117, cells120, rfl, (Cat.mono (PH.le_trans l125 l213) h118), b121, rfl⟩ (fun w hs => Among.of (Among.take 2 rfl rfl (Among.take 2 rfl rfl Among.none)) w hs)
            · intro q214
              replace q214 : q108.2.2.1 = true := nb_f q214
              replace hm := iT hm q214
              refine St.skip ?_
              refine St.innorm ?_
              refine St.norm ?_
              obtain rfl := sI hm
              intro a w ha hs
              exact ⟨(q108.2.2.2, z123), aL ho69, A116, c117, cells120, A127, c128, cells130, F124, (PH.le_trans l83 (PH.le_trans l87 (PH.le_trans l92 (PH.le_trans l111 l125)))), (Cat.mono l125 h118), b121, h129, b131, ha.covers ⟨rfl, rfl, rfl, trivial⟩, (Among.of (Among.take 0 rfl rfl (Among.take 0 rfl rfl (Among.take 0 rfl rfl (Among.take 0 rfl rfl Among.none)))) _ hs)⟩
        · intro q215
          replace q215 : ¬ (q84 > 0) := of_decide_eq_false q215
          replace hm := iF hm q215
          refine St.exit ?_
          refine St.thenexit ?_
          refine St.thenexit ?_
          refine St.inexit ?_
          obtain rfl := sI hm
          obtain rfl := aR ho69
          intro a w ha hs
          exact ⟨s66.1, rfl, A71, c72, cells74, F86, (PH.le_trans l83 l87), (Cat.mono l87 h73), b75, ha.covers trivial, (Among.of (Among.take 2 rfl rfl (Among.take 2 rfl rfl Among.none)) _ hs)⟩
    · rintro a w ⟨z40, rfl, A44, c45, cells47, F41, l42, h46, b48, ha, hs⟩
      replace hm := aL ho50
      refine St.use (?_ : St _ _ _ _ _ _) ha hs
      clear ha hs a w
      refine St.seq ?_
      refine St.region ?_
      refine St.val (v := (.bool false)) (Yields.assign rfl) trivial rfl rfl ?_
      refine St.nil ?_
      refine St.norm ?_
      refine St.ret ?_
      obtain rfl := sI hm
      exact St.doneR1 rfl rfl ⟨A44, c45, cells47, rfl, h46, b48, rfl⟩ (fun w hs => Among.of (Among.take 0 rfl rfl (Among.take 0 rfl rfl Among.none)) w hs)

end Go.Proofs.Ytjjmdiddgcllkaa
