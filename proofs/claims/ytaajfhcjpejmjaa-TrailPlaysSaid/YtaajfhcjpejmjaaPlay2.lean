import Derived.Test.YtaajfhcjpejmjaaPlay1
namespace Go.Proofs.Ytaajfhcjpejmjaa
open Go Go.Sy Go.RowKit
set_option linter.unusedVariables false
theorem ints_replicate (k : Nat) : ints (List.replicate k 0) = List.replicate k (.int .i64 0) := by unfold ints; simp
theorem shErr_zero {n : Int} {l : List Sh} (h : shErr n l = 0) : 1 ≤ n ∧ n ≤ 64 ∧ l.length ≤ 400 ∧ ∀ x ∈ l, okSh n x = true := by
  unfold shErr at h
  split at h
  · omega
  · rename_i h1
    split at h
    · omega
    · rename_i h2
      have h3 : (okn n && l.all (okSh n)) = true := by revert h1; cases (okn n && l.all (okSh n)) <;> simp
      rw [Bool.and_eq_true, List.all_eq_true] at h3
      have h4 := of_decide_eq_true h3.1
      exact ⟨h4.1, h4.2, by omega, h3.2⟩

theorem play_sp {F : PH} {A : Option Addr} {k c : Nat} {l : List Sh} {n : Int} (hS : Slc shK F A k l) (hmax : k ≤ 140737488355328) :
    CallSp Try.prog 11 #[.int .i64 n, .slice A k c] F [] (fun u F' H' => (shErr n l ≠ 0 ∧ u = .tuple #[.pointer none, .int .i64 (shErr n l)] ∧ H' = []) ∨ (shErr n l = 0 ∧ plays l (start n.toNat) = none ∧ u = .tuple #[.pointer none, .int .i64 11] ∧ H' = []) ∨ (shErr n l = 0 ∧ ∃ s SB, plays l (start n.toNat) = some s ∧ WF n.toNat s ∧ u = .tuple #[.pointer (some ⟨SB, 0, none⟩), .int .i64 0] ∧ StoreH F' SB n.toNat s H')) := by
  refine CallSp.enter (args := [.int .i64 n, .slice A k c]) Try.func11 rfl rfl ?_
  intro w0 m0 hm0
  have hlen := hS.1
  refine St.seq ?_
  refine St.region ?_
  refine St.val (v := (.pointer none)) (Yields.assign rfl) trivial rfl rfl ?_
  refine St.val (v := (.int .i64 0)) (Yields.assign rfl) trivial rfl rfl ?_
  refine St.nil ?_
  refine St.norm ?_
  refine St.seq ?_
  refine St.seq ?_
  refine St.region ?_
  refine St.val (v := (.int .i64 n)) (Yields.move rfl) trivial rfl rfl ?_
  refine St.val (v := (.slice A k c)) (Yields.move rfl) trivial rfl rfl ?_
  refine St.call [] (shifts_sp hS hmax) rfl (fun _ ha => ev2 ha rfl rfl) rfl en15 rfl rfl trivial ?_
  rintro _ _F _ ⟨rfl, rfl, rfl⟩ hle1
  refine St.val (v := (.int .i64 (shErr n l))) (Yields.assign rfl) trivial rfl rfl ?_
  refine St.nil ?_
  refine St.norm ?_
  refine St.seq ?_
  refine St.region ?_
  refine St.val (v := (.int .i64 (shErr n l))) (Yields.move rfl) trivial rfl rfl ?_
  by_cases q2 : shErr n l = 0
  · skip
    refine St.val (v := (.bool false)) (Yields.nis q2 (Yields.ne rfl rfl)) trivial rfl rfl ?_
    refine St.nil ?_
    refine St.norm ?_
    refine St.cond_f rfl ?_
    refine St.skip ?_
    refine St.norm ?_
    refine St.seq ?_
    refine St.region ?_
    obtain ⟨hn1, hn2, hl4, hok⟩ := shErr_zero q2
    refine St.val (v := (.int .i64 n)) (Yields.move rfl) trivial rfl rfl ?_
    refine St.make1 ts23 tz3 rfl rfl rfl (by omega) (by omega) (by omega) rfl rfl trivial ?_
    intro b3
    refine St.val (v := (.agg #[.slice (some ⟨b3, 0, none⟩) n.toNat n.toNat, .slice none 0 0, .slice none 0 0])) (Yields.build (v := (.agg #[.slice (some ⟨b3, 0, none⟩) n.toNat n.toNat, .slice none 0 0, .slice none 0 0])) (vs := #[(0, .slice (some ⟨b3, 0, none⟩) n.toNat n.toNat)]) (fun _ ha => evp1 ha rfl) (fun _ => by kernel_rfl)) trivial rfl rfl ?_
    refine St.box rfl trivial rfl ?_
    intro b4
    refine St.val (v := (.pointer (some ⟨b4, 0, none⟩))) (Yields.assign rfl) trivial rfl rfl ?_
    refine St.nil ?_
    refine St.norm ?_
    refine St.seq ?_
    refine St.seq ?_
    refine St.region ?_
    refine St.val (v := (.slice A k c)) (Yields.move rfl) trivial rfl rfl ?_
    refine St.val (v := (.int .i64 (k : Int))) (Yields.lenSlice tu22 rfl) trivial rfl rfl ?_
    refine St.val (v := (.int .i64 0)) (Yields.move rfl) trivial rfl rfl ?_
    refine St.nil ?_
    refine St.norm ?_
    refine St.block ?_
    refine St.row_new 46 2 ?_
    refine St.row_new 3 1 ?_
    refine St.loop (fun kk a w => ∃ (i : Nat) (s : TS) (CA : Option Addr) (cc : Nat) (TA : Option Addr) (tc : Nat) (MA : Option Addr) (mc : Nat) (tcells : List Value) (F1 : PH), kk = k - i ∧ i ≤ k ∧ plays l (start n.toNat) = plays (l.drop i) s ∧ WF n.toNat s ∧ s.tr.length ≤ i ∧ s.marks.length ≤ i ∧ PH.le F F1 ∧ Cat (TE b4) F1 tcells s.tr ∧ Has Try.f11.ntmps a [(7, .pointer (some ⟨b4, 0, none⟩)), (20, .slice A k c), (21, .int .i64 (k : Int)), (22, .int .i64 (i : Int))] ∧ Sat ⟨w0, fun b => m0 b ≠ none, F⟩ F1 [blk b4 (.cells #[.slice CA n.toNat cc, .slice TA s.tr.length tc, .slice MA s.marks.length mc] 40 (0, 0)), row CA n.toNat cc 3 1 (ints s.cells), row TA s.tr.length tc 46 2 tcells, row MA s.marks.length mc 3 1 (ints s.marks)] w) k ?_ ?_
    · intro a w ha hs
      refine ⟨0, start n.toNat, some ⟨b3, 0, none⟩, n.toNat, none, 0, none, 0, [], F, by omega, by omega, rfl, start_wf _, Nat.le_refl _, Nat.le_refl _, PH.le_refl _, rfl, ha.covers ⟨rfl, rfl, rfl, rfl, trivial⟩, ?_⟩
      have h1 : ints (start n.toNat).cells = List.replicate n.toNat (.int .i64 0) := ints_replicate _
      rw [h1]
      exact (Among.of (Among.take 2 rfl rfl (Among.take 2 rfl rfl (Among.take 1 rfl rfl (Among.take 0 rfl rfl Among.none)))) _ hs)
    · rintro kk a w ⟨i, s, CA, cc, TA, tc, MA, mc, tcells, F1, hkk, hik, hp, hwf, htl, hml, hle, hT, ha, hs⟩
      refine St.use (?_ : St _ _ _ _ _ _) ha hs
      clear ha hs a w
      replace hS := hS.mono hle
      by_cases hi : (i : Int) < (k : Int)
      · skip
        obtain ⟨x5, hx8⟩ : ∃ x, l[i]? = some x := ⟨_, List.getElem?_eq_getElem (by omega)⟩
        obtain ⟨ad6, cs7, hA9, hK10, hc11⟩ := hS.get hx8
        subst hA9
        obtain rfl : cs7 = shV x5 := hK10
        obtain ⟨p12, hp13⟩ : ∃ p, ad6.add (i * 3) = p := ⟨_, rfl⟩
        have hc11 : ∀ j v, ([.int .i64 x5.k, .int .i64 x5.a, .int .i64 x5.v] : List Value)[j]? = some v → PH.cell? F1 (p12.add j) = some v := by rw [← hp13]; exact hc11
        have hokx := hok _ (List.mem_of_getElem? hx8)
        rw [plays_drop hx8] at hp
        obtain ⟨hs1, hs2⟩ := step_lens s x5
        have hSt : StoreH F1 b4 n.toNat s [blk b4 (.cells #[.slice CA n.toNat cc, .slice TA s.tr.length tc, .slice MA s.marks.length mc] 40 (0, 0)), row CA n.toNat cc 3 1 (ints s.cells), row TA s.tr.length tc 46 2 tcells, row MA s.marks.length mc 3 1 (ints s.marks)] := ⟨CA, cc, TA, tc, MA, mc, tcells, rfl, hT⟩
        have hokx : okSh (n.toNat : Int) x5 = true := by rw [Int.toNat_of_nonneg (by omega)]; exact hokx
        refine St.seq ?_
        refine St.region ?_
        refine St.val (v := (.bool true)) (Yields.is hi (Yields.lt rfl rfl)) trivial rfl rfl ?_
        refine St.nil ?_
        refine St.norm ?_
        refine St.seq ?_
        refine St.cond_t rfl ?_
        refine St.skip ?_
        refine St.norm ?_
        refine St.seq ?_
        refine St.block ?_
        refine St.seq ?_
        refine St.region ?_
        refine St.val (v := (.pointer (some p12))) (Yields.indexAddr (p := p12) ts22 rfl rfl (by omega) (by omega) (by rw [← hp13]; first | rfl | (congr 1; omega))) trivial rfl rfl ?_
        refine St.val (v := (.agg #[.int .i64 x5.k, .int .i64 x5.a, .int .i64 x5.v])) (Yields.load rfl (Loads.Fatn0 hc11 ta29)) trivial rfl rfl ?_
        refine St.alloc tz29 trivial rfl ?_
        intro b14
        refine St.storen (R := [blk b4 (.cells #[.slice CA n.toNat cc, .slice TA s.tr.length tc, .slice MA s.marks.length mc] 40 (0, 0)), row CA n.toNat cc 3 1 (ints s.cells), row TA s.tr.length tc 46 2 tcells, row MA s.marks.length mc 3 1 (ints s.marks)]) rfl rfl 0 rfl rfl ta29 rfl rfl rfl trivial (cs' := #[.int .i64 x5.k, .int .i64 x5.a, .int .i64 x5.v]) rfl ?_
        refine St.nil ?_
        refine St.norm ?_
        refine St.seq ?_
        refine St.region ?_
        refine St.val (v := (.pointer (some ⟨b4, 0, none⟩))) (Yields.move rfl) trivial rfl rfl ?_
        refine St.val (v := (.agg #[.int .i64 x5.k, .int .i64 x5.a, .int .i64 x5.v])) (Yields.load rfl (Loads.Hk (vs := [.int .i64 x5.k, .int .i64 x5.a, .int .i64 x5.v]) 0 rfl ta29 rfl rfl)) trivial rfl rfl ?_
        refine St.pick (R := [blk b14 (.cells #[.int .i64 x5.k, .int .i64 x5.a, .int .i64 x5.v] 29 (0, 0)), blk b4 (.cells #[.slice CA n.toNat cc, .slice TA s.tr.length tc, .slice MA s.marks.length mc] 40 (0, 0)), row CA n.toNat cc 3 1 (ints s.cells), row TA s.tr.length tc 46 2 tcells]) 4 rfl rfl ?_
        refine St.pick (R := [row MA s.marks.length mc 3 1 (ints s.marks), blk b14 (.cells #[.int .i64 x5.k, .int .i64 x5.a, .int .i64 x5.v] 29 (0, 0)), blk b4 (.cells #[.slice CA n.toNat cc, .slice TA s.tr.length tc, .slice MA s.marks.length mc] 40 (0, 0)), row CA n.toNat cc 3 1 (ints s.cells)]) 4 rfl rfl ?_
        refine St.pick (R := [row TA s.tr.length tc 46 2 tcells, row MA s.marks.length mc 3 1 (ints s.marks), blk b14 (.cells #[.int .i64 x5.k, .int .i64 x5.a, .int .i64 x5.v] 29 (0, 0)), blk b4 (.cells #[.slice CA n.toNat cc, .slice TA s.tr.length tc, .slice MA s.marks.length mc] 40 (0, 0))]) 4 rfl rfl ?_
        refine St.pick (R := [row CA n.toNat cc 3 1 (ints s.cells), row TA s.tr.length tc 46 2 tcells, row MA s.marks.length mc 3 1 (ints s.marks), blk b14 (.cells #[.int .i64 x5.k, .int .i64 x5.a, .int .i64 x5.v] 29 (0, 0))]) 4 rfl rfl ?_
        refine St.call [blk b14 (.cells #[.int .i64 x5.k, .int .i64 x5.a, .int .i64 x5.v] 29 (0, 0))] (do_sp hSt hwf (by omega) (by omega) hokx) rfl (fun _ ha => ev2 ha rfl rfl) rfl en16 rfl rfl trivial ?_
        rintro u F2 H2 (⟨hk1, hmn, rfl⟩ | ⟨hnk, rfl, CA2, cc2, TA2, tc2, MA2, mc2, tcells2, rfl, hT2⟩) hle2
        · skip
          rw [if_pos ⟨hk1, hmn⟩] at hp
          refine St.nilH (H := H2 ++ _) ?_
          refine St.val (v := (.bool true)) (Yields.not_f rfl) trivial rfl rfl ?_
          refine St.nil ?_
          refine St.norm ?_
          refine St.cond_t rfl ?_
          refine St.seq ?_
          refine St.region ?_
          refine St.val (v := (.pointer none)) (Yields.assign rfl) trivial rfl rfl ?_
          refine St.val (v := (.int .i64 11)) (Yields.assign rfl) trivial rfl rfl ?_
          refine St.nil ?_
          refine St.norm ?_
          refine St.ret ?_
          refine St.inret ?_
          refine St.thenret ?_
          refine St.thenret ?_
          refine St.inret ?_
          refine St.thenret ?_
          exact St.done2 rfl rfl rfl (.inr (.inl ⟨q2, hp, rfl, rfl⟩))
        · skip
          rw [if_neg hnk] at hp
          refine St.val (v := (.bool false)) (Yields.not_t rfl) trivial rfl rfl ?_
          refine St.nil ?_
          refine St.norm ?_
          refine St.cond_f rfl ?_
          refine St.skip ?_
          refine St.innorm ?_
          refine St.norm ?_
          refine St.region ?_
          refine St.val (v := (.int .i64 ((i : Int) + 1))) (Yields.add rfl rfl (by omega) (by omega)) trivial rfl rfl ?_
          refine St.val (v := (.int .i64 ((i : Int) + 1))) (Yields.move rfl) trivial rfl rfl ?_
          refine St.nil ?_
          refine St.norm ?_
          intro a w ha hs
          exact ⟨k - (i + 1), by omega, i + 1, s.step x5, CA2, cc2, TA2, tc2, MA2, mc2, tcells2, F2, rfl, by omega, hp, hwf.step hokx, by omega, by omega, PH.le_trans hle hle2, hT2, ha.covers ⟨rfl, rfl, rfl, rfl, trivial⟩, (Among.of (Among.take 0 rfl rfl (Among.take 0 rfl rfl (Among.take 0 rfl rfl (Among.take 0 rfl rfl Among.none)))) _ hs)⟩
      · skip
        have hp : plays l (start n.toNat) = some s := by rw [hp, List.drop_of_length_le (by omega)]; rfl
        refine St.seq ?_
        refine St.region ?_
        refine St.val (v := (.bool false)) (Yields.isnt hi (Yields.lt rfl rfl)) trivial rfl rfl ?_
        refine St.nil ?_
        refine St.norm ?_
        refine St.seq ?_
        refine St.cond_f rfl ?_
        refine St.exit ?_
        refine St.thenexit ?_
        refine St.thenexit ?_
        refine St.inexit ?_
        refine St.norm ?_
        refine St.seq ?_
        refine St.region ?_
        refine St.val (v := (.pointer (some ⟨b4, 0, none⟩))) (Yields.move rfl) trivial rfl rfl ?_
        refine St.val (v := (.pointer (some ⟨b4, 0, none⟩))) (Yields.assign rfl) trivial rfl rfl ?_
        refine St.val (v := (.int .i64 0)) (Yields.assign rfl) trivial rfl rfl ?_
        refine St.nil ?_
        refine St.norm ?_
        refine St.ret ?_
        refine St.pick (R := [blk b4 (.cells #[.slice CA n.toNat cc, .slice TA s.tr.length tc, .slice MA s.marks.length mc] 40 (0, 0)), row CA n.toNat cc 3 1 (ints s.cells), row TA s.tr.length tc 46 2 tcells]) 3 rfl rfl ?_
        refine St.pick (R := [row MA s.marks.length mc 3 1 (ints s.marks), blk b4 (.cells #[.slice CA n.toNat cc, .slice TA s.tr.length tc, .slice MA s.marks.length mc] 40 (0, 0)), row CA n.toNat cc 3 1 (ints s.cells)]) 3 rfl rfl ?_
        refine St.pick (R := [row TA s.tr.length tc 46 2 tcells, row MA s.marks.length mc 3 1 (ints s.marks), blk b4 (.cells #[.slice CA n.toNat cc, .slice TA s.tr.length tc, .slice MA s.marks.length mc] 40 (0, 0))]) 3 rfl rfl ?_
        refine St.pick (R := [row CA n.toNat cc 3 1 (ints s.cells), row TA s.tr.length tc 46 2 tcells, row MA s.marks.length mc 3 1 (ints s.marks)]) 3 rfl rfl ?_
        exact St.done2 rfl rfl rfl (.inr (.inr ⟨q2, s, b4, hp, hwf, rfl, CA, cc, TA, tc, MA, mc, tcells, rfl, hT⟩))
  · skip
    refine St.val (v := (.bool true)) (Yields.nisnt q2 (Yields.ne rfl rfl)) trivial rfl rfl ?_
    refine St.nil ?_
    refine St.norm ?_
    refine St.cond_t rfl ?_
    refine St.seq ?_
    refine St.region ?_
    refine St.val (v := (.int .i64 (shErr n l))) (Yields.move rfl) trivial rfl rfl ?_
    refine St.val (v := (.pointer none)) (Yields.assign rfl) trivial rfl rfl ?_
    refine St.val (v := (.int .i64 (shErr n l))) (Yields.assign rfl) trivial rfl rfl ?_
    refine St.nil ?_
    refine St.norm ?_
    refine St.ret ?_
    refine St.thenret ?_
    exact St.done2 rfl rfl rfl (.inl ⟨q2, rfl, rfl⟩)

end Go.Proofs.Ytaajfhcjpejmjaa