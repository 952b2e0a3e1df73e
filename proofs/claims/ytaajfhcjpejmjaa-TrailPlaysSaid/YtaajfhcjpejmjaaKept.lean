import Derived.Test.YtaajfhcjpejmjaaKeptDefs
namespace Go.Proofs.Ytaajfhcjpejmjaa
open Go Go.Sy Go.RowKit Go.Maps
set_option linter.unusedVariables false

theorem Keys_sp {F : PH} {b : Nat} :
    CallSp Try.prog 14 #[.map (some b)] F [] (fun u F' H' => ∃ B, u = .func (.func 19) #[] #[.pointer (some ⟨B, 0, none⟩)] ∧ F = F' ∧ H' = [blk B (.cells #[.map (some b)] 44 (0, 0))]) := by
  refine CallSp.enter (args := [.map (some b)]) Try.func14 rfl rfl ?_
  intro w0 m0 hm0
  refine St.seq ?_
  refine St.region ?_
  refine St.box rfl trivial rfl ?_
  intro b1
  refine St.val (v := .nilFunc) (Yields.assign rfl) trivial rfl rfl ?_
  refine St.nil ?_
  refine St.norm ?_
  refine St.seq ?_
  refine St.region ?_
  refine St.val (v := (.func (.func 19) #[] #[.pointer (some ⟨b1, 0, none⟩)])) (Yields.makeFunc (fun _ _ => ev0) (fun _ ha => ev1 ha rfl)) trivial rfl rfl ?_
  refine St.val (v := (.func (.func 19) #[] #[.pointer (some ⟨b1, 0, none⟩)])) (Yields.assign rfl) trivial rfl rfl ?_
  refine St.nil ?_
  refine St.norm ?_
  refine St.ret ?_
  exact St.done1 rfl rfl ⟨_, rfl, rfl, rfl⟩

theorem Kept_sp {F : PH} {A : Option Addr} {k c : Nat} {l : List Sh} {n : Int} (hS : Slc shK F A k l) (hmax : k ≤ 140737488355328) :
    CallSp Try.prog 9 #[.int .i64 n, .slice A k c] F [] (fun u F' H' => u = .tuple #[.int .i64 (keptR n l).1, .int .i64 (keptR n l).2] ∧ H' = []) := by
  refine CallSp.enter (args := [.int .i64 n, .slice A k c]) Try.func9 rfl rfl ?_
  intro w0 m0 hm0
  have hlen := hS.1
  refine St.seq ?_
  refine St.region ?_
  refine St.val (v := (.int .i64 0)) (Yields.assign rfl) trivial rfl rfl ?_
  refine St.val (v := (.int .i64 0)) (Yields.assign rfl) trivial rfl rfl ?_
  refine St.nil ?_
  refine St.norm ?_
  refine St.seq ?_
  refine St.region ?_
  refine St.val (v := (.int .i64 n)) (Yields.move rfl) trivial rfl rfl ?_
  refine St.val (v := (.slice A k c)) (Yields.move rfl) trivial rfl rfl ?_
  refine St.call [] (play_sp hS hmax) rfl (fun _ ha => ev2 ha rfl rfl) rfl en11 rfl rfl trivial ?_
  rintro _ F2 _ (⟨he, rfl, rfl⟩ | ⟨he, hp, rfl, rfl⟩ | ⟨he, s, SB, hp, hwf, rfl, CA, cc, TA, tc, MA, mc, tcells, rfl, hT⟩) hle1
  · skip
    replace hS := Slc.mono hle1 hS
    refine St.val (v := (.tuple #[.pointer none, .int .i64 (shErr n l)])) (Yields.move rfl) trivial rfl rfl ?_
    refine St.val (v := (.pointer none)) (Yields.extract rfl rfl) trivial rfl rfl ?_
    refine St.val (v := (.int .i64 (shErr n l))) (Yields.extract rfl rfl) trivial rfl rfl ?_
    refine St.val (v := (.pointer none)) (Yields.assign rfl) trivial rfl rfl ?_
    refine St.val (v := (.int .i64 (shErr n l))) (Yields.assign rfl) trivial rfl rfl ?_
    refine St.nil ?_
    refine St.norm ?_
    refine St.seq ?_
    refine St.seq ?_
    refine St.region ?_
    refine St.val (v := (.int .i64 (shErr n l))) (Yields.move rfl) trivial rfl rfl ?_
    refine St.val (v := (.bool true)) (Yields.nisnt he (Yields.ne rfl rfl)) trivial rfl rfl ?_
    refine St.nil ?_
    refine St.norm ?_
    refine St.cond_t rfl ?_
    refine St.seq ?_
    refine St.region ?_
    refine St.val (v := (.int .i64 (shErr n l))) (Yields.move rfl) trivial rfl rfl ?_
    refine St.val (v := (.int .i64 0)) (Yields.assign rfl) trivial rfl rfl ?_
    refine St.val (v := (.int .i64 (shErr n l))) (Yields.assign rfl) trivial rfl rfl ?_
    refine St.nil ?_
    refine St.norm ?_
    refine St.ret ?_
    refine St.thenret ?_
    refine St.done2 rfl rfl rfl ⟨?_, rfl⟩
    unfold keptR; rw [if_pos he]; rfl
  · skip
    replace hS := Slc.mono hle1 hS
    refine St.val (v := (.tuple #[.pointer none, .int .i64 11])) (Yields.move rfl) trivial rfl rfl ?_
    refine St.val (v := (.pointer none)) (Yields.extract rfl rfl) trivial rfl rfl ?_
    refine St.val (v := (.int .i64 11)) (Yields.extract rfl rfl) trivial rfl rfl ?_
    refine St.val (v := (.pointer none)) (Yields.assign rfl) trivial rfl rfl ?_
    refine St.val (v := (.int .i64 11)) (Yields.assign rfl) trivial rfl rfl ?_
    refine St.nil ?_
    refine St.norm ?_
    refine St.seq ?_
    refine St.seq ?_
    refine St.region ?_
    refine St.val (v := (.int .i64 11)) (Yields.move rfl) trivial rfl rfl ?_
    refine St.val (v := (.bool true)) (Yields.nisnt (by decide) (Yields.ne rfl rfl)) trivial rfl rfl ?_
    refine St.nil ?_
    refine St.norm ?_
    refine St.cond_t rfl ?_
    refine St.seq ?_
    refine St.region ?_
    refine St.val (v := (.int .i64 11)) (Yields.move rfl) trivial rfl rfl ?_
    refine St.val (v := (.int .i64 0)) (Yields.assign rfl) trivial rfl rfl ?_
    refine St.val (v := (.int .i64 11)) (Yields.assign rfl) trivial rfl rfl ?_
    refine St.nil ?_
    refine St.norm ?_
    refine St.ret ?_
    refine St.thenret ?_
    refine St.done2 rfl rfl rfl ⟨?_, rfl⟩
    unfold keptR; rw [if_neg (by omega), hp]; rfl
  · skip
    replace hS := Slc.mono hle1 hS
    refine St.val (v := (.tuple #[.pointer (some ⟨SB, 0, none⟩), .int .i64 0])) (Yields.move rfl) trivial rfl rfl ?_
    refine St.val (v := (.pointer (some ⟨SB, 0, none⟩))) (Yields.extract rfl rfl) trivial rfl rfl ?_
    refine St.val (v := (.int .i64 0)) (Yields.extract rfl rfl) trivial rfl rfl ?_
    refine St.val (v := (.pointer (some ⟨SB, 0, none⟩))) (Yields.assign rfl) trivial rfl rfl ?_
    refine St.val (v := (.int .i64 0)) (Yields.assign rfl) trivial rfl rfl ?_
    refine St.nil ?_
    refine St.norm ?_
    refine St.seq ?_
    refine St.seq ?_
    refine St.region ?_
    refine St.val (v := (.int .i64 0)) (Yields.move rfl) trivial rfl rfl ?_
    refine St.val (v := (.bool false)) (Yields.nis (by decide) (Yields.ne rfl rfl)) trivial rfl rfl ?_
    refine St.nil ?_
    refine St.norm ?_
    refine St.cond_f rfl ?_
    refine St.skip ?_
    refine St.norm ?_
    refine St.seq ?_
    refine St.region ?_
    obtain ⟨hn1, hn2, hl4, _⟩ := shErr_zero he
    obtain ⟨hlm, hlt⟩ := plays_lens _ _ _ hp
    have hs0 : (start n.toNat).marks.length = 0 ∧ (start n.toNat).tr.length = 0 := ⟨rfl, rfl⟩
    refine St.freeze_blk (R := [row CA n.toNat cc 3 1 (ints s.cells), row TA s.tr.length tc 46 2 tcells, row MA s.marks.length mc 3 1 (ints s.marks)]) 0 rfl rfl ?_
    intro F3 hle4 hSB
    replace hS := Slc.mono hle4 hS
    replace hT := Cat.mono hle4 hT
    refine St.row_facts 2 rfl ?_
    intro _ hcMA _
    refine St.freeze_row (R := [row CA n.toNat cc 3 1 (ints s.cells), row TA s.tr.length tc 46 2 tcells]) (D := (Kind.int .i64)) (xs := s.marks) 2 rfl rfl rfl rfl (ints_cat _) ?_
    intro F5 hle6 hM
    replace hS := Slc.mono hle6 hS
    replace hT := Cat.mono hle6 hT
    have hSB := hle6 _ _ hSB
    refine St.row_facts 1 rfl ?_
    intro _ hcTA _
    refine St.freeze_row (R := [row CA n.toNat cc 3 1 (ints s.cells)]) (D := (TE SB)) (xs := s.tr) 1 rfl rfl rfl rfl hT ?_
    intro F7 hle8 hTr
    replace hS := Slc.mono hle8 hS
    replace hT := Cat.mono hle8 hT
    have hSB := hle8 _ _ hSB
    replace hM := Slc.mono hle8 hM
    refine St.nilH ?_
    refine St.val (v := (.int .i64 0)) (Yields.assign rfl) trivial rfl rfl ?_
    refine St.nil ?_
    refine St.norm ?_
    refine St.seq ?_
    refine St.seq ?_
    refine St.region ?_
    refine St.val (v := (.pointer (some ⟨SB, 0, none⟩))) (Yields.move rfl) trivial rfl rfl ?_
    refine St.val (v := (.pointer (some ⟨SB, 0, none⟩))) (Yields.nilCheck rfl) trivial rfl rfl ?_
    refine St.val (v := (.pointer (some ⟨SB, 2, none⟩))) (Yields.fieldAddr (v := (.pointer (some ⟨SB, 2, none⟩))) rfl (fun _ => by kernel_rfl)) trivial rfl rfl ?_
    refine St.val (v := (.slice MA s.marks.length mc)) (Yields.load rfl (Loads.Fb hSB tc23 rfl)) trivial rfl rfl ?_
    refine St.val (v := (.int .i64 (s.marks.length : Int))) (Yields.lenSlice tu23 rfl) trivial rfl rfl ?_
    refine St.val (v := (.int .i64 0)) (Yields.move rfl) trivial rfl rfl ?_
    refine St.nil ?_
    refine St.norm ?_
    refine St.block ?_
    refine St.loop (fun kk a w => ∃ i : Nat, kk = s.marks.length - i ∧ i ≤ s.marks.length ∧ Has Try.f9.ntmps a [(6, .pointer (some ⟨SB, 0, none⟩)), (8, .int .i64 (keptTo s i : Int)), (27, .slice MA s.marks.length mc), (28, .int .i64 (s.marks.length : Int)), (29, .int .i64 (i : Int))] ∧ Sat ⟨w0, fun b => m0 b ≠ none, F⟩ F7 [] w) s.marks.length ?_ ?_
    · intro a w ha hs
      exact ⟨0, by omega, by omega, ha.covers ⟨rfl, rfl, rfl, rfl, rfl, trivial⟩, hs⟩
    · rintro kk a w ⟨i, hkk, him, ha, hs⟩
      refine St.use (?_ : St _ _ _ _ _ _) ha hs
      clear ha hs a w
      have hkb := keptTo_le s i
      have hkb2 : i * s.tr.length ≤ 400 * 400 := Nat.mul_le_mul (by omega) (by omega)
      by_cases hi : (i : Int) < (s.marks.length : Int)
      · skip
        obtain ⟨x9, hx12⟩ : ∃ x, s.marks[i]? = some x := ⟨_, List.getElem?_eq_getElem (by omega)⟩
        obtain ⟨ad10, cs11, hA13, hK14, hc15⟩ := hM.get hx12
        subst hA13
        obtain rfl : cs11 = [.int .i64 x9] := hK14
        obtain ⟨p16, hp17⟩ : ∃ p, ad10.add (i * 1) = p := ⟨_, rfl⟩
        have hc15 : ∀ j v, ([.int .i64 x9] : List Value)[j]? = some v → PH.cell? F7 (p16.add j) = some v := by rw [← hp17]; exact hc15
        refine St.seq ?_
        refine St.region ?_
        refine St.val (v := (.bool true)) (Yields.is hi (Yields.lt rfl rfl)) trivial rfl rfl ?_
        refine St.nil ?_
        refine St.norm ?_
        refine St.seq ?_
        refine St.cond_t rfl ?_
        refine St.skip ?_
        refine St.norm ?_
        refine St.seq ?_
        refine St.block ?_
        refine St.seq ?_
        refine St.region ?_
        refine St.val (v := (.int .i64 (i : Int))) (Yields.move rfl) trivial rfl rfl ?_
        refine St.val (v := (.pointer (some p16))) (Yields.indexAddr (p := p16) ts23 rfl rfl (by omega) (by omega) (by rw [← hp17]; first | rfl | (congr 1; omega))) trivial rfl rfl ?_
        refine St.val (v := (.int .i64 x9)) (Yields.load rfl (Loads.Fat hc15 tc3 rfl)) trivial rfl rfl ?_
        refine St.val (v := (.int .i64 (i : Int))) (Yields.assign rfl) trivial rfl rfl ?_
        refine St.val (v := (.int .i64 x9)) (Yields.assign rfl) trivial rfl rfl ?_
        refine St.nil ?_
        refine St.norm ?_
        refine St.seq ?_
        refine St.region ?_
        refine St.val (v := (.pointer (some ⟨SB, 0, none⟩))) (Yields.move rfl) trivial rfl rfl ?_
        refine St.val (v := (.pointer (some ⟨SB, 0, none⟩))) (Yields.nilCheck rfl) trivial rfl rfl ?_
        refine St.val (v := (.pointer (some ⟨SB, 1, none⟩))) (Yields.fieldAddr (v := (.pointer (some ⟨SB, 1, none⟩))) rfl (fun _ => by kernel_rfl)) trivial rfl rfl ?_
        refine St.val (v := (.slice TA s.tr.length tc)) (Yields.load rfl (Loads.Fb hSB tc38 rfl)) trivial rfl rfl ?_
        refine St.val (v := (.int .i64 (s.tr.length : Int))) (Yields.lenSlice tu38 rfl) trivial rfl rfl ?_
        refine St.val (v := (.int .i64 (s.tr.length : Int))) (Yields.assign rfl) trivial rfl rfl ?_
        refine St.nil ?_
        refine St.norm ?_
        refine St.seq ?_
        refine St.seq ?_
        refine St.region ?_
        refine St.val (v := (.int .i64 (i : Int))) (Yields.move rfl) trivial rfl rfl ?_
        refine St.val (v := (.int .i64 ((i : Int) + 1))) (Yields.add rfl rfl (by omega) (by omega)) trivial rfl rfl ?_
        refine St.val (v := (.pointer (some ⟨SB, 0, none⟩))) (Yields.move rfl) trivial rfl rfl ?_
        refine St.val (v := (.pointer (some ⟨SB, 0, none⟩))) (Yields.nilCheck rfl) trivial rfl rfl ?_
        refine St.val (v := (.pointer (some ⟨SB, 2, none⟩))) (Yields.fieldAddr (v := (.pointer (some ⟨SB, 2, none⟩))) rfl (fun _ => by kernel_rfl)) trivial rfl rfl ?_
        refine St.val (v := (.slice (some ad10) s.marks.length mc)) (Yields.load rfl (Loads.Fb hSB tc23 rfl)) trivial rfl rfl ?_
        refine St.val (v := (.int .i64 (s.marks.length : Int))) (Yields.lenSlice tu23 rfl) trivial rfl rfl ?_
        by_cases q18 : (i : Int) + 1 < (s.marks.length : Int)
        · skip
          refine St.val (v := (.bool true)) (Yields.is q18 (Yields.lt rfl rfl)) trivial rfl rfl ?_
          refine St.nil ?_
          refine St.norm ?_
          refine St.cond_t rfl ?_
          refine St.region ?_
          refine St.val (v := (.pointer (some ⟨SB, 0, none⟩))) (Yields.move rfl) trivial rfl rfl ?_
          refine St.val (v := (.pointer (some ⟨SB, 0, none⟩))) (Yields.nilCheck rfl) trivial rfl rfl ?_
          refine St.val (v := (.pointer (some ⟨SB, 2, none⟩))) (Yields.fieldAddr (v := (.pointer (some ⟨SB, 2, none⟩))) rfl (fun _ => by kernel_rfl)) trivial rfl rfl ?_
          refine St.val (v := (.slice (some ad10) s.marks.length mc)) (Yields.load rfl (Loads.Fb hSB tc23 rfl)) trivial rfl rfl ?_
          refine St.val (v := (.int .i64 (i : Int))) (Yields.move rfl) trivial rfl rfl ?_
          refine St.val (v := (.int .i64 ((i : Int) + 1))) (Yields.add rfl rfl (by omega) (by omega)) trivial rfl rfl ?_
          obtain ⟨x19, hx22⟩ : ∃ x, s.marks[i + 1]? = some x := ⟨_, List.getElem?_eq_getElem (by omega)⟩
          obtain ⟨ad20, cs21, hA23, hK24, hc25⟩ := hM.get hx22
          cases hA23
          obtain rfl : cs21 = [.int .i64 x19] := hK24
          obtain ⟨p26, hp27⟩ : ∃ p, ad10.add ((i + 1) * 1) = p := ⟨_, rfl⟩
          have hc25 : ∀ j v, ([.int .i64 x19] : List Value)[j]? = some v → PH.cell? F7 (p26.add j) = some v := by rw [← hp27]; exact hc25
          refine St.val (v := (.pointer (some p26))) (Yields.indexAddr (p := p26) ts23 rfl rfl (by omega) (by omega) (by rw [← hp27]; first | rfl | (congr 1; omega))) trivial rfl rfl ?_
          refine St.val (v := (.int .i64 x19)) (Yields.load rfl (Loads.Fat hc25 tc3 rfl)) trivial rfl rfl ?_
          refine St.val (v := (.int .i64 x19)) (Yields.assign rfl) trivial rfl rfl ?_
          refine St.nil ?_
          refine St.norm ?_
          refine St.seq ?_
          refine St.region ?_
          refine St.makeMap (P := Try.prog) (k := 3) (e := 4) trivial rfl ?_
          intro b28
          refine St.val (v := (.map (some b28))) (Yields.assign rfl) trivial rfl rfl ?_
          refine St.nil ?_
          refine St.norm ?_
          refine St.seq ?_
          refine St.seq ?_
          refine St.region ?_
          refine St.val (v := (.pointer (some ⟨SB, 0, none⟩))) (Yields.move rfl) trivial rfl rfl ?_
          refine St.val (v := (.pointer (some ⟨SB, 0, none⟩))) (Yields.nilCheck rfl) trivial rfl rfl ?_
          refine St.val (v := (.pointer (some ⟨SB, 1, none⟩))) (Yields.fieldAddr (v := (.pointer (some ⟨SB, 1, none⟩))) rfl (fun _ => by kernel_rfl)) trivial rfl rfl ?_
          refine St.val (v := (.slice TA s.tr.length tc)) (Yields.load rfl (Loads.Fb hSB tc38 rfl)) trivial rfl rfl ?_
          refine St.val (v := (.int .i64 x9)) (Yields.move rfl) trivial rfl rfl ?_
          refine St.val (v := (.int .i64 x19)) (Yields.move rfl) trivial rfl rfl ?_
          have hby := bounds_mark hx22
          have hbx := bounds_mark hx12
          obtain ⟨hb1, hb2, hb3⟩ := bounds_mono hwf hbx hby
          have hseg := seg_eq hbx hby
          refine St.sub (D := TE SB) ts38 rfl rfl rfl hTr rfl hcTA hb1 hb2 (by omega) rfl trivial ?_
          intro A29 c30 _ hsub
          obtain ⟨ln, hln⟩ : ∃ ln, (x19).toNat - x9.toNat = ln := ⟨_, rfl⟩
          obtain ⟨sl, hsl⟩ : ∃ sl, ((s.tr.take (x19).toNat).drop x9.toNat) = sl := ⟨_, rfl⟩
          rw [hln] at hsub ⊢
          have hsl2 : ((s.tr.take (x19).toNat).drop x9.toNat).length = ln := hsub.1
          have hlnb : ln ≤ 400 := by have h9 := hsl2; rw [List.length_drop, List.length_take] at h9; omega
          refine St.val (v := (.int .i64 (ln : Int))) (Yields.lenSlice tu38 rfl) trivial rfl rfl ?_
          refine St.val (v := (.int .i64 0)) (Yields.move rfl) trivial rfl rfl ?_
          refine St.nil ?_
          refine St.norm ?_
          refine St.block ?_
          refine St.loop (fun kk a w => ∃ j : Nat, kk = ln - j ∧ j ≤ ln ∧ Has Try.f9.ntmps a [(6, .pointer (some ⟨SB, 0, none⟩)), (8, .int .i64 (keptTo s i : Int)), (27, .slice (some ad10) s.marks.length mc), (28, .int .i64 (s.marks.length : Int)), (29, .int .i64 (i : Int)), (12, .map (some b28)), (62, .slice A29 ln c30), (63, .int .i64 (ln : Int)), (64, .int .i64 (j : Int))] ∧ Sat ⟨w0, fun b => m0 b ≠ none, F⟩ F7 [mapc Try.prog 3 4 b28 j (dOf ((((s.tr.take (x19).toNat).drop x9.toNat).take j).map (·.1)))] w) (ln) ?_ ?_
          · intro a w ha hs
            exact ⟨0, by omega, by omega, ha.covers ⟨rfl, rfl, rfl, rfl, rfl, rfl, rfl, rfl, rfl, trivial⟩, hs⟩
          · rintro kk a w ⟨j, hkk, hjl, ha, hs⟩
            refine St.use (?_ : St _ _ _ _ _ _) ha hs
            clear ha hs a w
            by_cases hj : (j : Int) < (ln : Int)
            · skip
              obtain ⟨x31, hx34⟩ : ∃ x, ((s.tr.take (x19).toNat).drop x9.toNat)[j]? = some x := ⟨_, List.getElem?_eq_getElem (by omega)⟩
              obtain ⟨ad32, cs33, hA35, hK36, hc37⟩ := hsub.get hx34
              subst hA35
              obtain ⟨wb, sb, ab, rfl, _, _, _⟩ := hK36
              obtain ⟨p38, hp39⟩ : ∃ p, ad32.add (j * 2) = p := ⟨_, rfl⟩
              have hc37 : ∀ j v, ([.int .i64 x31.1, .func (.func 26) #[] #[.pointer (some ⟨wb, 0, none⟩), .pointer (some ⟨sb, 0, none⟩), .pointer (some ⟨ab, 0, none⟩)]] : List Value)[j]? = some v → PH.cell? F7 (p38.add j) = some v := by rw [← hp39]; exact hc37
              have hie := hwf.ix x31 (List.mem_of_mem_take (List.mem_of_mem_drop (List.mem_of_getElem? hx34)))
              refine St.seq ?_
              refine St.region ?_
              refine St.val (v := (.bool true)) (Yields.is hj (Yields.lt rfl rfl)) trivial rfl rfl ?_
              refine St.nil ?_
              refine St.norm ?_
              refine St.seq ?_
              refine St.cond_t rfl ?_
              refine St.skip ?_
              refine St.norm ?_
              refine St.seq ?_
              refine St.block ?_
              refine St.seq ?_
              refine St.region ?_
              refine St.val (v := (.pointer (some p38))) (Yields.indexAddr (p := p38) ts38 rfl rfl (by omega) (by omega) (by rw [← hp39]; first | rfl | (congr 1; omega))) trivial rfl rfl ?_
              refine St.val (v := (.agg #[.int .i64 x31.1, .func (.func 26) #[] #[.pointer (some ⟨wb, 0, none⟩), .pointer (some ⟨sb, 0, none⟩), .pointer (some ⟨ab, 0, none⟩)]])) (Yields.load rfl (Loads.Fatn0 hc37 ta46)) trivial rfl rfl ?_
              refine St.alloc tz46 trivial rfl ?_
              intro b40
              refine St.storen (R := [mapc Try.prog 3 4 b28 j (dOf ((((s.tr.take (x19).toNat).drop x9.toNat).take j).map (·.1)))]) rfl rfl 0 rfl rfl ta46 rfl rfl rfl trivial (cs' := #[.int .i64 x31.1, .func (.func 26) #[] #[.pointer (some ⟨wb, 0, none⟩), .pointer (some ⟨sb, 0, none⟩), .pointer (some ⟨ab, 0, none⟩)]]) rfl ?_
              refine St.nil ?_
              refine St.norm ?_
              refine St.region ?_
              refine St.val (v := (.map (some b28))) (Yields.move rfl) trivial rfl rfl ?_
              refine St.val (v := (.pointer (some ⟨b40, 0, none⟩))) (Yields.fieldAddr (v := (.pointer (some ⟨b40, 0, none⟩))) rfl (fun _ => by kernel_rfl)) trivial rfl rfl ?_
              refine St.val (v := (.int .i64 x31.1)) (Yields.load rfl (Loads.H1 0 rfl tc3 rfl)) trivial rfl rfl ?_
              refine St.mapUpdate (R := [blk b40 (.cells #[.int .i64 x31.1, .func (.func 26) #[] #[.pointer (some ⟨wb, 0, none⟩), .pointer (some ⟨sb, 0, none⟩), .pointer (some ⟨ab, 0, none⟩)]] 46 (0, 0))]) rfl rfl rfl 1 rfl rfl law3 tm44 (by unfold maxLen; omega) (key3 (by omega) (by omega)) (val4 true) trivial ?_
              refine St.nil ?_
              refine St.innorm ?_
              refine St.norm ?_
              refine St.region ?_
              refine St.val (v := (.int .i64 ((j : Int) + 1))) (Yields.add rfl rfl (by omega) (by omega)) trivial rfl rfl ?_
              refine St.val (v := (.int .i64 ((j : Int) + 1))) (Yields.move rfl) trivial rfl rfl ?_
              refine St.nil ?_
              refine St.norm ?_
              rw [← dOf_snoc hx34]
              intro a w ha hs
              exact ⟨ln - (j + 1), by omega, j + 1, rfl, by omega, ha.covers ⟨rfl, rfl, rfl, rfl, rfl, rfl, rfl, rfl, rfl, trivial⟩, (Among.of (Among.take 0 rfl rfl Among.none) _ hs)⟩
            · skip
              have hcardle := card_le (((s.tr.take (x19).toNat).drop x9.toNat).map (·.1))
              rw [List.length_map] at hcardle
              rw [List.take_of_length_le (l := ((s.tr.take (x19).toNat).drop x9.toNat)) (i := j) (by omega)]
              refine St.seq ?_
              refine St.region ?_
              refine St.val (v := (.bool false)) (Yields.isnt hj (Yields.lt rfl rfl)) trivial rfl rfl ?_
              refine St.nil ?_
              refine St.norm ?_
              refine St.seq ?_
              refine St.cond_f rfl ?_
              refine St.exit ?_
              refine St.thenexit ?_
              refine St.thenexit ?_
              refine St.inexit ?_
              refine St.norm ?_
              refine St.region ?_
              refine St.val (v := (.int .i64 (keptTo s i : Int))) (Yields.move rfl) trivial rfl rfl ?_
              refine St.val (v := (.map (some b28))) (Yields.move rfl) trivial rfl rfl ?_
              refine St.call [mapc Try.prog 3 4 b28 j (dOf (((s.tr.take (x19).toNat).drop x9.toNat).map (·.1)))] (Keys_sp (b := b28)) rfl (fun _ ha => ev1 ha rfl) rfl en14 rfl rfl trivial ?_
              rintro _ _F _ ⟨B, rfl, rfl, rfl⟩ hle41
              refine St.pick (R := [blk B (.cells #[.map (some b28)] 44 (0, 0))]) 1 rfl rfl ?_
              refine St.pick (R := [mapc Try.prog 3 4 b28 j (dOf (((s.tr.take (x19).toNat).drop x9.toNat).map (·.1)))]) 1 rfl rfl ?_
              refine St.call [] (collect_sp (q := card (((s.tr.take (x19).toNat).drop x9.toNat).map (·.1))) rfl (by omega)) rfl (fun _ ha => ev1 ha rfl) rfl en13 rfl rfl trivial ?_
              rintro _ _F _ ⟨Ac, cc2, rfl, rfl, rfl⟩ hle42
              refine St.val (v := (.int .i64 (card (((s.tr.take (x19).toNat).drop x9.toNat).map (·.1)) : Int))) (Yields.lenSlice tu23 rfl) trivial rfl rfl ?_
              refine St.val (v := (.int .i64 ((keptTo s i : Int) + (card (((s.tr.take (x19).toNat).drop x9.toNat).map (·.1)) : Int)))) (Yields.add rfl rfl (by omega) (by omega)) trivial rfl rfl ?_
              refine St.val (v := (.int .i64 ((keptTo s i : Int) + (card (((s.tr.take (x19).toNat).drop x9.toNat).map (·.1)) : Int)))) (Yields.assign rfl) trivial rfl rfl ?_
              refine St.nil ?_
              refine St.innorm ?_
              refine St.norm ?_
              refine St.region ?_
              refine St.val (v := (.int .i64 ((i : Int) + 1))) (Yields.add rfl rfl (by omega) (by omega)) trivial rfl rfl ?_
              refine St.val (v := (.int .i64 ((i : Int) + 1))) (Yields.move rfl) trivial rfl rfl ?_
              refine St.nil ?_
              refine St.norm ?_
              intro a w ha hs
              exact ⟨s.marks.length - (i + 1), by omega, i + 1, rfl, by omega, ha.covers ⟨rfl, by show _ = some (Value.int .i64 (((keptTo s i + card (seg s i) : Nat)) : Int)); rw [hseg]; rfl, rfl, rfl, rfl, trivial⟩, hs⟩
        · skip
          refine St.val (v := (.bool false)) (Yields.isnt q18 (Yields.lt rfl rfl)) trivial rfl rfl ?_
          refine St.nil ?_
          refine St.norm ?_
          refine St.cond_f rfl ?_
          refine St.skip ?_
          refine St.norm ?_
          refine St.seq ?_
          refine St.region ?_
          refine St.makeMap (P := Try.prog) (k := 3) (e := 4) trivial rfl ?_
          intro b43
          refine St.val (v := (.map (some b43))) (Yields.assign rfl) trivial rfl rfl ?_
          refine St.nil ?_
          refine St.norm ?_
          refine St.seq ?_
          refine St.seq ?_
          refine St.region ?_
          refine St.val (v := (.pointer (some ⟨SB, 0, none⟩))) (Yields.move rfl) trivial rfl rfl ?_
          refine St.val (v := (.pointer (some ⟨SB, 0, none⟩))) (Yields.nilCheck rfl) trivial rfl rfl ?_
          refine St.val (v := (.pointer (some ⟨SB, 1, none⟩))) (Yields.fieldAddr (v := (.pointer (some ⟨SB, 1, none⟩))) rfl (fun _ => by kernel_rfl)) trivial rfl rfl ?_
          refine St.val (v := (.slice TA s.tr.length tc)) (Yields.load rfl (Loads.Fb hSB tc38 rfl)) trivial rfl rfl ?_
          refine St.val (v := (.int .i64 x9)) (Yields.move rfl) trivial rfl rfl ?_
          refine St.val (v := (.int .i64 (s.tr.length : Int))) (Yields.move rfl) trivial rfl rfl ?_
          have hby := bounds_last (s := s) (i := i + 1) (by omega)
          have hbx := bounds_mark hx12
          obtain ⟨hb1, hb2, hb3⟩ := bounds_mono hwf hbx hby
          have hseg := seg_eq hbx hby
          refine St.sub (D := TE SB) ts38 rfl rfl rfl hTr rfl hcTA hb1 hb2 (by omega) rfl trivial ?_
          intro A44 c45 _ hsub
          obtain ⟨ln, hln⟩ : ∃ ln, ((s.tr.length : Int)).toNat - x9.toNat = ln := ⟨_, rfl⟩
          obtain ⟨sl, hsl⟩ : ∃ sl, ((s.tr.take ((s.tr.length : Int)).toNat).drop x9.toNat) = sl := ⟨_, rfl⟩
          rw [hln] at hsub ⊢
          have hsl2 : ((s.tr.take ((s.tr.length : Int)).toNat).drop x9.toNat).length = ln := hsub.1
          have hlnb : ln ≤ 400 := by have h9 := hsl2; rw [List.length_drop, List.length_take] at h9; omega
          refine St.val (v := (.int .i64 (ln : Int))) (Yields.lenSlice tu38 rfl) trivial rfl rfl ?_
          refine St.val (v := (.int .i64 0)) (Yields.move rfl) trivial rfl rfl ?_
          refine St.nil ?_
          refine St.norm ?_
          refine St.block ?_
          refine St.loop (fun kk a w => ∃ j : Nat, kk = ln - j ∧ j ≤ ln ∧ Has Try.f9.ntmps a [(6, .pointer (some ⟨SB, 0, none⟩)), (8, .int .i64 (keptTo s i : Int)), (27, .slice (some ad10) s.marks.length mc), (28, .int .i64 (s.marks.length : Int)), (29, .int .i64 (i : Int)), (12, .map (some b43)), (62, .slice A44 ln c45), (63, .int .i64 (ln : Int)), (64, .int .i64 (j : Int))] ∧ Sat ⟨w0, fun b => m0 b ≠ none, F⟩ F7 [mapc Try.prog 3 4 b43 j (dOf ((((s.tr.take ((s.tr.length : Int)).toNat).drop x9.toNat).take j).map (·.1)))] w) (ln) ?_ ?_
          · intro a w ha hs
            exact ⟨0, by omega, by omega, ha.covers ⟨rfl, rfl, rfl, rfl, rfl, rfl, rfl, rfl, rfl, trivial⟩, hs⟩
          · rintro kk a w ⟨j, hkk, hjl, ha, hs⟩
            refine St.use (?_ : St _ _ _ _ _ _) ha hs
            clear ha hs a w
            by_cases hj : (j : Int) < (ln : Int)
            · skip
              obtain ⟨x46, hx49⟩ : ∃ x, ((s.tr.take ((s.tr.length : Int)).toNat).drop x9.toNat)[j]? = some x := ⟨_, List.getElem?_eq_getElem (by omega)⟩
              obtain ⟨ad47, cs48, hA50, hK51, hc52⟩ := hsub.get hx49
              subst hA50
              obtain ⟨wb, sb, ab, rfl, _, _, _⟩ := hK51
              obtain ⟨p53, hp54⟩ : ∃ p, ad47.add (j * 2) = p := ⟨_, rfl⟩
              have hc52 : ∀ j v, ([.int .i64 x46.1, .func (.func 26) #[] #[.pointer (some ⟨wb, 0, none⟩), .pointer (some ⟨sb, 0, none⟩), .pointer (some ⟨ab, 0, none⟩)]] : List Value)[j]? = some v → PH.cell? F7 (p53.add j) = some v := by rw [← hp54]; exact hc52
              have hie := hwf.ix x46 (List.mem_of_mem_take (List.mem_of_mem_drop (List.mem_of_getElem? hx49)))
              refine St.seq ?_
              refine St.region ?_
              refine St.val (v := (.bool true)) (Yields.is hj (Yields.lt rfl rfl)) trivial rfl rfl ?_
              refine St.nil ?_
              refine St.norm ?_
              refine St.seq ?_
              refine St.cond_t rfl ?_
              refine St.skip ?_
              refine St.norm ?_
              refine St.seq ?_
              refine St.block ?_
              refine St.seq ?_
              refine St.region ?_
              refine St.val (v := (.pointer (some p53))) (Yields.indexAddr (p := p53) ts38 rfl rfl (by omega) (by omega) (by rw [← hp54]; first | rfl | (congr 1; omega))) trivial rfl rfl ?_
              refine St.val (v := (.agg #[.int .i64 x46.1, .func (.func 26) #[] #[.pointer (some ⟨wb, 0, none⟩), .pointer (some ⟨sb, 0, none⟩), .pointer (some ⟨ab, 0, none⟩)]])) (Yields.load rfl (Loads.Fatn0 hc52 ta46)) trivial rfl rfl ?_
              refine St.alloc tz46 trivial rfl ?_
              intro b55
              refine St.storen (R := [mapc Try.prog 3 4 b43 j (dOf ((((s.tr.take ((s.tr.length : Int)).toNat).drop x9.toNat).take j).map (·.1)))]) rfl rfl 0 rfl rfl ta46 rfl rfl rfl trivial (cs' := #[.int .i64 x46.1, .func (.func 26) #[] #[.pointer (some ⟨wb, 0, none⟩), .pointer (some ⟨sb, 0, none⟩), .pointer (some ⟨ab, 0, none⟩)]]) rfl ?_
              refine St.nil ?_
              refine St.norm ?_
              refine St.region ?_
              refine St.val (v := (.map (some b43))) (Yields.move rfl) trivial rfl rfl ?_
              refine St.val (v := (.pointer (some ⟨b55, 0, none⟩))) (Yields.fieldAddr (v := (.pointer (some ⟨b55, 0, none⟩))) rfl (fun _ => by kernel_rfl)) trivial rfl rfl ?_
              refine St.val (v := (.int .i64 x46.1)) (Yields.load rfl (Loads.H1 0 rfl tc3 rfl)) trivial rfl rfl ?_
              refine St.mapUpdate (R := [blk b55 (.cells #[.int .i64 x46.1, .func (.func 26) #[] #[.pointer (some ⟨wb, 0, none⟩), .pointer (some ⟨sb, 0, none⟩), .pointer (some ⟨ab, 0, none⟩)]] 46 (0, 0))]) rfl rfl rfl 1 rfl rfl law3 tm44 (by unfold maxLen; omega) (key3 (by omega) (by omega)) (val4 true) trivial ?_
              refine St.nil ?_
              refine St.innorm ?_
              refine St.norm ?_
              refine St.region ?_
              refine St.val (v := (.int .i64 ((j : Int) + 1))) (Yields.add rfl rfl (by omega) (by omega)) trivial rfl rfl ?_
              refine St.val (v := (.int .i64 ((j : Int) + 1))) (Yields.move rfl) trivial rfl rfl ?_
              refine St.nil ?_
              refine St.norm ?_
              rw [← dOf_snoc hx49]
              intro a w ha hs
              exact ⟨ln - (j + 1), by omega, j + 1, rfl, by omega, ha.covers ⟨rfl, rfl, rfl, rfl, rfl, rfl, rfl, rfl, rfl, trivial⟩, (Among.of (Among.take 0 rfl rfl Among.none) _ hs)⟩
            · skip
              have hcardle := card_le (((s.tr.take ((s.tr.length : Int)).toNat).drop x9.toNat).map (·.1))
              rw [List.length_map] at hcardle
              rw [List.take_of_length_le (l := ((s.tr.take ((s.tr.length : Int)).toNat).drop x9.toNat)) (i := j) (by omega)]
              refine St.seq ?_
              refine St.region ?_
              refine St.val (v := (.bool false)) (Yields.isnt hj (Yields.lt rfl rfl)) trivial rfl rfl ?_
              refine St.nil ?_
              refine St.norm ?_
              refine St.seq ?_
              refine St.cond_f rfl ?_
              refine St.exit ?_
              refine St.thenexit ?_
              refine St.thenexit ?_
              refine St.inexit ?_
              refine St.norm ?_
              refine St.region ?_
              refine St.val (v := (.int .i64 (keptTo s i : Int))) (Yields.move rfl) trivial rfl rfl ?_
              refine St.val (v := (.map (some b43))) (Yields.move rfl) trivial rfl rfl ?_
              refine St.call [mapc Try.prog 3 4 b43 j (dOf (((s.tr.take ((s.tr.length : Int)).toNat).drop x9.toNat).map (·.1)))] (Keys_sp (b := b43)) rfl (fun _ ha => ev1 ha rfl) rfl en14 rfl rfl trivial ?_
              rintro _ _F _ ⟨B, rfl, rfl, rfl⟩ hle56
              refine St.pick (R := [blk B (.cells #[.map (some b43)] 44 (0, 0))]) 1 rfl rfl ?_
              refine St.pick (R := [mapc Try.prog 3 4 b43 j (dOf (((s.tr.take ((s.tr.length : Int)).toNat).drop x9.toNat).map (·.1)))]) 1 rfl rfl ?_
              refine St.call [] (collect_sp (q := card (((s.tr.take ((s.tr.length : Int)).toNat).drop x9.toNat).map (·.1))) rfl (by omega)) rfl (fun _ ha => ev1 ha rfl) rfl en13 rfl rfl trivial ?_
              rintro _ _F _ ⟨Ac, cc2, rfl, rfl, rfl⟩ hle57
              refine St.val (v := (.int .i64 (card (((s.tr.take ((s.tr.length : Int)).toNat).drop x9.toNat).map (·.1)) : Int))) (Yields.lenSlice tu23 rfl) trivial rfl rfl ?_
              refine St.val (v := (.int .i64 ((keptTo s i : Int) + (card (((s.tr.take ((s.tr.length : Int)).toNat).drop x9.toNat).map (·.1)) : Int)))) (Yields.add rfl rfl (by omega) (by omega)) trivial rfl rfl ?_
              refine St.val (v := (.int .i64 ((keptTo s i : Int) + (card (((s.tr.take ((s.tr.length : Int)).toNat).drop x9.toNat).map (·.1)) : Int)))) (Yields.assign rfl) trivial rfl rfl ?_
              refine St.nil ?_
              refine St.innorm ?_
              refine St.norm ?_
              refine St.region ?_
              refine St.val (v := (.int .i64 ((i : Int) + 1))) (Yields.add rfl rfl (by omega) (by omega)) trivial rfl rfl ?_
              refine St.val (v := (.int .i64 ((i : Int) + 1))) (Yields.move rfl) trivial rfl rfl ?_
              refine St.nil ?_
              refine St.norm ?_
              intro a w ha hs
              exact ⟨s.marks.length - (i + 1), by omega, i + 1, rfl, by omega, ha.covers ⟨rfl, by show _ = some (Value.int .i64 (((keptTo s i + card (seg s i) : Nat)) : Int)); rw [hseg]; rfl, rfl, rfl, rfl, trivial⟩, hs⟩
      · skip
        refine St.seq ?_
        refine St.region ?_
        refine St.val (v := (.bool false)) (Yields.isnt hi (Yields.lt rfl rfl)) trivial rfl rfl ?_
        refine St.nil ?_
        refine St.norm ?_
        refine St.seq ?_
        refine St.cond_f rfl ?_
        refine St.exit ?_
        refine St.thenexit ?_
        refine St.thenexit ?_
        refine St.inexit ?_
        refine St.norm ?_
        refine St.seq ?_
        refine St.region ?_
        refine St.val (v := (.int .i64 (keptTo s i : Int))) (Yields.move rfl) trivial rfl rfl ?_
        refine St.val (v := (.int .i64 (keptTo s i : Int))) (Yields.assign rfl) trivial rfl rfl ?_
        refine St.val (v := (.int .i64 0)) (Yields.assign rfl) trivial rfl rfl ?_
        refine St.nil ?_
        refine St.norm ?_
        refine St.ret ?_
        refine St.done2 rfl rfl rfl ⟨?_, rfl⟩
        obtain rfl : i = s.marks.length := by omega
        unfold keptR; rw [if_neg (by omega), hp]

end Go.Proofs.Ytaajfhcjpejmjaa