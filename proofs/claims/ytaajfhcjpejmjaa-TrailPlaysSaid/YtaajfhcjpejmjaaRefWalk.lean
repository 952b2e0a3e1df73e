import Derived.Test.YtaajfhcjpejmjaaRefKept
namespace Go.Proofs.Ytaajfhcjpejmjaa
open Go Go.Sy Go.RowKit
set_option linter.unusedVariables false

theorem rPlay_sp {F : PH} {A : Option Addr} {k c : Nat} {l : List Sh} {n : Int} (hS : Slc shK F A k l) (hmax : k ≤ 140737488355328) :
    CallSp Try.prog 8 #[.int .i64 n, .slice A k c] F [] (fun u F' H' => ∃ A' k' c', u = .tuple #[.slice A' k' c', .int .i64 (rplayR n l).2.1, .int .i64 (rplayR n l).2.2] ∧ Slc (Kind.int .i64) F' A' k' (rplayR n l).1 ∧ H' = [] ∧ k' ≤ 64) := by
  refine CallSp.enter (args := [.int .i64 n, .slice A k c]) Try.func8 rfl rfl ?_
  intro w0 m0 hm0
  have hlen := hS.1
  refine St.seq ?_
  refine St.region ?_
  refine St.val (v := (.slice none 0 0)) (Yields.assign rfl) trivial rfl rfl ?_
  refine St.val (v := (.int .i64 0)) (Yields.assign rfl) trivial rfl rfl ?_
  refine St.val (v := (.int .i64 0)) (Yields.assign rfl) trivial rfl rfl ?_
  refine St.nil ?_
  refine St.norm ?_
  refine St.seq ?_
  refine St.region ?_
  refine St.val (v := (.int .i64 n)) (Yields.move rfl) trivial rfl rfl ?_
  refine St.val (v := (.slice A k c)) (Yields.move rfl) trivial rfl rfl ?_
  refine St.call [] (played_sp hS hmax) rfl (fun _ ha => ev2 ha rfl rfl) rfl en12 rfl rfl trivial ?_
  rintro _ F2 _ (⟨he, rfl, rfl⟩ | ⟨he, hp, rfl, rfl⟩ | ⟨he, s, b, A1, c1, mcells, C, hp, hwf, hml, rfl, rfl, hMC⟩) hle1
  · skip
    replace hS := Slc.mono hle1 hS
    refine St.val (v := (.tuple #[.slice none 0 0, .slice none 0 0, .int .i64 (shErr n l)])) (Yields.move rfl) trivial rfl rfl ?_
    refine St.val (v := (.slice none 0 0)) (Yields.extract rfl rfl) trivial rfl rfl ?_
    refine St.val (v := (.slice none 0 0)) (Yields.extract rfl rfl) trivial rfl rfl ?_
    refine St.val (v := (.int .i64 (shErr n l))) (Yields.extract rfl rfl) trivial rfl rfl ?_
    refine St.val (v := (.slice none 0 0)) (Yields.assign rfl) trivial rfl rfl ?_
    refine St.val (v := (.slice none 0 0)) (Yields.assign rfl) trivial rfl rfl ?_
    refine St.val (v := (.int .i64 (shErr n l))) (Yields.assign rfl) trivial rfl rfl ?_
    refine St.nil ?_
    refine St.norm ?_
    refine St.seq ?_
    refine St.seq ?_
    refine St.region ?_
    refine St.val (v := (.int .i64 (shErr n l))) (Yields.move rfl) trivial rfl rfl ?_
    refine St.val (v := (.bool true)) (Yields.nisnt he (Yields.ne rfl rfl)) trivial rfl rfl ?_
    refine St.nil ?_
    refine St.norm ?_
    refine St.cond_t rfl ?_
    refine St.seq ?_
    refine St.region ?_
    refine St.val (v := (.int .i64 (shErr n l))) (Yields.move rfl) trivial rfl rfl ?_
    refine St.val (v := (.slice none 0 0)) (Yields.assign rfl) trivial rfl rfl ?_
    refine St.val (v := (.int .i64 0)) (Yields.assign rfl) trivial rfl rfl ?_
    refine St.val (v := (.int .i64 (shErr n l))) (Yields.assign rfl) trivial rfl rfl ?_
    refine St.nil ?_
    refine St.norm ?_
    refine St.ret ?_
    refine St.thenret ?_
    refine St.done3 rfl rfl rfl rfl ⟨none, 0, 0, ?_, ?_, rfl, by omega⟩
    · unfold rplayR; rw [if_pos he]; rfl
    · unfold rplayR; rw [if_pos he]; exact slc_nil _ _
  · skip
    replace hS := Slc.mono hle1 hS
    refine St.val (v := (.tuple #[.slice none 0 0, .slice none 0 0, .int .i64 11])) (Yields.move rfl) trivial rfl rfl ?_
    refine St.val (v := (.slice none 0 0)) (Yields.extract rfl rfl) trivial rfl rfl ?_
    refine St.val (v := (.slice none 0 0)) (Yields.extract rfl rfl) trivial rfl rfl ?_
    refine St.val (v := (.int .i64 11)) (Yields.extract rfl rfl) trivial rfl rfl ?_
    refine St.val (v := (.slice none 0 0)) (Yields.assign rfl) trivial rfl rfl ?_
    refine St.val (v := (.slice none 0 0)) (Yields.assign rfl) trivial rfl rfl ?_
    refine St.val (v := (.int .i64 11)) (Yields.assign rfl) trivial rfl rfl ?_
    refine St.nil ?_
    refine St.norm ?_
    refine St.seq ?_
    refine St.seq ?_
    refine St.region ?_
    refine St.val (v := (.int .i64 11)) (Yields.move rfl) trivial rfl rfl ?_
    refine St.val (v := (.bool true)) (Yields.nisnt (by decide) (Yields.ne rfl rfl)) trivial rfl rfl ?_
    refine St.nil ?_
    refine St.norm ?_
    refine St.cond_t rfl ?_
    refine St.seq ?_
    refine St.region ?_
    refine St.val (v := (.int .i64 11)) (Yields.move rfl) trivial rfl rfl ?_
    refine St.val (v := (.slice none 0 0)) (Yields.assign rfl) trivial rfl rfl ?_
    refine St.val (v := (.int .i64 0)) (Yields.assign rfl) trivial rfl rfl ?_
    refine St.val (v := (.int .i64 11)) (Yields.assign rfl) trivial rfl rfl ?_
    refine St.nil ?_
    refine St.norm ?_
    refine St.ret ?_
    refine St.thenret ?_
    refine St.done3 rfl rfl rfl rfl ⟨none, 0, 0, ?_, ?_, rfl, by omega⟩
    · unfold rplayR; rw [if_neg (by omega), hp]; rfl
    · unfold rplayR; rw [if_neg (by omega), hp]; exact slc_nil _ _
  · skip
    replace hS := Slc.mono hle1 hS
    refine St.val (v := (.tuple #[.slice (some ⟨b, 0, none⟩) n.toNat n.toNat, .slice A1 s.ms.length c1, .int .i64 0])) (Yields.move rfl) trivial rfl rfl ?_
    refine St.val (v := (.slice (some ⟨b, 0, none⟩) n.toNat n.toNat)) (Yields.extract rfl rfl) trivial rfl rfl ?_
    refine St.val (v := (.slice A1 s.ms.length c1)) (Yields.extract rfl rfl) trivial rfl rfl ?_
    refine St.val (v := (.int .i64 0)) (Yields.extract rfl rfl) trivial rfl rfl ?_
    refine St.val (v := (.slice (some ⟨b, 0, none⟩) n.toNat n.toNat)) (Yields.assign rfl) trivial rfl rfl ?_
    refine St.val (v := (.slice A1 s.ms.length c1)) (Yields.assign rfl) trivial rfl rfl ?_
    refine St.val (v := (.int .i64 0)) (Yields.assign rfl) trivial rfl rfl ?_
    refine St.nil ?_
    refine St.norm ?_
    refine St.seq ?_
    refine St.seq ?_
    refine St.region ?_
    refine St.val (v := (.int .i64 0)) (Yields.move rfl) trivial rfl rfl ?_
    refine St.val (v := (.bool false)) (Yields.nis (by decide) (Yields.ne rfl rfl)) trivial rfl rfl ?_
    refine St.nil ?_
    refine St.norm ?_
    refine St.cond_f rfl ?_
    refine St.skip ?_
    refine St.norm ?_
    refine St.seq ?_
    refine St.region ?_
    refine St.val (v := (.slice (some ⟨b, 0, none⟩) n.toNat n.toNat)) (Yields.move rfl) trivial rfl rfl ?_
    refine St.val (v := (.slice A1 s.ms.length c1)) (Yields.move rfl) trivial rfl rfl ?_
    refine St.val (v := (.int .i64 (s.ms.length : Int))) (Yields.lenSlice tu41 rfl) trivial rfl rfl ?_
    refine St.val (v := (.slice (some ⟨b, 0, none⟩) n.toNat n.toNat)) (Yields.assign rfl) trivial rfl rfl ?_
    refine St.val (v := (.int .i64 (s.ms.length : Int))) (Yields.assign rfl) trivial rfl rfl ?_
    refine St.val (v := (.int .i64 0)) (Yields.assign rfl) trivial rfl rfl ?_
    refine St.nil ?_
    refine St.norm ?_
    refine St.ret ?_
    obtain ⟨hn1, hn2, _, _⟩ := shErr_zero he
    refine St.freeze_row (R := [row A1 s.ms.length c1 53 2 mcells, Sep C]) (D := Kind.int .i64) 0 rfl rfl rfl hwf.len (ints_cat _) ?_
    intro F7 hle7 hC
    refine St.nilH ?_
    refine St.done3 rfl rfl rfl rfl ⟨some ⟨b, 0, none⟩, n.toNat, n.toNat, ?_, ?_, rfl, by omega⟩
    · unfold rplayR; rw [if_neg (by omega), hp]
    · unfold rplayR; rw [if_neg (by omega), hp]; exact hC

theorem rKept_sp {F : PH} {A : Option Addr} {k c : Nat} {l : List Sh} {n : Int} (hS : Slc shK F A k l) (hmax : k ≤ 140737488355328) :
    CallSp Try.prog 10 #[.int .i64 n, .slice A k c] F [] (fun u F' H' => u = .tuple #[.int .i64 (rkeptR n l).1, .int .i64 (rkeptR n l).2] ∧ H' = []) := by
  refine CallSp.enter (args := [.int .i64 n, .slice A k c]) Try.func10 rfl rfl ?_
  intro w0 m0 hm0
  have hlen := hS.1
  refine St.seq ?_
  refine St.region ?_
  refine St.val (v := (.int .i64 0)) (Yields.assign rfl) trivial rfl rfl ?_
  refine St.val (v := (.int .i64 0)) (Yields.assign rfl) trivial rfl rfl ?_
  refine St.nil ?_
  refine St.norm ?_
  refine St.seq ?_
  refine St.region ?_
  refine St.val (v := (.int .i64 n)) (Yields.move rfl) trivial rfl rfl ?_
  refine St.val (v := (.slice A k c)) (Yields.move rfl) trivial rfl rfl ?_
  refine St.call [] (played_sp hS hmax) rfl (fun _ ha => ev2 ha rfl rfl) rfl en12 rfl rfl trivial ?_
  rintro _ F2 _ (⟨he, rfl, rfl⟩ | ⟨he, hp, rfl, rfl⟩ | ⟨he, s, b, A1, c1, mcells, C, hp, hwf, hml, rfl, rfl, hMC⟩) hle1
  · skip
    replace hS := Slc.mono hle1 hS
    refine St.val (v := (.tuple #[.slice none 0 0, .slice none 0 0, .int .i64 (shErr n l)])) (Yields.move rfl) trivial rfl rfl ?_
    refine St.val (v := (.slice none 0 0)) (Yields.extract rfl rfl) trivial rfl rfl ?_
    refine St.val (v := (.slice none 0 0)) (Yields.extract rfl rfl) trivial rfl rfl ?_
    refine St.val (v := (.int .i64 (shErr n l))) (Yields.extract rfl rfl) trivial rfl rfl ?_
    refine St.val (v := (.slice none 0 0)) (Yields.assign rfl) trivial rfl rfl ?_
    refine St.val (v := (.slice none 0 0)) (Yields.assign rfl) trivial rfl rfl ?_
    refine St.val (v := (.int .i64 (shErr n l))) (Yields.assign rfl) trivial rfl rfl ?_
    refine St.nil ?_
    refine St.norm ?_
    refine St.seq ?_
    refine St.seq ?_
    refine St.region ?_
    refine St.val (v := (.int .i64 (shErr n l))) (Yields.move rfl) trivial rfl rfl ?_
    refine St.val (v := (.bool true)) (Yields.nisnt he (Yields.ne rfl rfl)) trivial rfl rfl ?_
    refine St.nil ?_
    refine St.norm ?_
    refine St.cond_t rfl ?_
    refine St.seq ?_
    refine St.region ?_
    refine St.val (v := (.int .i64 (shErr n l))) (Yields.move rfl) trivial rfl rfl ?_
    refine St.val (v := (.int .i64 0)) (Yields.assign rfl) trivial rfl rfl ?_
    refine St.val (v := (.int .i64 (shErr n l))) (Yields.assign rfl) trivial rfl rfl ?_
    refine St.nil ?_
    refine St.norm ?_
    refine St.ret ?_
    refine St.thenret ?_
    refine St.done2 rfl rfl rfl ⟨?_, rfl⟩
    unfold rkeptR; rw [if_pos he]; rfl
  · skip
    replace hS := Slc.mono hle1 hS
    refine St.val (v := (.tuple #[.slice none 0 0, .slice none 0 0, .int .i64 11])) (Yields.move rfl) trivial rfl rfl ?_
    refine St.val (v := (.slice none 0 0)) (Yields.extract rfl rfl) trivial rfl rfl ?_
    refine St.val (v := (.slice none 0 0)) (Yields.extract rfl rfl) trivial rfl rfl ?_
    refine St.val (v := (.int .i64 11)) (Yields.extract rfl rfl) trivial rfl rfl ?_
    refine St.val (v := (.slice none 0 0)) (Yields.assign rfl) trivial rfl rfl ?_
    refine St.val (v := (.slice none 0 0)) (Yields.assign rfl) trivial rfl rfl ?_
    refine St.val (v := (.int .i64 11)) (Yields.assign rfl) trivial rfl rfl ?_
    refine St.nil ?_
    refine St.norm ?_
    refine St.seq ?_
    refine St.seq ?_
    refine St.region ?_
    refine St.val (v := (.int .i64 11)) (Yields.move rfl) trivial rfl rfl ?_
    refine St.val (v := (.bool true)) (Yields.nisnt (by decide) (Yields.ne rfl rfl)) trivial rfl rfl ?_
    refine St.nil ?_
    refine St.norm ?_
    refine St.cond_t rfl ?_
    refine St.seq ?_
    refine St.region ?_
    refine St.val (v := (.int .i64 11)) (Yields.move rfl) trivial rfl rfl ?_
    refine St.val (v := (.int .i64 0)) (Yields.assign rfl) trivial rfl rfl ?_
    refine St.val (v := (.int .i64 11)) (Yields.assign rfl) trivial rfl rfl ?_
    refine St.nil ?_
    refine St.norm ?_
    refine St.ret ?_
    refine St.thenret ?_
    refine St.done2 rfl rfl rfl ⟨?_, rfl⟩
    unfold rkeptR; rw [if_neg (by omega), hp]; rfl
  · skip
    replace hS := Slc.mono hle1 hS
    refine St.val (v := (.tuple #[.slice (some ⟨b, 0, none⟩) n.toNat n.toNat, .slice A1 s.ms.length c1, .int .i64 0])) (Yields.move rfl) trivial rfl rfl ?_
    refine St.val (v := (.slice (some ⟨b, 0, none⟩) n.toNat n.toNat)) (Yields.extract rfl rfl) trivial rfl rfl ?_
    refine St.val (v := (.slice A1 s.ms.length c1)) (Yields.extract rfl rfl) trivial rfl rfl ?_
    refine St.val (v := (.int .i64 0)) (Yields.extract rfl rfl) trivial rfl rfl ?_
    refine St.val (v := (.slice (some ⟨b, 0, none⟩) n.toNat n.toNat)) (Yields.assign rfl) trivial rfl rfl ?_
    refine St.val (v := (.slice A1 s.ms.length c1)) (Yields.assign rfl) trivial rfl rfl ?_
    refine St.val (v := (.int .i64 0)) (Yields.assign rfl) trivial rfl rfl ?_
    refine St.nil ?_
    refine St.norm ?_
    refine St.seq ?_
    refine St.seq ?_
    refine St.region ?_
    refine St.val (v := (.int .i64 0)) (Yields.move rfl) trivial rfl rfl ?_
    refine St.val (v := (.bool false)) (Yields.nis (by decide) (Yields.ne rfl rfl)) trivial rfl rfl ?_
    refine St.nil ?_
    refine St.norm ?_
    refine St.cond_f rfl ?_
    refine St.skip ?_
    refine St.norm ?_
    refine St.seq ?_
    refine St.region ?_
    refine St.val (v := (.int .i64 0)) (Yields.assign rfl) trivial rfl rfl ?_
    refine St.nil ?_
    refine St.norm ?_
    refine St.seq ?_
    refine St.seq ?_
    refine St.region ?_
    refine St.val (v := (.int .i64 0)) (Yields.assign rfl) trivial rfl rfl ?_
    refine St.nil ?_
    refine St.norm ?_
    refine St.block ?_
    obtain ⟨hn1, hn2, hl4, _⟩ := shErr_zero he
    refine St.freeze_marks (R := [row (some ⟨b, 0, none⟩) n.toNat n.toNat 3 1 (ints s.cells), row A1 s.ms.length c1 53 2 mcells]) 2 hMC hwf.ms rfl rfl ?_
    intro F2 hle2 hcat
    replace hS := Slc.mono hle2 hS
    replace hMC := MC.mono hle2 hMC
    refine St.freeze_row (R := [row (some ⟨b, 0, none⟩) n.toNat n.toNat 3 1 (ints s.cells)]) (D := MK n.toNat) 1 rfl rfl rfl (by simp) hcat ?_
    intro F3 hle3 hM
    replace hS := Slc.mono hle3 hS
    refine St.nilH ?_
    refine St.loop (fun kk a w => ∃ i : Nat, kk = s.ms.length - i ∧ i ≤ s.ms.length ∧ Has Try.f10.ntmps a [(0, .int .i64 n), (7, .slice A1 s.ms.length c1), (9, .int .i64 (rkTo n.toNat s.ms.reverse i : Int)), (10, .int .i64 (i : Int))] ∧ Sat ⟨w0, fun b => m0 b ≠ none, F⟩ F3 [] w) s.ms.length ?_ ?_
    · intro a w ha hs
      exact ⟨0, by omega, by omega, ha.covers ⟨rfl, rfl, rfl, rfl, trivial⟩, hs⟩
    · rintro kk a w ⟨i, hkk, him, ha, hs⟩
      refine St.use (?_ : St _ _ _ _ _ _) ha hs
      clear ha hs a w
      have hkb := rkTo_le n.toNat s.ms.reverse i
      have hkb2 : i * n.toNat ≤ 400 * 64 := Nat.mul_le_mul (by omega) (by omega)
      by_cases hi : (i : Int) < (s.ms.length : Int)
      · skip
        obtain ⟨x3, hx6⟩ : ∃ x, s.ms.reverse[i]? = some x := ⟨_, List.getElem?_eq_getElem (by simp; omega)⟩
        obtain ⟨ad4, cs5, hA7, hK8, hc9⟩ := hM.get hx6
        subst hA7
        obtain ⟨B, cB, D, cD, rfl, hB, hD⟩ := hK8
        obtain ⟨p10, hp11⟩ : ∃ p, ad4.add (i * 2) = p := ⟨_, rfl⟩
        have hc9 : ∀ j v, ([.slice B n.toNat cB, .slice D n.toNat cD] : List Value)[j]? = some v → PH.cell? F3 (p10.add j) = some v := by rw [← hp11]; exact hc9
        have hxl : x3.chg.length = n.toNat := hD.1
        refine St.seq ?_
        refine St.seq ?_
        refine St.region ?_
        refine St.val (v := (.int .i64 (i : Int))) (Yields.move rfl) trivial rfl rfl ?_
        refine St.val (v := (.slice (some ad4) s.ms.length c1)) (Yields.move rfl) trivial rfl rfl ?_
        refine St.val (v := (.int .i64 (s.ms.length : Int))) (Yields.lenSlice tu41 rfl) trivial rfl rfl ?_
        refine St.val (v := (.bool true)) (Yields.is hi (Yields.lt rfl rfl)) trivial rfl rfl ?_
        refine St.nil ?_
        refine St.norm ?_
        refine St.cond_t rfl ?_
        refine St.skip ?_
        refine St.norm ?_
        refine St.seq ?_
        refine St.block ?_
        refine St.seq ?_
        refine St.region ?_
        refine St.val (v := (.int .i64 0)) (Yields.assign rfl) trivial rfl rfl ?_
        refine St.nil ?_
        refine St.norm ?_
        refine St.block ?_
        refine St.loop (fun kk a w => ∃ j : Nat, kk = n.toNat - j ∧ j ≤ n.toNat ∧ Has Try.f10.ntmps a [(0, .int .i64 n), (7, .slice (some ad4) s.ms.length c1), (9, .int .i64 ((rkTo n.toNat s.ms.reverse i : Int) + (cntTo x3.chg j : Int))), (10, .int .i64 (i : Int)), (11, .int .i64 (j : Int))] ∧ Sat ⟨w0, fun b => m0 b ≠ none, F⟩ F3 [] w) n.toNat ?_ ?_
        · intro a w ha hs
          exact ⟨0, by omega, by omega, ha.covers ⟨rfl, rfl, by show _ = some (Value.int .i64 ((rkTo n.toNat s.ms.reverse i : Int) + ((0 : Nat) : Int))); rw [show (((0 : Nat)) : Int) = 0 from rfl, Int.add_zero]; rfl, rfl, rfl, trivial⟩, hs⟩
        · rintro kk a w ⟨j, hkk, hjn, ha, hs⟩
          refine St.use (?_ : St _ _ _ _ _ _) ha hs
          clear ha hs a w
          have hcb := cntTo_le x3.chg j
          by_cases hj : (j : Int) < n
          · skip
            obtain ⟨x12, hx15⟩ : ∃ x, x3.chg[j]? = some x := ⟨_, List.getElem?_eq_getElem (by omega)⟩
            obtain ⟨ad13, cs14, hA16, hK17, hc18⟩ := hD.get hx15
            subst hA16
            obtain rfl : cs14 = [.bool x12] := hK17
            obtain ⟨p19, hp20⟩ : ∃ p, ad13.add (j * 1) = p := ⟨_, rfl⟩
            have hc18 : ∀ j v, ([.bool x12] : List Value)[j]? = some v → PH.cell? F3 (p19.add j) = some v := by rw [← hp20]; exact hc18
            refine St.seq ?_
            refine St.seq ?_
            refine St.region ?_
            refine St.val (v := (.int .i64 (j : Int))) (Yields.move rfl) trivial rfl rfl ?_
            refine St.val (v := (.int .i64 n)) (Yields.move rfl) trivial rfl rfl ?_
            refine St.val (v := (.bool true)) (Yields.is hj (Yields.lt rfl rfl)) trivial rfl rfl ?_
            refine St.nil ?_
            refine St.norm ?_
            refine St.cond_t rfl ?_
            refine St.skip ?_
            refine St.norm ?_
            refine St.seq ?_
            refine St.block ?_
            refine St.seq ?_
            refine St.region ?_
            refine St.val (v := (.slice (some ad4) s.ms.length c1)) (Yields.move rfl) trivial rfl rfl ?_
            refine St.val (v := (.int .i64 (i : Int))) (Yields.move rfl) trivial rfl rfl ?_
            refine St.val (v := (.pointer (some p10))) (Yields.indexAddr (p := p10) ts41 rfl rfl (by omega) (by omega) (by rw [← hp11]; first | rfl | (congr 1; omega))) trivial rfl rfl ?_
            refine St.val (v := (.pointer (some (p10.add 1)))) (Yields.fieldAddr (v := (.pointer (some (p10.add 1)))) rfl (fun _ => by kernel_rfl)) trivial rfl rfl ?_
            refine St.val (v := (.slice (some ad13) n.toNat cD)) (Yields.load rfl (Loads.Fatk 1 hc9 tc51 rfl)) trivial rfl rfl ?_
            refine St.val (v := (.int .i64 (j : Int))) (Yields.move rfl) trivial rfl rfl ?_
            refine St.val (v := (.pointer (some p19))) (Yields.indexAddr (p := p19) ts51 rfl rfl (by omega) (by omega) (by rw [← hp20]; first | rfl | (congr 1; omega))) trivial rfl rfl ?_
            refine St.val (v := (.bool x12)) (Yields.load rfl (Loads.Fat hc18 tc4 rfl)) trivial rfl rfl ?_
            refine St.nil ?_
            refine St.norm ?_
            cases x12
            · skip
              refine St.cond_f rfl ?_
              refine St.skip ?_
              refine St.innorm ?_
              refine St.norm ?_
              refine St.region ?_
              refine St.val (v := (.int .i64 (j : Int))) (Yields.move rfl) trivial rfl rfl ?_
              refine St.val (v := (.int .i64 ((j : Int) + 1))) (Yields.add rfl rfl (by omega) (by omega)) trivial rfl rfl ?_
              refine St.val (v := (.int .i64 ((j : Int) + 1))) (Yields.assign rfl) trivial rfl rfl ?_
              refine St.nil ?_
              refine St.norm ?_
              intro a w ha hs
              exact ⟨n.toNat - (j + 1), by omega, j + 1, rfl, by omega, ha.covers ⟨rfl, rfl, by rw [cntTo_snoc hx15]; rfl, rfl, rfl, trivial⟩, hs⟩
            · skip
              refine St.cond_t rfl ?_
              refine St.region ?_
              refine St.val (v := (.int .i64 ((rkTo n.toNat s.ms.reverse i : Int) + (cntTo x3.chg j : Int)))) (Yields.move rfl) trivial rfl rfl ?_
              refine St.val (v := (.int .i64 (((rkTo n.toNat s.ms.reverse i : Int) + (cntTo x3.chg j : Int)) + 1))) (Yields.add rfl rfl (by omega) (by omega)) trivial rfl rfl ?_
              refine St.val (v := (.int .i64 (((rkTo n.toNat s.ms.reverse i : Int) + (cntTo x3.chg j : Int)) + 1))) (Yields.assign rfl) trivial rfl rfl ?_
              refine St.nil ?_
              refine St.innorm ?_
              refine St.norm ?_
              refine St.region ?_
              refine St.val (v := (.int .i64 (j : Int))) (Yields.move rfl) trivial rfl rfl ?_
              refine St.val (v := (.int .i64 ((j : Int) + 1))) (Yields.add rfl rfl (by omega) (by omega)) trivial rfl rfl ?_
              refine St.val (v := (.int .i64 ((j : Int) + 1))) (Yields.assign rfl) trivial rfl rfl ?_
              refine St.nil ?_
              refine St.norm ?_
              intro a w ha hs
              exact ⟨n.toNat - (j + 1), by omega, j + 1, rfl, by omega, ha.covers ⟨rfl, rfl, by rw [cntTo_snoc hx15]; show some (Value.int .i64 ((rkTo n.toNat s.ms.reverse i : Int) + (cntTo x3.chg j : Int) + 1)) = some (Value.int .i64 ((rkTo n.toNat s.ms.reverse i : Int) + ((cntTo x3.chg j + 1 : Nat) : Int))); first | rfl | (congr 2; done) | (congr 2; omega), rfl, rfl, trivial⟩, hs⟩
          · skip
            obtain rfl : j = n.toNat := by omega
            refine St.seq ?_
            refine St.seq ?_
            refine St.region ?_
            refine St.val (v := (.int .i64 (n.toNat : Int))) (Yields.move rfl) trivial rfl rfl ?_
            refine St.val (v := (.int .i64 n)) (Yields.move rfl) trivial rfl rfl ?_
            refine St.val (v := (.bool false)) (Yields.isnt hj (Yields.lt rfl rfl)) trivial rfl rfl ?_
            refine St.nil ?_
            refine St.norm ?_
            refine St.cond_f rfl ?_
            refine St.exit ?_
            refine St.thenexit ?_
            refine St.thenexit ?_
            refine St.inexit ?_
            refine St.innorm ?_
            refine St.norm ?_
            refine St.region ?_
            refine St.val (v := (.int .i64 (i : Int))) (Yields.move rfl) trivial rfl rfl ?_
            refine St.val (v := (.int .i64 ((i : Int) + 1))) (Yields.add rfl rfl (by omega) (by omega)) trivial rfl rfl ?_
            refine St.val (v := (.int .i64 ((i : Int) + 1))) (Yields.assign rfl) trivial rfl rfl ?_
            refine St.nil ?_
            refine St.norm ?_
            intro a w ha hs
            exact ⟨s.ms.length - (i + 1), by omega, i + 1, rfl, by omega, ha.covers ⟨rfl, rfl, by rw [rkTo_snoc hx6]; rfl, rfl, trivial⟩, hs⟩
      · skip
        refine St.seq ?_
        refine St.seq ?_
        refine St.region ?_
        refine St.val (v := (.int .i64 (i : Int))) (Yields.move rfl) trivial rfl rfl ?_
        refine St.val (v := (.slice A1 s.ms.length c1)) (Yields.move rfl) trivial rfl rfl ?_
        refine St.val (v := (.int .i64 (s.ms.length : Int))) (Yields.lenSlice tu41 rfl) trivial rfl rfl ?_
        refine St.val (v := (.bool false)) (Yields.isnt hi (Yields.lt rfl rfl)) trivial rfl rfl ?_
        refine St.nil ?_
        refine St.norm ?_
        refine St.cond_f rfl ?_
        refine St.exit ?_
        refine St.thenexit ?_
        refine St.thenexit ?_
        refine St.inexit ?_
        refine St.norm ?_
        refine St.seq ?_
        refine St.region ?_
        refine St.val (v := (.int .i64 (rkTo n.toNat s.ms.reverse i : Int))) (Yields.move rfl) trivial rfl rfl ?_
        refine St.val (v := (.int .i64 (rkTo n.toNat s.ms.reverse i : Int))) (Yields.assign rfl) trivial rfl rfl ?_
        refine St.val (v := (.int .i64 0)) (Yields.assign rfl) trivial rfl rfl ?_
        refine St.nil ?_
        refine St.norm ?_
        refine St.ret ?_
        refine St.done2 rfl rfl rfl ⟨?_, rfl⟩
        obtain rfl : i = s.ms.length := by omega
        unfold rkeptR; rw [if_neg (by omega), hp]

end Go.Proofs.Ytaajfhcjpejmjaa