import Derived.Test.YtaajfhcjpejmjaaPlay2
namespace Go.Proofs.Ytaajfhcjpejmjaa
open Go Go.Sy Go.RowKit
set_option linter.unusedVariables false
/-- What Play answers: the cells, how many marks, the error. -/
def playR (n : Int) (l : List Sh) : List Int × Nat × Int :=
  if shErr n l ≠ 0 then ([], 0, shErr n l) else match plays l (start n.toNat) with
    | none => ([], 0, 11)
    | some s => (s.cells, s.marks.length, 0)
theorem ints_cat {F : PH} : ∀ l : List Int, Cat (Kind.int .i64) F (ints l) l
  | [] => rfl
  | x :: l => ⟨[.int .i64 x], ints l, rfl, rfl, ints_cat l⟩
theorem slc_nil {α : Type} (D : Kind α) (F : PH) : Slc D F none 0 [] := ⟨rfl, .inl rfl⟩

theorem Play_sp {F : PH} {A : Option Addr} {k c : Nat} {l : List Sh} {n : Int} (hS : Slc shK F A k l) (hmax : k ≤ 140737488355328) :
    CallSp Try.prog 5 #[.int .i64 n, .slice A k c] F [] (fun u F' H' => ∃ A' k' c', u = .tuple #[.slice A' k' c', .int .i64 (playR n l).2.1, .int .i64 (playR n l).2.2] ∧ Slc (Kind.int .i64) F' A' k' (playR n l).1 ∧ H' = [] ∧ k' ≤ 64) := by
  refine CallSp.enter (args := [.int .i64 n, .slice A k c]) Try.func5 rfl rfl ?_
  intro w0 m0 hm0
  have hlen := hS.1
  refine St.seq ?_
  refine St.region ?_
  refine St.val (v := (.slice none 0 0)) (Yields.assign rfl) trivial rfl rfl ?_
  refine St.val (v := (.int .i64 0)) (Yields.assign rfl) trivial rfl rfl ?_
  refine St.val (v := (.int .i64 0)) (Yields.assign rfl) trivial rfl rfl ?_
  refine St.nil ?_
  refine St.norm ?_
  refine St.seq ?_
  refine St.region ?_
  refine St.val (v := (.int .i64 n)) (Yields.move rfl) trivial rfl rfl ?_
  refine St.val (v := (.slice A k c)) (Yields.move rfl) trivial rfl rfl ?_
  refine St.call [] (play_sp hS hmax) rfl (fun _ ha => ev2 ha rfl rfl) rfl en11 rfl rfl trivial ?_
  rintro _ F2 _ (⟨he, rfl, rfl⟩ | ⟨he, hp, rfl, rfl⟩ | ⟨he, s, SB, hp, hwf, rfl, CA, cc, TA, tc, MA, mc, tcells, rfl, hT⟩) hle1
  · skip
    replace hS := Slc.mono hle1 hS
    refine St.val (v := (.tuple #[.pointer none, .int .i64 (shErr n l)])) (Yields.move rfl) trivial rfl rfl ?_
    refine St.val (v := (.pointer none)) (Yields.extract rfl rfl) trivial rfl rfl ?_
    refine St.val (v := (.int .i64 (shErr n l))) (Yields.extract rfl rfl) trivial rfl rfl ?_
    refine St.val (v := (.pointer none)) (Yields.assign rfl) trivial rfl rfl ?_
    refine St.val (v := (.int .i64 (shErr n l))) (Yields.assign rfl) trivial rfl rfl ?_
    refine St.nil ?_
    refine St.norm ?_
    refine St.seq ?_
    refine St.seq ?_
    refine St.region ?_
    refine St.val (v := (.int .i64 (shErr n l))) (Yields.move rfl) trivial rfl rfl ?_
    refine St.val (v := (.bool true)) (Yields.nisnt he (Yields.ne rfl rfl)) trivial rfl rfl ?_
    refine St.nil ?_
    refine St.norm ?_
    refine St.cond_t rfl ?_
    refine St.seq ?_
    refine St.region ?_
    refine St.val (v := (.int .i64 (shErr n l))) (Yields.move rfl) trivial rfl rfl ?_
    refine St.val (v := (.slice none 0 0)) (Yields.assign rfl) trivial rfl rfl ?_
    refine St.val (v := (.int .i64 0)) (Yields.assign rfl) trivial rfl rfl ?_
    refine St.val (v := (.int .i64 (shErr n l))) (Yields.assign rfl) trivial rfl rfl ?_
    refine St.nil ?_
    refine St.norm ?_
    refine St.ret ?_
    refine St.thenret ?_
    refine St.done3 rfl rfl rfl rfl ⟨none, 0, 0, ?_, ?_, rfl, by omega⟩
    · unfold playR; rw [if_pos he]; rfl
    · unfold playR; rw [if_pos he]; exact slc_nil _ _
  · skip
    replace hS := Slc.mono hle1 hS
    refine St.val (v := (.tuple #[.pointer none, .int .i64 11])) (Yields.move rfl) trivial rfl rfl ?_
    refine St.val (v := (.pointer none)) (Yields.extract rfl rfl) trivial rfl rfl ?_
    refine St.val (v := (.int .i64 11)) (Yields.extract rfl rfl) trivial rfl rfl ?_
    refine St.val (v := (.pointer none)) (Yields.assign rfl) trivial rfl rfl ?_
    refine St.val (v := (.int .i64 11)) (Yields.assign rfl) trivial rfl rfl ?_
    refine St.nil ?_
    refine St.norm ?_
    refine St.seq ?_
    refine St.seq ?_
    refine St.region ?_
    refine St.val (v := (.int .i64 11)) (Yields.move rfl) trivial rfl rfl ?_
    refine St.val (v := (.bool true)) (Yields.nisnt (by decide) (Yields.ne rfl rfl)) trivial rfl rfl ?_
    refine St.nil ?_
    refine St.norm ?_
    refine St.cond_t rfl ?_
    refine St.seq ?_
    refine St.region ?_
    refine St.val (v := (.int .i64 11)) (Yields.move rfl) trivial rfl rfl ?_
    refine St.val (v := (.slice none 0 0)) (Yields.assign rfl) trivial rfl rfl ?_
    refine St.val (v := (.int .i64 0)) (Yields.assign rfl) trivial rfl rfl ?_
    refine St.val (v := (.int .i64 11)) (Yields.assign rfl) trivial rfl rfl ?_
    refine St.nil ?_
    refine St.norm ?_
    refine St.ret ?_
    refine St.thenret ?_
    refine St.done3 rfl rfl rfl rfl ⟨none, 0, 0, ?_, ?_, rfl, by omega⟩
    · unfold playR; rw [if_neg (by omega), hp]; rfl
    · unfold playR; rw [if_neg (by omega), hp]; exact slc_nil _ _
  · skip
    replace hS := Slc.mono hle1 hS
    refine St.val (v := (.tuple #[.pointer (some ⟨SB, 0, none⟩), .int .i64 0])) (Yields.move rfl) trivial rfl rfl ?_
    refine St.val (v := (.pointer (some ⟨SB, 0, none⟩))) (Yields.extract rfl rfl) trivial rfl rfl ?_
    refine St.val (v := (.int .i64 0)) (Yields.extract rfl rfl) trivial rfl rfl ?_
    refine St.val (v := (.pointer (some ⟨SB, 0, none⟩))) (Yields.assign rfl) trivial rfl rfl ?_
    refine St.val (v := (.int .i64 0)) (Yields.assign rfl) trivial rfl rfl ?_
    refine St.nil ?_
    refine St.norm ?_
    refine St.seq ?_
    refine St.seq ?_
    refine St.region ?_
    refine St.val (v := (.int .i64 0)) (Yields.move rfl) trivial rfl rfl ?_
    refine St.val (v := (.bool false)) (Yields.nis (by decide) (Yields.ne rfl rfl)) trivial rfl rfl ?_
    refine St.nil ?_
    refine St.norm ?_
    refine St.cond_f rfl ?_
    refine St.skip ?_
    refine St.norm ?_
    refine St.seq ?_
    refine StD.start [] [blk SB (.cells #[.slice CA n.toNat cc, .slice TA s.tr.length tc, .slice MA s.marks.length mc] 40 (0, 0)), row CA n.toNat cc 3 1 (ints s.cells), row TA s.tr.length tc 46 2 tcells, row MA s.marks.length mc 3 1 (ints s.marks)] hmix ?_
    refine StD.take (i := 0) (v := (.pointer (some ⟨SB, 0, none⟩))) rfl (Yields.move rfl) rfl rfl trivial Among.refl (by rintro _ _ _ ⟨_, _, _, _, h, _⟩; cases h) (by kernel_rfl) (listed' := #[true, false, false, false, false, false, false, false, false, false, false, false]) rfl ?_
    refine StD.take (i := 1) (v := (.pointer (some ⟨SB, 0, none⟩))) rfl (Yields.nilCheck rfl) rfl rfl trivial Among.refl (by rintro _ _ _ ⟨_, _, _, _, h, _⟩; cases h) (by kernel_rfl) (listed' := #[true, true, false, false, false, false, false, false, false, false, false, false]) rfl ?_
    refine StD.take (i := 2) (v := (.pointer (some ⟨SB, 0, none⟩))) rfl (Yields.fieldAddr (v := (.pointer (some ⟨SB, 0, none⟩))) rfl (fun _ => by kernel_rfl)) rfl rfl trivial Among.refl (by rintro _ _ _ ⟨_, _, _, _, h, _⟩; cases h) (by kernel_rfl) (listed' := #[true, true, true, false, false, false, false, false, false, false, false, false]) rfl ?_
    refine StD.take (i := 3) (v := (.slice CA n.toNat cc)) rfl (Yields.load rfl (Loads.H1 0 rfl tc23 rfl)) rfl rfl trivial Among.refl (by rintro _ _ _ ⟨_, _, _, _, h, _⟩; cases h) (by kernel_rfl) (listed' := #[true, true, true, true, false, false, false, false, false, false, false, false]) rfl ?_
    refine StD.take (i := 4) (v := (.pointer (some ⟨SB, 0, none⟩))) rfl (Yields.move rfl) rfl rfl trivial Among.refl (by rintro _ _ _ ⟨_, _, _, _, h, _⟩; cases h) (by kernel_rfl) (listed' := #[true, true, true, true, true, false, false, false, false, false, false, false]) rfl ?_
    refine StD.take (i := 5) (v := (.pointer (some ⟨SB, 0, none⟩))) rfl (Yields.nilCheck rfl) rfl rfl trivial Among.refl (by rintro _ _ _ ⟨_, _, _, _, h, _⟩; cases h) (by kernel_rfl) (listed' := #[true, true, true, true, true, true, false, false, false, false, false, false]) rfl ?_
    refine StD.take (i := 6) (v := (.pointer (some ⟨SB, 2, none⟩))) rfl (Yields.fieldAddr (v := (.pointer (some ⟨SB, 2, none⟩))) rfl (fun _ => by kernel_rfl)) rfl rfl trivial Among.refl (by rintro _ _ _ ⟨_, _, _, _, h, _⟩; cases h) (by kernel_rfl) (listed' := #[true, true, true, true, true, true, true, false, false, false, false, false]) rfl ?_
    refine StD.take (i := 7) (v := (.slice MA s.marks.length mc)) rfl (Yields.load rfl (Loads.H1 0 rfl tc23 rfl)) rfl rfl trivial Among.refl (by rintro _ _ _ ⟨_, _, _, _, h, _⟩; cases h) (by kernel_rfl) (listed' := #[true, true, true, true, true, true, true, true, false, false, false, false]) rfl ?_
    refine StD.take (i := 8) (v := (.int .i64 (s.marks.length : Int))) rfl (Yields.lenSlice tu23 rfl) rfl rfl trivial Among.refl (by rintro _ _ _ ⟨_, _, _, _, h, _⟩; cases h) (by kernel_rfl) (listed' := #[true, true, true, true, true, true, true, true, true, false, false, false]) rfl ?_
    refine StD.take (i := 9) (v := (.slice CA n.toNat cc)) rfl (Yields.assign rfl) rfl rfl trivial Among.refl (by rintro _ _ _ ⟨_, _, _, _, h, _⟩; cases h) (by kernel_rfl) (listed' := #[true, true, true, true, true, true, true, true, true, true, false, false]) rfl ?_
    refine StD.take (i := 10) (v := (.int .i64 (s.marks.length : Int))) rfl (Yields.assign rfl) rfl rfl trivial Among.refl (by rintro _ _ _ ⟨_, _, _, _, h, _⟩; cases h) (by kernel_rfl) (listed' := #[true, true, true, true, true, true, true, true, true, true, true, false]) rfl ?_
    refine StD.take (i := 11) (v := (.int .i64 0)) rfl (Yields.assign rfl) rfl rfl trivial Among.refl (by rintro _ _ _ ⟨_, _, _, _, h, _⟩; cases h) (by kernel_rfl) (listed' := #[true, true, true, true, true, true, true, true, true, true, true, true]) rfl ?_
    refine StD.done (by kernel_rfl) ?_
    refine St.norm ?_
    refine St.ret ?_
    obtain ⟨hn1, hn2, _, _⟩ := shErr_zero he
    refine St.freeze_row (R := [blk SB (.cells #[.slice CA n.toNat cc, .slice TA s.tr.length tc, .slice MA s.marks.length mc] 40 (0, 0)), row TA s.tr.length tc 46 2 tcells, row MA s.marks.length mc 3 1 (ints s.marks)]) (D := Kind.int .i64) 1 rfl rfl rfl hwf.len (ints_cat _) ?_
    intro F7 hle7 hC
    refine St.nilH ?_
    refine St.done3 rfl rfl rfl rfl ⟨CA, n.toNat, cc, ?_, ?_, rfl, by omega⟩
    · unfold playR; rw [if_neg (by omega), hp]
    · unfold playR; rw [if_neg (by omega), hp]; exact hC

end Go.Proofs.Ytaajfhcjpejmjaa