/- How the law's arguments read. -/
import Derived.Test.YtjjmdiddgcllkaaSyOp
import Derived.Test.YtjjmdiddgcllkaaKi
namespace Go.Proofs.Ytjjmdiddgcllkaa
open Go Go.Sy Go.RowKit
set_option linter.unusedVariables false
theorem op3 (N : Nat) : OpensN Try.prog N 3 (Kind.int .i64) (fun x => (Lit.int .i64 x).wf = true) := opens_int Try.underlying3 N
theorem os24 {N : Nat} (h22 : OpensN Try.prog N 22 (Kind.sl 32 KDSTree) (fun _ => True)) : OpensN Try.prog (N + 1) 24 KDSTree (fun _ => True) := by
  refine OpensN.imp (opens_struct Try.underlying24 (by kernel_rfl) (opf_cons rfl (by kernel_rfl) rfl (op3 N) (opf_cons rfl (by kernel_rfl) rfl h22 (opf_nil _ _ _)))) ?_
  rintro F cs y h g
  obtain ⟨c0, d0, rfl, r0, ⟨c1, d1, rfl, ⟨A1, b1, rfl, r1⟩, hz⟩⟩ := h
  have hz := hz; cases hz
  cases r0
  exact ⟨⟨y.1, y.2.1⟩, DSTree.shut r1, trivial⟩
theorem ot24 (N : Nat) : OpensN Try.prog N 24 KDSTree (fun _ => True) ∧ OpensN Try.prog (N + 1) 24 KDSTree (fun _ => True) := by
  induction N with
  | zero => exact ⟨opens_zero _ _ _, os24 (opens_zero _ _ _)⟩
  | succ N ih => exact ⟨ih.2, os24 (OpensN.imp (opens_sl Try.underlying22 (by kernel_rfl) (by kernel_rfl) (by decide) ih.1) fun _ _ x h _ => ⟨x, h, trivial⟩)⟩
theorem op24 (N : Nat) : OpensN Try.prog N 24 KDSTree (fun _ => True) := (ot24 N).1
end Go.Proofs.Ytjjmdiddgcllkaa
