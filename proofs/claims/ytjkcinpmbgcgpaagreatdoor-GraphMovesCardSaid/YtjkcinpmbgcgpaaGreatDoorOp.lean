/- How the law's arguments read. -/
import Derived.Test.YtjkcinpmbgcgpaaGreatDoorSyOp
import Derived.Test.YtjkcinpmbgcgpaaGreatDoorKi
import Derived.Test.YtjkcinpmbgcgpaaGreatDoorGrD
namespace Go.Proofs.YtjkcinpmbgcgpaaGreatDoor
open Go Go.Sy Go.RowKit
set_option linter.unusedVariables false
theorem op9 (N : Nat) : OpensN Tryz.prog N 9 Kind.str (fun l => l.length ≤ 140737488351232) := opens_str Tryz.underlying9 N
theorem op60 (N : Nat) : OpensN Tryz.prog N 60 (Kind.sl 16 Kind.str) (fun xs => xs.length * 16 ≤ 140737488351232 ∧ ∀ x ∈ xs, (fun l => l.length ≤ 140737488351232) x) := OpensN.mono (opens_sl Tryz.underlying60 (by kernel_rfl) (by kernel_rfl) (by decide) (op9 N))
theorem os146 {N : Nat} (h : OpensN Tryz.prog N 146 KDType (fun _ => True)) : OpensN Tryz.prog (N + 1) 146 KDType (fun _ => True) := by
  have h107 : OpensN Tryz.prog N 107 (Kind.sl 40 KDType) (fun xs => xs.length * 40 ≤ 140737488351232 ∧ ∀ x ∈ xs, (fun _ => True) x) := OpensN.mono (opens_sl Tryz.underlying107 (by kernel_rfl) (by kernel_rfl) (by decide) h)
  exact @OpensN.imp _ _ Tryz.prog (N + 1) 146 _ KDType _ (fun _ => True) (opens_struct Tryz.underlying146 (by kernel_rfl) (opf_cons rfl (by kernel_rfl) rfl (op9 N) (opf_cons rfl (by kernel_rfl) rfl h107 (opf_nil _ _ _)))) fun F cs y h g => by
    obtain ⟨c0, d0, rfl, r0, ⟨c1, d1, rfl, ⟨A1, b1, rfl, r1⟩, hz⟩⟩ := h
    have hz := hz; cases hz
    cases r0
    exact ⟨⟨y.1, y.2.1⟩, DType.shut r1, trivial⟩
theorem ot146 (N : Nat) : OpensN Tryz.prog N 146 KDType (fun _ => True) := by
  induction N with
  | zero => exact opens_zero _ _ _
  | succ N ih => exact os146 ih
theorem op146 (N : Nat) : OpensN Tryz.prog N 146 KDType (fun _ => True) := ot146 N
theorem op107 (N : Nat) : OpensN Tryz.prog N 107 (Kind.sl 40 KDType) (fun xs => xs.length * 40 ≤ 140737488351232 ∧ ∀ x ∈ xs, (fun _ => True) x) := OpensN.mono (opens_sl Tryz.underlying107 (by kernel_rfl) (by kernel_rfl) (by decide) (op146 N))
theorem op109 (N : Nat) : OpensN Tryz.prog N 109 KDCon (fun x => (fun l => l.length ≤ 140737488351232) x.Name ∧ (fun xs => xs.length * 40 ≤ 140737488351232 ∧ ∀ x ∈ xs, (fun _ => True) x) x.Args ∧ True) := OpensN.mono (OpensN.imp (opens_struct Tryz.underlying109 (by kernel_rfl) (opf_cons rfl (by kernel_rfl) rfl (op9 N) (opf_cons rfl (by kernel_rfl) rfl (op107 N) (opf_nil _ _ _)))) fun F cs y h g => ⟨⟨y.1, y.2.1⟩, h, g⟩)
theorem op104 (N : Nat) : OpensN Tryz.prog N 104 (Kind.sl 40 KDCon) (fun xs => xs.length * 40 ≤ 140737488351232 ∧ ∀ x ∈ xs, (fun x => (fun l => l.length ≤ 140737488351232) x.Name ∧ (fun xs => xs.length * 40 ≤ 140737488351232 ∧ ∀ x ∈ xs, (fun _ => True) x) x.Args ∧ True) x) := OpensN.mono (opens_sl Tryz.underlying104 (by kernel_rfl) (by kernel_rfl) (by decide) (op109 N))
theorem op106 (N : Nat) : OpensN Tryz.prog N 106 KDData (fun x => (fun l => l.length ≤ 140737488351232) x.Name ∧ (fun xs => xs.length * 16 ≤ 140737488351232 ∧ ∀ x ∈ xs, (fun l => l.length ≤ 140737488351232) x) x.Vars ∧ (fun xs => xs.length * 40 ≤ 140737488351232 ∧ ∀ x ∈ xs, (fun x => (fun l => l.length ≤ 140737488351232) x.Name ∧ (fun xs => xs.length * 40 ≤ 140737488351232 ∧ ∀ x ∈ xs, (fun _ => True) x) x.Args ∧ True) x) x.Cons ∧ True) := OpensN.mono (OpensN.imp (opens_struct Tryz.underlying106 (by kernel_rfl) (opf_cons rfl (by kernel_rfl) rfl (op9 N) (opf_cons rfl (by kernel_rfl) rfl (op60 N) (opf_cons rfl (by kernel_rfl) rfl (op104 N) (opf_nil _ _ _))))) fun F cs y h g => ⟨⟨y.1, y.2.1, y.2.2.1⟩, h, g⟩)
theorem op22 (N : Nat) : OpensN Tryz.prog N 22 (Kind.sl 64 KDData) (fun xs => xs.length * 64 ≤ 140737488351232 ∧ ∀ x ∈ xs, (fun x => (fun l => l.length ≤ 140737488351232) x.Name ∧ (fun xs => xs.length * 16 ≤ 140737488351232 ∧ ∀ x ∈ xs, (fun l => l.length ≤ 140737488351232) x) x.Vars ∧ (fun xs => xs.length * 40 ≤ 140737488351232 ∧ ∀ x ∈ xs, (fun x => (fun l => l.length ≤ 140737488351232) x.Name ∧ (fun xs => xs.length * 40 ≤ 140737488351232 ∧ ∀ x ∈ xs, (fun _ => True) x) x.Args ∧ True) x) x.Cons ∧ True) x) := OpensN.mono (opens_sl Tryz.underlying22 (by kernel_rfl) (by kernel_rfl) (by decide) (op106 N))
theorem op3 (N : Nat) : OpensN Tryz.prog N 3 (Kind.int .i64) (fun x => (Lit.int .i64 x).wf = true) := opens_int Tryz.underlying3 N
theorem os139 {N : Nat} (h : OpensN Tryz.prog N 139 KDPat (fun _ => True)) : OpensN Tryz.prog (N + 1) 139 KDPat (fun _ => True) := by
  have h137 : OpensN Tryz.prog N 137 (Kind.sl 56 KDPat) (fun xs => xs.length * 56 ≤ 140737488351232 ∧ ∀ x ∈ xs, (fun _ => True) x) := OpensN.mono (opens_sl Tryz.underlying137 (by kernel_rfl) (by kernel_rfl) (by decide) h)
  exact @OpensN.imp _ _ Tryz.prog (N + 1) 139 _ KDPat _ (fun _ => True) (opens_struct Tryz.underlying139 (by kernel_rfl) (opf_cons rfl (by kernel_rfl) rfl (op3 N) (opf_cons rfl (by kernel_rfl) rfl (op9 N) (opf_cons rfl (by kernel_rfl) rfl (op3 N) (opf_cons rfl (by kernel_rfl) rfl h137 (opf_nil _ _ _)))))) fun F cs y h g => by
    obtain ⟨c0, d0, rfl, r0, ⟨c1, d1, rfl, r1, ⟨c2, d2, rfl, r2, ⟨c3, d3, rfl, ⟨A3, b3, rfl, r3⟩, hz⟩⟩⟩⟩ := h
    have hz := hz; cases hz
    cases r0
    cases r1
    cases r2
    exact ⟨⟨y.1, y.2.1, y.2.2.1, y.2.2.2.1⟩, DPat.shut r3, trivial⟩
theorem ot139 (N : Nat) : OpensN Tryz.prog N 139 KDPat (fun _ => True) := by
  induction N with
  | zero => exact opens_zero _ _ _
  | succ N ih => exact os139 ih
theorem op139 (N : Nat) : OpensN Tryz.prog N 139 KDPat (fun _ => True) := ot139 N
theorem os64 {N : Nat} (h : OpensN Tryz.prog N 64 KDExpr GExpr) : OpensN Tryz.prog (N + 1) 64 KDExpr GExpr := by
  have h61 : OpensN Tryz.prog N 61 (Kind.sl 104 KDExpr) (fun xs => xs.length * 104 ≤ 140737488351232 ∧ ∀ x ∈ xs, GExpr x) := OpensN.mono (opens_sl Tryz.underlying61 (by kernel_rfl) (by kernel_rfl) (by decide) h)
  have oa141 : OpensN Tryz.prog N 141 KDAlt (fun x => (fun _ => True) x.P ∧ GExpr x.E ∧ True) := OpensN.mono (OpensN.imp (opens_struct Tryz.underlying141 (by kernel_rfl) (opf_cons rfl (by kernel_rfl) rfl (op139 N) (opf_cons rfl (by kernel_rfl) rfl h (opf_nil _ _ _)))) fun F cs y h g => ⟨⟨y.1, y.2.1⟩, h, g⟩)
  have h62 : OpensN Tryz.prog N 62 (Kind.sl 160 KDAlt) (fun xs => xs.length * 160 ≤ 140737488351232 ∧ ∀ x ∈ xs, (fun x => (fun _ => True) x.P ∧ GExpr x.E ∧ True) x) := OpensN.mono (opens_sl Tryz.underlying62 (by kernel_rfl) (by kernel_rfl) (by decide) oa141)
  exact @OpensN.imp _ _ Tryz.prog (N + 1) 64 _ KDExpr _ GExpr (opens_struct Tryz.underlying64 (by kernel_rfl) (opf_cons rfl (by kernel_rfl) rfl (op3 N) (opf_cons rfl (by kernel_rfl) rfl (op9 N) (opf_cons rfl (by kernel_rfl) rfl (op3 N) (opf_cons rfl (by kernel_rfl) rfl (op60 N) (opf_cons rfl (by kernel_rfl) rfl h61 (opf_cons rfl (by kernel_rfl) rfl h62 (opf_nil _ _ _)))))))) fun F cs y h g => by
    obtain ⟨c0, d0, rfl, r0, ⟨c1, d1, rfl, r1, ⟨c2, d2, rfl, r2, ⟨c3, d3, rfl, ⟨A3, b3, rfl, r3⟩, ⟨c4, d4, rfl, ⟨A4, b4, rfl, r4⟩, ⟨c5, d5, rfl, ⟨A5, b5, rfl, r5⟩, hz⟩⟩⟩⟩⟩⟩ := h
    have hz := hz; cases hz
    cases r0
    cases r1
    cases r2
    exact ⟨⟨y.1, y.2.1, y.2.2.1, y.2.2.2.1, y.2.2.2.2.1, y.2.2.2.2.2.1⟩, DExpr.shut r3 r4 r5, GExpr.mk (Nat.le_trans (Nat.le_mul_of_pos_right _ (by decide)) (Nat.le_trans g.2.2.2.2.1.1 (by decide))) (Nat.le_trans (Nat.le_mul_of_pos_right _ (by decide)) (Nat.le_trans g.2.2.2.2.2.1.1 (by decide))) g.2.2.2.2.1.2 (fun a ha => (g.2.2.2.2.2.1.2 a ha).2.1)⟩
theorem ot64 (N : Nat) : OpensN Tryz.prog N 64 KDExpr GExpr := by
  induction N with
  | zero => exact opens_zero _ _ _
  | succ N ih => exact os64 ih
theorem op64 (N : Nat) : OpensN Tryz.prog N 64 KDExpr GExpr := ot64 N
theorem op66 (N : Nat) : OpensN Tryz.prog N 66 KDFun (fun x => (fun l => l.length ≤ 140737488351232) x.Name ∧ (fun xs => xs.length * 16 ≤ 140737488351232 ∧ ∀ x ∈ xs, (fun l => l.length ≤ 140737488351232) x) x.Vars ∧ GExpr x.E ∧ True) := OpensN.mono (OpensN.imp (opens_struct Tryz.underlying66 (by kernel_rfl) (opf_cons rfl (by kernel_rfl) rfl (op9 N) (opf_cons rfl (by kernel_rfl) rfl (op60 N) (opf_cons rfl (by kernel_rfl) rfl (op64 N) (opf_nil _ _ _))))) fun F cs y h g => ⟨⟨y.1, y.2.1, y.2.2.1⟩, h, g⟩)
theorem op23 (N : Nat) : OpensN Tryz.prog N 23 (Kind.sl 144 KDFun) (fun xs => xs.length * 144 ≤ 140737488351232 ∧ ∀ x ∈ xs, (fun x => (fun l => l.length ≤ 140737488351232) x.Name ∧ (fun xs => xs.length * 16 ≤ 140737488351232 ∧ ∀ x ∈ xs, (fun l => l.length ≤ 140737488351232) x) x.Vars ∧ GExpr x.E ∧ True) x) := OpensN.mono (opens_sl Tryz.underlying23 (by kernel_rfl) (by kernel_rfl) (by decide) (op66 N))
theorem op25 (N : Nat) : OpensN Tryz.prog N 25 KDCore (fun x => (fun xs => xs.length * 64 ≤ 140737488351232 ∧ ∀ x ∈ xs, (fun x => (fun l => l.length ≤ 140737488351232) x.Name ∧ (fun xs => xs.length * 16 ≤ 140737488351232 ∧ ∀ x ∈ xs, (fun l => l.length ≤ 140737488351232) x) x.Vars ∧ (fun xs => xs.length * 40 ≤ 140737488351232 ∧ ∀ x ∈ xs, (fun x => (fun l => l.length ≤ 140737488351232) x.Name ∧ (fun xs => xs.length * 40 ≤ 140737488351232 ∧ ∀ x ∈ xs, (fun _ => True) x) x.Args ∧ True) x) x.Cons ∧ True) x) x.Datas ∧ (fun xs => xs.length * 144 ≤ 140737488351232 ∧ ∀ x ∈ xs, (fun x => (fun l => l.length ≤ 140737488351232) x.Name ∧ (fun xs => xs.length * 16 ≤ 140737488351232 ∧ ∀ x ∈ xs, (fun l => l.length ≤ 140737488351232) x) x.Vars ∧ GExpr x.E ∧ True) x) x.Funs ∧ True) := OpensN.mono (OpensN.imp (opens_struct Tryz.underlying25 (by kernel_rfl) (opf_cons rfl (by kernel_rfl) rfl (op22 N) (opf_cons rfl (by kernel_rfl) rfl (op23 N) (opf_nil _ _ _)))) fun F cs y h g => ⟨⟨y.1, y.2.1⟩, h, g⟩)
theorem op29 (N : Nat) : OpensN Tryz.prog N 29 (Kind.sl 8 (Kind.int .i64)) (fun xs => xs.length * 8 ≤ 140737488351232 ∧ ∀ x ∈ xs, (fun x => (Lit.int .i64 x).wf = true) x) := OpensN.mono (opens_sl Tryz.underlying29 (by kernel_rfl) (by kernel_rfl) (by decide) (op3 N))
theorem op71 (N : Nat) : OpensN Tryz.prog N 71 KDNode (fun x => (fun x => (Lit.int .i64 x).wf = true) x.Op ∧ (fun l => l.length ≤ 140737488351232) x.Name ∧ (fun x => (Lit.int .i64 x).wf = true) x.N ∧ (fun xs => xs.length * 8 ≤ 140737488351232 ∧ ∀ x ∈ xs, (fun x => (Lit.int .i64 x).wf = true) x) x.Kids ∧ True) := OpensN.mono (OpensN.imp (opens_struct Tryz.underlying71 (by kernel_rfl) (opf_cons rfl (by kernel_rfl) rfl (op3 N) (opf_cons rfl (by kernel_rfl) rfl (op9 N) (opf_cons rfl (by kernel_rfl) rfl (op3 N) (opf_cons rfl (by kernel_rfl) rfl (op29 N) (opf_nil _ _ _)))))) fun F cs y h g => ⟨⟨y.1, y.2.1, y.2.2.1, y.2.2.2.1⟩, h, g⟩)
theorem op26 (N : Nat) : OpensN Tryz.prog N 26 (Kind.sl 56 KDNode) (fun xs => xs.length * 56 ≤ 140737488351232 ∧ ∀ x ∈ xs, (fun x => (fun x => (Lit.int .i64 x).wf = true) x.Op ∧ (fun l => l.length ≤ 140737488351232) x.Name ∧ (fun x => (Lit.int .i64 x).wf = true) x.N ∧ (fun xs => xs.length * 8 ≤ 140737488351232 ∧ ∀ x ∈ xs, (fun x => (Lit.int .i64 x).wf = true) x) x.Kids ∧ True) x) := OpensN.mono (opens_sl Tryz.underlying26 (by kernel_rfl) (by kernel_rfl) (by decide) (op71 N))
theorem op28 (N : Nat) : OpensN Tryz.prog N 28 KDGraph (fun x => (fun x => (Lit.int .i64 x).wf = true) x.Root ∧ (fun xs => xs.length * 56 ≤ 140737488351232 ∧ ∀ x ∈ xs, (fun x => (fun x => (Lit.int .i64 x).wf = true) x.Op ∧ (fun l => l.length ≤ 140737488351232) x.Name ∧ (fun x => (Lit.int .i64 x).wf = true) x.N ∧ (fun xs => xs.length * 8 ≤ 140737488351232 ∧ ∀ x ∈ xs, (fun x => (Lit.int .i64 x).wf = true) x) x.Kids ∧ True) x) x.Nodes ∧ True) := OpensN.mono (OpensN.imp (opens_struct Tryz.underlying28 (by kernel_rfl) (opf_cons rfl (by kernel_rfl) rfl (op3 N) (opf_cons rfl (by kernel_rfl) rfl (op26 N) (opf_nil _ _ _)))) fun F cs y h g => ⟨⟨y.1, y.2.1⟩, h, g⟩)
end Go.Proofs.YtjkcinpmbgcgpaaGreatDoor
