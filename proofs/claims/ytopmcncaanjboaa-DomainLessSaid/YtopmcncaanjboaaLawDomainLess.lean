/- DomainLess answers true for every problem and limit: narrowing again changes nothing, one limit more leaves no value more, the order of the limits does not matter; no condition. -/
import Derived.Test.YtopmcncaanjboaaRows
import Derived.Test.YtopmcncaanjboaaWLc
import Derived.Test.YtopmcncaanjboaaDmJL
import Derived.Test.YtopmcncaanjboaaOpL
import Derived.WalkKit
import Derived.ProofKit
import Derived.OpenShut
import Derived.ShutString
import Derived.ChangeOld
import Derived.Below
import Derived.SizedLaws
namespace Go.Proofs.Ytopmcncaanjboaa.domainLess
open Go.ChangeShapes Go.WideShapes Go.ChangeAt Go.RowKit
open Go.ChangeMaps (open_string shut_string)
open Go Go.Sy
set_option linter.unusedVariables false
theorem own : ownKnob Try.prog.godebug = none := by kernel_rfl
theorem laidOut : laidOutB Try.prog = true := by kernel_rfl
set_option maxRecDepth 100000 in
theorem lifted (os : Os) (started : os.Started) (H : Type) (enc : TypeId × Value → H) :
    ReturnsInHanded {} Try.checked os 3 .any (Rows.domainLessSpec.pre6 enc Try.prog Try.f3 Rows.domainLessRow.domain false) (Rows.domainLessSpec.post enc Try.prog Try.f3 false true false false) := by
  refine returnsInHanded_of_change_sized (C := Try.checked) own started (by kernel_rfl) Try.func3
    (ChangeSpec.witness6 (enc := enc) (C := Try.checked) false ⟨#[], #[.agg #[.slice none 0 0, .slice none 0 0], .agg #[.int .i64 0, .slice none 0 0, .slice none 0 0, .int .i64 0, .slice none 0 0]], []⟩ 8 (by kernel_rfl) (by kernel_rfl) (by kernel_rfl) (by kernel_rfl)) ?_
  intro W base args ds gs before hval0 hW hcnd hsz0 _
  have hsz : (DataW.weightsEach Try.prog (Try.f3.params.toList ++ Rows.domainLessSpec.plain.varTypes Try.prog) (ds ++ gs)).all (· ≤ reachBytes) = true := hsz0
  have hval : ∀ (j : Nat) t v, Try.f3.params[j]? = some t → args[j]? = some v → Value.okWide Try.prog W .any base t v := hval0
  have hW' := hW
  obtain ⟨p, q, hA0, hV, rfl, hfz, hnd⟩ := hW
  have hA : DataW.TrodAll enc Try.prog W 0 (fun _ => true) true Try.f3.params.toList args.toList ds p := hA0
  rw [Try.params3] at hA hval hsz
  obtain ⟨v0, vs0, d0, ds0, p0, q0, hargs, rfl, rfl, h0, r0⟩ := trodAll_cons hA
  obtain ⟨v1, vs1, d1, ds1, p1, q1, rfl, rfl, rfl, h1, r1⟩ := trodAll_cons r0
  obtain ⟨rfl, rfl, rfl⟩ := trodAll_nil r1
  obtain rfl : args = #[v0, v1] := by cases args; simp_all
  obtain ⟨rfl, rfl⟩ := trodVars_none hV
  have lt0 : ∀ x ∈ p0, x.block < W.heap.size := by obtain ⟨m, hm⟩ := h0; exact DataW.trod_lt m _ _ _ hm
  obtain ⟨cs_0, rfl, hz_0⟩ := okWide_struct Try.underlying25 (hval 0 25 v0 rfl rfl)
  obtain ⟨a0, hR0, hG0⟩ := Opens.arg op25 h0 hsz (j := 0) rfl rfl
  obtain ⟨A0_0, c0_0, A0_1, c0_1, hc0, hF0_0, hF0_1⟩ := DProblem.opn hR0
  have hv0 := agg_of (v := .agg cs_0) rfl hc0
  cases hv0
  have lt1 : ∀ x ∈ p1, x.block < W.heap.size := by obtain ⟨m, hm⟩ := h1; exact DataW.trod_lt m _ _ _ hm
  obtain ⟨cs_1, rfl, hz_1⟩ := okWide_struct Try.underlying28 (hval 1 28 v1 rfl rfl)
  obtain ⟨a1, hR1, hG1⟩ := Opens.arg op28 h1 hsz (j := 1) rfl rfl
  obtain ⟨A1_0, c1_0, A1_1, c1_1, A1_2, c1_2, hc1, hF1_0, hF1_1, hF1_2⟩ := DLimit.opn hR1
  have hv1 := agg_of (v := .agg cs_1) rfl hc1
  cases hv1
  obtain ⟨g, hm⟩ : ∃ g, m_law11_DomainLess g a0 a1 = some true := m_less 0 a0 a1 hG0.2.1.1
  clear hA0 hval0 hsz0 hsz
  refine (CallSp.below (m_law11_DomainLess_sp hF0_0 hF0_1 hF1_0 hF1_1 hF1_2 hm)).mono fun e W' ⟨he, bel⟩ => ?_
  obtain rfl := of_bool_post he
  exact ⟨_, rfl, _, _, _, [], _, [], hW', trodAll_mk1 (shut_bool Try.underlying4 _), (trodAll_cons_mk (Below.trod laidOut (by kernel_rfl) (of_decide_eq_true (by kernel_rfl)) h0 bel lt0) (trodAll_cons_mk (Below.trod laidOut (by kernel_rfl) (of_decide_eq_true (by kernel_rfl)) h1 bel lt1) trodAll_mk0)), rfl, bel.frame _, fun h => by cases h⟩
theorem over : Rows.domainLessRow.holds Try.pinned (OpenSpec.ofChange Rows.domainLessSpec) :=
  OpenClaim.holds_of_wide 3 Try.f3 rfl rfl rfl rfl rfl rfl rfl ⟨rfl, rfl, rfl, rfl, rfl⟩ rfl rfl rfl rfl rfl (by kernel_rfl) Try.func3 (by kernel_rfl)
    (of_decide_eq_true (by kernel_rfl)) (by unfold Func.isWrapper; first | (rw [if_pos (by decide +kernel)]; kernel_rfl) | (rw [if_neg (by decide +kernel)]; exact ⟨rfl, rfl⟩))
    (fun os started H enc _ => lifted os started H enc)
theorem proved : Rows.DomainLessSaid := over
#print axioms proved
end Go.Proofs.Ytopmcncaanjboaa.domainLess
namespace Go.Proofs.Ytopmcncaanjboaa
/-- The row, under a short name, for the claim. -/
theorem domainLess_holds : Rows.DomainLessSaid := domainLess.proved
end Go.Proofs.Ytopmcncaanjboaa
