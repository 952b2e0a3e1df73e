/- What codes have a text, by the reference; and whole lists of codes. -/
import Derived.Test.YtefclodjekeeiaaGreatDoorCrE
namespace Go.Proofs.YtefclodjekeeiaaGreatDoor
open Go Go.Mir
set_option linter.unusedVariables false
set_option linter.unusedSimpArgs false
theorem r_isWritten (g : Nat) (x : DInstr) : m_ref14_isWritten g x = some (instrOk x) := by
  unfold m_ref14_isWritten
  refine Gives.eq (Gives.bind (fun z => z = decide (x.N = 0 ∧ x.Name = [] ∧ x.Args = [])) ?_ fun z hz => ?_)
  · simp only [len0]
    by_cases h1 : x.Name = [] <;> by_cases h2 : x.Args = [] <;> by_cases h4 : x.N = 0 <;> simp [h1, h2, h4, Gives]
  subst hz
  refine Gives.jx (fun _ => instrOk x = false) ?_ (fun _ h => Gives.some h.symm)
  unfold instrOk
  by_cases c1 : x.Op = 1
  · refine Gives.pos c1 ?_
    rw [if_pos c1]
    refine G_all (bad := (.inr false : Unit ⊕ Bool)) x.Cases caseOk (fun i j hx hi => ?_) ?_ (fun h => ?_) (fun h => ?_)
    · refine Gives.pos (by omega) (Gives.bindE hx (Gives.bind (fun z => z = !caseOk j) ?_ (fun z hz => ?_)))
      · simp only [r_isNumber, r_isInt, r_IsGreat, Option.bind_some]
        unfold caseOk
        by_cases h1 : j.Name = []
        · cases h2 : intOk j.N <;> cases h3 : numOk j.To <;> simp [h1, Gives]
        · by_cases h2 : j.N = 0 <;> cases h3 : numOk j.To <;> cases h4 : nameS 65 90 j.Name <;> simp [h1, h2, Gives]
      · subst hz
        cases caseOk j with
        | true => exact Gives.neg (by decide) (Gives.some rfl)
        | false => exact Gives.pos rfl (Gives.some rfl)
    · rw [if_neg (by omega)]
    · simp only [r_isNumber, Option.bind_some]
      rw [h]
      by_cases h1 : x.Name = [] <;> by_cases h2 : x.Args = [] <;> by_cases h4 : x.N = 0 <;> cases h5 : numOk x.A <;> simp [h1, h2, h4, Gives, Two]
    · show false = _
      rw [h, Bool.and_false]
  refine Gives.neg c1 ?_
  rw [if_neg c1]
  by_cases c4 : x.Op = 4
  · refine Gives.pos c4 ?_
    rw [if_neg (show ¬ (x.Op = 3 ∨ x.Op = 5) by omega), if_pos c4]
    simp only [len0, r_isNumber, Option.bind_some]
    by_cases h1 : x.Name = [] <;> by_cases h2 : x.Args = [] <;> by_cases h3 : x.Cases = [] <;> by_cases h4 : x.N = 0 <;> by_cases h6 : x.B = 0 <;> cases h5 : numOk x.A <;> simp [h1, h2, h3, h4, h6, Gives, Two]
  refine Gives.neg c4 ?_
  by_cases c3 : x.Op = 3 ∨ x.Op = 5
  · refine Gives.bindE (a := true) (by rcases c3 with h | h <;> simp [h]) (Gives.pos rfl ?_)
    rw [if_pos c3]
    simp only [len0, Option.bind_some]
    by_cases h1 : x.Name = [] <;> by_cases h2 : x.Args = [] <;> by_cases h3 : x.Cases = [] <;> by_cases h4 : x.N = 0 <;> by_cases h5 : x.B = 0 <;> by_cases h6 : x.A = 0 <;> simp [h1, h2, h3, h4, h5, h6, Gives, Two]
  refine Gives.bindE (a := false) (by
      have h3 : ¬ x.Op = 3 := fun h => c3 (.inl h)
      have h5 : ¬ x.Op = 5 := fun h => c3 (.inr h)
      simp [h3, h5]) (Gives.neg (by decide) ?_)
  rw [if_neg c3, if_neg c4]
  by_cases c2 : x.Op = 2
  case neg =>
    refine Gives.neg c2 (Gives.some ?_)
    rw [if_neg c2]
    exact (rfl : false = false)
  refine Gives.pos c2 ?_
  rw [if_pos c2]
  refine Gives.bind (fun z => z = !(decide (x.Cases = [] ∧ x.B = 0) && x.Args.all numOk && decide (x.N = 2 ∨ x.A = 0))) ?_ fun z hz => ?_
  · simp only [r_areNumbers, Option.bind_some]
    have hc : ((x.Cases.length : Nat) : Int) > 0 ↔ ¬ x.Cases = [] := by rw [← len0]; omega
    simp only [hc]
    by_cases h1 : x.Cases = [] <;> by_cases h2 : x.B = 0 <;> cases h3 : x.Args.all numOk <;> by_cases h4 : x.N = 2 <;> by_cases h5 : x.A = 0 <;> simp [h1, h2, h4, h5, Gives]
  subst hz
  cases hz : (decide (x.Cases = [] ∧ x.B = 0) && x.Args.all numOk && decide (x.N = 2 ∨ x.A = 0)) with
  | false =>
    refine Gives.pos rfl (Gives.some ?_)
    show false = _
    cases h1 : (decide (x.Cases = [] ∧ x.B = 0) && x.Args.all numOk) with
    | false => rfl
    | true =>
      rw [h1, Bool.true_and] at hz
      have hz := of_decide_eq_false hz
      rw [Bool.true_and]
      unfold nodeOk
      have n2 : ¬ x.N = 2 := fun h => hz (.inl h)
      have nA : ¬ x.A = 0 := fun h => hz (.inr h)
      simp [n2, nA]
  | true =>
    have hz' := hz
    rw [Bool.and_eq_true, Bool.and_eq_true] at hz'
    obtain ⟨⟨hz1, hz2⟩, hz3⟩ := hz'
    refine Gives.neg (by decide) ?_
    rw [hz1, hz2, Bool.true_and, Bool.true_and]
    have hA := of_decide_eq_true hz3
    unfold nodeOk
    simp only [r_IsGreat, r_IsCore, r_isInt, len0, Option.bind_some]
    by_cases h1 : x.N = 1
    · have : x.A = 0 := by omega
      simp [h1, this, Gives, Two]
    by_cases h3 : x.N = 3
    · have : x.A = 0 := by omega
      simp [h3, this, Gives, Two]
    by_cases h2 : x.N = 2
    · by_cases hn : x.Name = [] <;> by_cases ha : x.Args = [] <;> simp [h2, hn, ha, Gives, Two]
    have hA0 : x.A = 0 := by omega
    by_cases h4 : x.N = 4
    · by_cases hn : x.Name = [] <;> simp [h4, hn, hA0, Gives, Two]
    by_cases h5 : x.N = 5
    · by_cases hn : x.Name = [] <;> simp [h5, hn, hA0, Gives, Two]
    by_cases h7 : x.N = 7
    · by_cases hn : x.Name = [] <;> by_cases ha : x.Args = [] <;> simp [h7, hn, ha, hA0, Gives, Two]
    simp [h1, h2, h3, h4, h5, h7, Gives, Two]
/-! ### whole lists -/
def codeOk (f : DCode) : Bool := coreS f.Name && numOk f.Arity && f.L.all instrOk
def bigC (f : DCode) : Bool := decide (f.L.length ≤ 400)
def bigS (l : List DCode) : Bool := decide (l.length > 120) || !(l.all bigC)
theorem m_large (g : Nat) (l : List DCode) : m_code_large g l = some (bigS l) := by
  unfold m_code_large bigS
  by_cases h : ((l.length : Nat) : Int) > 120
  · rw [if_pos h, decide_eq_true (show l.length > 120 by omega)]; rfl
  · rw [if_neg h, decide_eq_false (show ¬ l.length > 120 by omega), Bool.false_or]
    unfold m_api_Code m_api_Code_2 m_code_large_f1
    have h : Gives (jx (J := Unit) (A := Int) (
    Mir.Loop (S := Nat) (Q := (Unit) ⊕ (Int)) (0 : Nat) fun s9 =>
      if ((s9 : Nat) : Int) < ((l.length : Nat) : Int) then
        ((l)[s9]?).bind fun x16 =>
        (some (decide (((x16.L.length : Nat) : Int) > 400))).bind fun q27 =>
        if q27 = true then
          some (.inr (.inr ((s9 : Nat) : Int)))
        else
          some (.inl (s9 + 1))
      else
        some (.inr (.inl ()))
  ) fun z2 =>
  some (-1)) (fun q => decide (q ≥ 0) = !(l.all bigC)) := by
      refine G_allB l bigC (B := fun q => q ≥ 0) (fun i x hx hi => ?_) ?_ (fun h => Gives.some ?_) (fun h b hB => ?_)
      · refine Gives.pos (by omega) (Gives.bindE hx (Gives.bindE rfl ?_))
        by_cases hb : x.L.length ≤ 400
        · rw [show bigC x = true from decide_eq_true hb]
          exact Gives.neg (by simp; omega) (Gives.some rfl)
        · rw [show bigC x = false from decide_eq_false hb]
          exact Gives.pos (by simp; omega) (Gives.some ⟨_, rfl, by omega⟩)
      · rw [if_neg (by omega)]
      · rw [h]; rfl
      · rw [h, decide_eq_true hB]; rfl
    obtain ⟨q, h1, h2⟩ := h
    rw [h1, Option.bind_some, Option.bind_some, Option.bind_some, h2]
theorem r_sizes (g : Nat) (l : List DCode) : m_ref14_sizes g l = some (if bigS l = true then 3 else 0) := by
  unfold m_ref14_sizes bigS
  by_cases h : ((l.length : Nat) : Int) > 120
  · rw [if_pos h, decide_eq_true (show l.length > 120 by omega)]; rfl
  · rw [if_neg h, decide_eq_false (show ¬ l.length > 120 by omega), Bool.false_or]
    refine Gives.eq (G_all (bad := (3 : Int)) l bigC (fun i x hx hi => ?_) ?_ (fun h => Gives.some ?_) (fun h => ?_))
    · refine Gives.pos (by omega) (Gives.bindE hx ?_)
      by_cases hb : x.L.length ≤ 400
      · rw [show bigC x = true from decide_eq_true hb]
        exact Gives.neg (by omega) (Gives.some rfl)
      · rw [show bigC x = false from decide_eq_false hb]
        exact Gives.pos (by omega) (Gives.some rfl)
    · rw [if_neg (by omega)]
    · rw [h]; rfl
    · rw [h]; rfl
theorem m_anyBad (g : Nat) (l : List DInstr) : m_api_Instr g l = some (!(l.all instrOk)) := by
  unfold m_api_Instr m_api_Instr_2
  have h : Gives (jx (J := Unit) (A := Int) (
    Mir.Loop (S := Nat) (Q := (Unit) ⊕ (Int)) (0 : Nat) fun s9 =>
      if ((s9 : Nat) : Int) < ((l.length : Nat) : Int) then
        ((l)[s9]?).bind fun x16 =>
        (m_code_printed_f1 g x16).bind fun q31 =>
        if q31 = true then
          some (.inr (.inr ((s9 : Nat) : Int)))
        else
          some (.inl (s9 + 1))
      else
        some (.inr (.inl ()))
  ) fun z2 =>
  some (-1)) (fun q => decide (q ≥ 0) = !(l.all instrOk)) := by
    refine G_allB l instrOk (B := fun q => q ≥ 0) (fun i x hx hi => ?_) ?_ (fun h => Gives.some ?_) (fun h b hB => ?_)
    · refine Gives.pos (by omega) (Gives.bindE hx (Gives.bindE (a := !instrOk x) (by unfold m_code_printed_f1; rw [m_isPrinted]; rfl) ?_))
      cases instrOk x with
      | true => exact Gives.neg (by decide) (Gives.some rfl)
      | false => exact Gives.pos rfl (Gives.some ⟨_, rfl, by omega⟩)
    · rw [if_neg (by omega)]
    · rw [h]; rfl
    · rw [h, decide_eq_true hB]; rfl
  obtain ⟨q, h1, h2⟩ := h
  rw [h1, Option.bind_some, h2]
theorem m_printed (g : Nat) (l : List DCode) : m_code_printed g l = some (if bigS l = true then 3 else if l.all codeOk = true then 0 else 1) := by
  unfold m_code_printed
  rw [m_large, Option.bind_some]
  by_cases hb : bigS l = true
  · rw [if_pos hb, if_pos hb]
  · rw [if_neg hb, if_neg hb]
    refine Gives.eq (G_all (bad := (1 : Int)) l codeOk (fun i x hx hi => ?_) ?_ (fun h => Gives.some ?_) (fun h => ?_))
    · refine Gives.pos (by omega) (Gives.bindE hx (Gives.bind (fun z => z = !codeOk x) ?_ (fun z hz => ?_)))
      · rw [m_isName, if_neg (by decide)]
        simp only [m_isNumber, m_anyBad, Option.bind_some, List.all_cons, List.all_nil, Bool.and_true]
        unfold codeOk
        cases h1 : coreS x.Name <;> cases h2 : numOk x.Arity <;> simp [Gives]
      · subst hz
        cases codeOk x with
        | true => exact Gives.neg (by decide) (Gives.some rfl)
        | false => exact Gives.pos rfl (Gives.some rfl)
    · rw [if_neg (by omega)]
    · rw [h]; rfl
    · rw [h]; rfl
theorem r_isTold (g : Nat) (l : List DCode) : m_ref14_isTold g l = some (l.all codeOk) := by
  unfold m_ref14_isTold
  refine Gives.eq (G_all (bad := false) l codeOk (fun i x hx hi => ?_) ?_ (fun h => Gives.some h.symm) (fun h => h.symm))
  · refine Gives.pos (by omega) (Gives.jx (fun _ => codeOk x = true) ?_ (fun _ h => Gives.some (by rw [if_pos h])))
    refine Gives.bind (fun z => z = !(coreS x.Name && numOk x.Arity)) ?_ (fun z hz => ?_)
    · refine Gives.bindE hx (Gives.bindE (r_IsCore g x.Name) (Gives.ite (fun c => Gives.bindE hx (Gives.bindE (r_isNumber g _) (Gives.some ?_))) (fun c => Gives.some ?_)))
      · rw [c, Bool.true_and]
      · have : coreS x.Name = false := by simpa using c
        rw [this]; rfl
    · subst hz
      unfold codeOk
      cases hn : (coreS x.Name && numOk x.Arity) with
      | false => exact Gives.pos rfl (Gives.some rfl)
      | true =>
        refine Gives.neg (by decide) ?_
        rw [Bool.true_and]
        refine Gives.loop (fun k => k ≤ x.L.length ∧ x.L.all instrOk = (x.L.drop k).all instrOk) (fun k => x.L.length - k) ⟨Nat.zero_le _, rfl⟩ ?_
        rintro k ⟨k1, k2⟩
        refine Gives.bindE hx (Gives.ite (fun c => ?_) (fun c => Gives.some ?_))
        · have hk : k < x.L.length := by omega
          have hy := List.getElem?_eq_getElem hk
          rw [List.drop_eq_getElem_cons hk, List.all_cons] at k2
          generalize x.L[k] = y at *
          refine Gives.bindE hx (Gives.bindE hy (Gives.bindE (r_isWritten g y) (Gives.ite (fun c2 => Gives.some ?_) (fun c2 => Gives.some ?_))))
          · rw [c2, Bool.true_and] at k2
            exact ⟨⟨by omega, k2⟩, by omega⟩
          · have : instrOk y = false := by simpa using c2
            rw [this, Bool.false_and] at k2
            show (if x.L.all instrOk = true then _ else _ : Prop)
            rw [k2, if_neg (by decide)]
        · rw [List.drop_of_length_le (by omega)] at k2
          exact k2
  · rw [if_neg (by omega)]
end Go.Proofs.YtefclodjekeeiaaGreatDoor
