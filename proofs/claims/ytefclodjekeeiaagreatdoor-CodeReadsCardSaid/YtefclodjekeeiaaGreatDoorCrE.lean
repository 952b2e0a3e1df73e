/- What codes have a text: both sides tell it the same. -/
import Derived.Test.YtefclodjekeeiaaGreatDoorCrN
namespace Go.Proofs.YtefclodjekeeiaaGreatDoor
open Go Go.Mir
set_option linter.unusedVariables false
set_option linter.unusedSimpArgs false
/-- A loop that goes through a list as long as P holds; what is told otherwise has B. -/
theorem G_allB {α A : Type} (xs : List α) (P : α → Bool) {B : A → Prop} {body : Nat → Option (Nat ⊕ (Unit ⊕ A))} {k : Unit → Option A} {R : A → Prop}
    (h : ∀ i x, xs[i]? = some x → i < xs.length → Gives (body i) (fun o => if P x = true then o = .inl (i + 1) else ∃ b, o = .inr (.inr b) ∧ B b))
    (he : body xs.length = some (.inr (.inl ()))) (hk : xs.all P = true → Gives (k ()) R) (hb : xs.all P = false → ∀ b, B b → R b) : Gives (jx (Mir.Loop 0 body) k) R := by
  refine Gives.jx (fun _ => xs.all P = true) (Gives.loop (fun i => i ≤ xs.length ∧ xs.all P = (xs.drop i).all P) (fun i => xs.length - i) ⟨Nat.zero_le _, rfl⟩ fun i hi => ?_) (fun _ h => hk h)
  rcases Nat.lt_or_ge i xs.length with h1 | h1
  · have hx := List.getElem?_eq_getElem h1
    have h2 := hi.2
    rw [List.drop_eq_getElem_cons h1, List.all_cons] at h2
    refine (h i _ hx h1).mono fun o ho => ?_
    by_cases c : P xs[i] = true
    · rw [if_pos c] at ho
      subst ho
      rw [c, Bool.true_and] at h2
      exact ⟨⟨h1, h2⟩, by omega⟩
    · rw [if_neg c] at ho
      obtain ⟨b, rfl, hB⟩ := ho
      have c' : P xs[i] = false := by simpa using c
      rw [c', Bool.false_and] at h2
      exact hb h2 b hB
  · obtain rfl : i = xs.length := by omega
    have h2 := hi.2
    rw [List.drop_of_length_le (Nat.le_refl _)] at h2
    exact ⟨_, he, h2⟩
theorem len0 {α : Type} {l : List α} : ((l.length : Nat) : Int) = 0 ↔ l = [] := ⟨fun h => List.eq_nil_of_length_eq_zero (by omega), fun h => by subst h; rfl⟩
def numOk (n : Int) : Bool := decide (0 ≤ n ∧ n ≤ 400)
def intOk (n : Int) : Bool := decide (-1000000000 ≤ n ∧ n ≤ 1000000000)
theorem m_numf (g : Nat) (n : Int) : m_code_isNumber_f1 g n = some (!numOk n) := by
  unfold m_code_isNumber_f1 numOk
  by_cases h : n < 0
  · rw [if_pos h, decide_eq_false (by omega)]; rfl
  · rw [if_neg h, Option.bind_some, ← decide_not]
    exact congrArg some (decide_eq_decide.2 (by omega))
theorem m_isNumber (g : Nat) (l : List Int) : m_code_isNumber g l = some (l.all numOk) := by
  unfold m_code_isNumber m_slices_ContainsFunc_int_int m_slices_IndexFunc_int_int
  have h : Gives (jx (J := Unit) (A := Int) (
    Mir.Loop (S := Nat) (Q := (Unit) ⊕ (Int)) (0 : Nat) fun s9 =>
      if ((s9 : Nat) : Int) < ((l.length : Nat) : Int) then
        ((l)[s9]?).bind fun x16 =>
        (m_code_isNumber_f1 g x16).bind fun q23 =>
        if q23 = true then
          some (.inr (.inr ((s9 : Nat) : Int)))
        else
          some (.inl (s9 + 1))
      else
        some (.inr (.inl ()))
  ) fun z2 =>
  some (-1)) (fun q => (!decide (q ≥ 0)) = l.all numOk) := by
    refine G_allB l numOk (B := fun q => q ≥ 0) (fun i x hx hi => ?_) ?_ (fun h => Gives.some ?_) (fun h b hB => ?_)
    · refine Gives.pos (by omega) (Gives.bindE hx (Gives.bindE (m_numf g x) ?_))
      cases numOk x with
      | true => exact Gives.neg (by decide) (Gives.some rfl)
      | false => exact Gives.pos rfl (Gives.some ⟨_, rfl, by omega⟩)
    · rw [if_neg (by omega)]
    · rw [h]; rfl
    · rw [h, decide_eq_true hB]; rfl
  obtain ⟨q, h1, h2⟩ := h
  rw [h1, Option.bind_some, Option.bind_some, h2]
theorem r_isNumber (g : Nat) (n : Int) : m_ref14_isNumber g n = some (numOk n) := by
  unfold m_ref14_isNumber numOk
  by_cases h : n ≥ 0
  · rw [if_pos h, Option.bind_some]
    exact congrArg some (decide_eq_decide.2 (by omega))
  · rw [if_neg h, decide_eq_false (by omega)]; rfl
theorem m_isInt (g : Nat) (n : Int) : m_code_isInt g n = some (intOk n) := by
  unfold m_code_isInt intOk
  by_cases h : n ≥ -1000000000
  · rw [if_pos h, Option.bind_some]
    exact congrArg some (decide_eq_decide.2 (by omega))
  · rw [if_neg h, decide_eq_false (by omega)]; rfl
theorem r_isInt (g : Nat) (n : Int) : m_ref14_isInt g n = some (intOk n) := by
  unfold m_ref14_isInt intOk
  by_cases h : n ≥ -1000000000
  · rw [if_pos h, Option.bind_some]
    exact congrArg some (decide_eq_decide.2 (by omega))
  · rw [if_neg h, decide_eq_false (by omega)]; rfl
theorem r_areNumbers (g : Nat) (l : List Int) : m_ref14_areNumbers g l = some (l.all numOk) := by
  unfold m_ref14_areNumbers
  refine Gives.eq (G_all (bad := false) l numOk (fun i x hx hi => ?_) ?_ (fun h => Gives.some h.symm) (fun h => h.symm))
  · refine Gives.pos (by omega) (Gives.bindE hx (Gives.bindE (r_isNumber g x) ?_))
    cases numOk x with
    | true => exact Gives.pos rfl (Gives.some rfl)
    | false => exact Gives.neg (by decide) (Gives.some rfl)
  · rw [if_neg (by omega)]
def nodeOk (x : DInstr) : Bool :=
  if x.N = 1 then decide (x.A = 0) && nameS 65 90 x.Name
  else if x.N = 3 then decide (x.A = 0) && coreS x.Name
  else if x.N = 2 then decide (x.Name = [] ∧ x.Args = []) && intOk x.A
  else if x.N = 4 ∨ x.N = 5 then decide (x.Name = [] ∧ x.A = 0)
  else if x.N = 7 then decide (x.Name = [] ∧ x.A = 0 ∧ x.Args = [])
  else false
def caseOk (j : DJump) : Bool := numOk j.To && (if j.Name = [] then intOk j.N else (decide (j.N = 0) && nameS 65 90 j.Name))
def instrOk (x : DInstr) : Bool :=
  if x.Op = 1 then decide (x.Name = [] ∧ x.Args = [] ∧ x.N = 0) && (numOk x.A && numOk x.B) && x.Cases.all caseOk
  else if x.Op = 3 ∨ x.Op = 5 then decide (x.Name = [] ∧ x.Args = [] ∧ x.Cases = [] ∧ x.N = 0 ∧ x.B = 0 ∧ x.A = 0)
  else if x.Op = 4 then decide (x.Name = [] ∧ x.Args = [] ∧ x.Cases = [] ∧ x.N = 0 ∧ x.B = 0) && numOk x.A
  else if x.Op = 2 then decide (x.Cases = [] ∧ x.B = 0) && x.Args.all numOk && nodeOk x
  else false
theorem m_isNodeText (g : Nat) (x : DInstr) : m_code_isNodeText g x = some (nodeOk x) := by
  unfold m_code_isNodeText nodeOk
  simp only [m_isName, m_isInt, Option.bind_some, len0]
  by_cases h1 : x.N = 1
  · simp only [if_pos h1]
    by_cases hA : x.A = 0 <;> simp [hA]
  by_cases h3 : x.N = 3
  · simp only [if_neg h1, if_pos h3]
    by_cases hA : x.A = 0 <;> simp [hA]
  by_cases h2 : x.N = 2
  · simp only [if_neg h1, if_neg h3, if_pos h2]
    by_cases hn : x.Name = [] <;> by_cases ha : x.Args = [] <;> simp [hn, ha]
  by_cases h4 : x.N = 4
  · simp only [if_neg h1, if_neg h3, if_neg h2, h4]
    by_cases hn : x.Name = [] <;> by_cases hA : x.A = 0 <;> simp [hn, hA]
  by_cases h5 : x.N = 5
  · simp only [if_neg h1, if_neg h3, if_neg h2, h5]
    by_cases hn : x.Name = [] <;> by_cases hA : x.A = 0 <;> simp [hn, hA]
  by_cases h7 : x.N = 7
  · simp only [if_neg h1, if_neg h3, if_neg h2, h7]
    by_cases hn : x.Name = [] <;> by_cases hA : x.A = 0 <;> by_cases ha : x.Args = [] <;> simp [hn, hA, ha]
  simp [h1, h2, h3, h4, h5, h7]
theorem nameS_nil {lo hi : Int} : nameS lo hi [] = false := by unfold nameS; simp [headIn]
theorem m_isPrinted (g : Nat) (x : DInstr) : m_code_isPrinted g x = some (instrOk x) := by
  unfold m_code_isPrinted
  rw [m_isNumber, Option.bind_some]
  by_cases hA : x.Args.all numOk = true
  case neg =>
    rw [if_neg hA]
    have hne : x.Args ≠ [] := fun h => hA (by rw [h]; rfl)
    have hA' : x.Args.all numOk = false := by simpa using hA
    unfold instrOk
    rw [hA', decide_eq_false (fun h : x.Name = [] ∧ x.Args = [] ∧ x.N = 0 => hne h.2.1), decide_eq_false (fun h : x.Name = [] ∧ x.Args = [] ∧ x.Cases = [] ∧ x.N = 0 ∧ x.B = 0 ∧ x.A = 0 => hne h.2.1), decide_eq_false (fun h : x.Name = [] ∧ x.Args = [] ∧ x.Cases = [] ∧ x.N = 0 ∧ x.B = 0 => hne h.2.1)]
    simp
  refine Gives.eq (Gives.pos hA (Gives.bind (fun z => z = decide (x.Name = [] ∧ x.Args = [] ∧ x.Cases = [] ∧ x.N = 0 ∧ x.B = 0)) ?_ fun z hz => ?_))
  · simp only [len0]
    by_cases h1 : x.Name = [] <;> by_cases h2 : x.Args = [] <;> by_cases h3 : x.Cases = [] <;> by_cases h4 : x.N = 0 <;> simp [h1, h2, h3, h4, Gives]
  · subst hz
    unfold instrOk
    refine Gives.ite (fun c1 => ?_) (fun c1 => ?_)
    · rw [if_pos c1]
      refine Gives.bind (fun z => z = (decide (x.Name = [] ∧ x.Args = [] ∧ x.N = 0) && (numOk x.A && numOk x.B))) ?_ fun z hz => ?_
      · simp only [len0, m_isNumber, Option.bind_some]
        by_cases h1 : x.Name = [] <;> by_cases h2 : x.Args = [] <;> by_cases h4 : x.N = 0 <;> simp [h1, h2, h4, Gives]
      · subst hz
        generalize (decide (x.Name = [] ∧ x.Args = [] ∧ x.N = 0) && (numOk x.A && numOk x.B)) = z0
        refine Gives.bind (fun z => z = (z0 && x.Cases.all caseOk)) ?_ (fun z hz => Gives.some hz)
        refine Gives.loop (fun s => s.2 ≤ x.Cases.length ∧ (z0 && x.Cases.all caseOk) = (s.1 && (x.Cases.drop s.2).all caseOk)) (fun s => x.Cases.length - s.2) ⟨Nat.zero_le _, rfl⟩ ?_
        rintro ⟨b, i⟩ ⟨i1, i2⟩
        dsimp only at i1 i2 ⊢
        refine Gives.ite (fun c => ?_) (fun c => Gives.some ?_)
        · have hi : i < x.Cases.length := by omega
          have hx := List.getElem?_eq_getElem hi
          rw [List.drop_eq_getElem_cons hi, List.all_cons] at i2
          generalize x.Cases[i] = j at *
          refine Gives.bind (fun z => z = (b && caseOk j)) ?_ (fun z hz => Gives.some ⟨⟨by dsimp only; omega, ?_⟩, by dsimp only; omega⟩)
          · refine Gives.bindE hx ?_
            simp only [m_isNumber, m_isInt, m_isName, Option.bind_some, List.all_cons, List.all_nil, Bool.and_true]
            unfold caseOk
            cases b
            · exact Gives.some rfl
            · cases numOk j.To
              · exact Gives.some rfl
              · by_cases h1 : j.Name = []
                · rw [h1, nameS_nil]
                  cases h2 : intOk j.N <;> by_cases h3 : j.N = 0 <;> simp [h3, Gives]
                · by_cases h3 : j.N = 0 <;> simp [h1, h3, Gives]
          · dsimp only
            rw [i2, hz, Bool.and_assoc]
        · rw [List.drop_of_length_le (by omega), List.all_nil, Bool.and_true] at i2
          exact i2.symm
    rw [if_neg c1]
    by_cases c3 : x.Op = 3 ∨ x.Op = 5
    · refine Gives.bindE (a := true) (by rcases c3 with h | h <;> simp [h]) (Gives.pos rfl ?_)
      rw [if_pos c3]
      by_cases h1 : x.Name = [] <;> by_cases h2 : x.Args = [] <;> by_cases h3 : x.Cases = [] <;> by_cases h4 : x.N = 0 <;> by_cases h5 : x.B = 0 <;> simp [h1, h2, h3, h4, h5, Gives]
    refine Gives.bindE (a := false) (by
      have h3 : ¬ x.Op = 3 := fun h => c3 (.inl h)
      have h5 : ¬ x.Op = 5 := fun h => c3 (.inr h)
      simp [h3, h5]) (Gives.neg (by decide) ?_)
    rw [if_neg c3]
    refine Gives.ite (fun c4 => ?_) (fun c4 => ?_)
    · rw [if_pos c4]
      simp only [m_isNumber, Option.bind_some, List.all_cons, List.all_nil, Bool.and_true]
      by_cases h1 : (x.Name = [] ∧ x.Args = [] ∧ x.Cases = [] ∧ x.N = 0 ∧ x.B = 0)
      · rw [decide_eq_true h1]; exact Gives.some rfl
      · rw [decide_eq_false h1]; exact Gives.some rfl
    rw [if_neg c4]
    refine Gives.ite (fun c2 => ?_) (fun c2 => ?_)
    · rw [if_pos c2, hA]
      simp only [len0, m_isNodeText, Option.bind_some]
      by_cases h1 : x.Cases = [] <;> by_cases h2 : x.B = 0 <;> simp [h1, h2, Gives]
    · rw [if_neg c2]; exact Gives.some rfl
end Go.Proofs.YtefclodjekeeiaaGreatDoor
