/- Problems in plain words: what a valid one is. -/
import Derived.Test.YtopmcncaanjboaaMiF
namespace Go.Proofs.Ytopmcncaanjboaa
open Go Go.Mir
set_option linter.unusedVariables false
def isNum (n : Int) : Bool := decide (-1000000 ≤ n) && decide (n ≤ 1000000)
theorem m_isNumber (g : Nat) (n : Int) : m_domain_isNumber g n = some (isNum n) := by
  unfold m_domain_isNumber isNum
  by_cases h : n ≥ -1000000
  · rw [if_pos h, decide_eq_true (show -1000000 ≤ n from h)]; rfl
  · rw [if_neg h, decide_eq_false (show ¬ -1000000 ≤ n from h)]; rfl
theorem not_if {α : Type} {b : Bool} {x y : α} : (if (!b) = true then x else y) = if b = true then y else x := by cases b <;> rfl
/-- Strictly ascending. -/
def risP (l : List Int) : Prop := ∀ i x y, l[i]? = some x → l[i + 1]? = some y → x < y
noncomputable instance (l : List Int) : Decidable (risP l) := Classical.propDecidable _
theorem m_rising (g : Nat) (l : List Int) : ∃ b, m_domain_rising g l = some b ∧ (b = true ↔ risP l) := by
  unfold m_domain_rising
  have key := Loop_ex (Q := Unit ⊕ Bool) (body := fun s6 : Nat =>
      if ((s6 : Nat) : Int) < ((l.length : Nat) : Int) then
        (Mir.idx l (((s6 : Nat) : Int) - 1)).bind fun x11 =>
        ((l)[s6]?).bind fun x18 =>
        if x11 ≥ x18 then
          some (.inr (.inr false))
        else
          some (.inl (s6 + 1))
      else
        some (.inr (.inl ()))) (fun i => 1 ≤ i ∧ ∀ k x y, k + 1 < i → l[k]? = some x → l[k + 1]? = some y → x < y)
      (fun q => q = .inl () ∧ risP l ∨ q = .inr false ∧ ¬ risP l) (fun i => l.length - i) (by
        rintro i ⟨h1, h2⟩
        by_cases hi : i < l.length
        · obtain ⟨j, rfl⟩ : ∃ j, i = j + 1 := ⟨i - 1, by omega⟩
          have e1 := List.getElem?_eq_getElem (show j < l.length by omega)
          have e2 := List.getElem?_eq_getElem hi
          rw [if_pos (by omega), show (((j + 1 : Nat) : Int) - 1) = ((j : Nat) : Int) by omega, idx_nat, e1, Option.bind_some, e2, Option.bind_some]
          by_cases hc : l[j] ≥ l[j + 1]
          · left
            rw [if_pos hc]
            exact ⟨_, rfl, .inr ⟨rfl, fun h => by have := h j _ _ e1 e2; omega⟩⟩
          · right
            rw [if_neg hc]
            refine ⟨j + 2, rfl, ⟨by omega, fun k x y hk hx hy => ?_⟩, by omega⟩
            by_cases hkj : k = j
            · subst hkj
              rw [e1] at hx; rw [e2] at hy
              cases hx; cases hy; omega
            · exact h2 k x y (by omega) hx hy
        · left
          rw [if_neg (by omega)]
          refine ⟨_, rfl, .inl ⟨rfl, fun k x y hx hy => h2 k x y ?_ hx hy⟩⟩
          have := (List.getElem?_eq_some_iff.1 hy).1
          omega) (s := 1) ⟨Nat.le_refl _, fun k x y hk => by omega⟩
  obtain ⟨q, hq, h | h⟩ := key
  · rw [hq, h.1]; exact ⟨true, rfl, by simp [h.2]⟩
  · rw [hq, h.1]; exact ⟨false, rfl, by simp [h.2]⟩
theorem all_num (g : Nat) (l : List Int) {J A : Type} {j : J} {r : A} : Mir.Loop (Q := J ⊕ A) (0 : Nat) (fun s68 : Nat =>
    if ((s68 : Nat) : Int) < ((l.length : Nat) : Int) then
      ((l)[s68]?).bind fun x75 =>
      (m_domain_isNumber g x75).bind fun q82 =>
      if q82 = true then some (.inl (s68 + 1)) else some (.inr (.inr r))
    else some (.inr (.inl j))) = some (if l.all isNum = true then .inl j else .inr r) :=
  Loop_all l isNum (by rw [if_neg (by omega)]) fun i x hi hx => by
    rw [if_pos (by omega), hx, Option.bind_some, m_isNumber, Option.bind_some]
/-- A limit that is as it must be, for so many variables. -/
structure LimOk (n : Nat) (l : DLimit) : Prop where
  ris : risP l.Vars
  k0 : 0 ≤ l.Kind
  k4 : l.Kind ≤ 4
  vars : ∀ v ∈ l.Vars, 0 ≤ v ∧ v < n
  sum : l.Kind ≤ 2 → l.A.length = l.Vars.length
  rows : ∀ r ∈ l.Rows, r.length = l.Vars.length
def rowsB (n : Nat) (rows : List (List Int)) : Bool := rows.all fun r => decide (r.length = n) && r.all isNum
theorem m_isLimit (g : Nat) (p : DProblem) (l : DLimit) : ∃ b, m_domain_isLimit g p l = some b ∧ (b = true → LimOk p.Doms.length l) ∧ (LimOk p.Doms.length l → isNum l.B = true → (l.A.all isNum = true) → (rowsB l.Vars.length l.Rows = true) → (l.Kind ≤ 2 ∧ l.Rows = [] ∨ 2 < l.Kind ∧ l.A = [] ∧ l.B = 0 ∧ (l.Kind = 4 ∨ l.Rows = [])) → b = true) ∧ (b = true → isNum l.B = true ∧ l.A.all isNum = true ∧ rowsB l.Vars.length l.Rows = true ∧ (l.Kind ≤ 2 ∧ l.Rows = [] ∨ 2 < l.Kind ∧ l.A = [] ∧ l.B = 0 ∧ (l.Kind = 4 ∨ l.Rows = []))) := by
  unfold m_domain_isLimit
  obtain ⟨b1, h1, h2⟩ := m_rising g l.Vars
  rw [h1, Option.bind_some]
  -- the first condition
  have c1 : (if b1 = true then if l.Kind < 0 then some true else if l.Kind > 4 then some true else (m_domain_isNumber g l.B).bind fun q20 => some (!q20) else some true) = some (!decide (risP l.Vars ∧ 0 ≤ l.Kind ∧ l.Kind ≤ 4 ∧ isNum l.B = true)) := by
    cases b1
    · rw [decide_eq_false (show ¬ (risP l.Vars ∧ 0 ≤ l.Kind ∧ l.Kind ≤ 4 ∧ isNum l.B = true) from fun h => by have := h2.2 h.1; cases this)]; rfl
    · have hr := h2.1 rfl
      rw [if_pos rfl]
      by_cases k0 : l.Kind < 0
      · rw [if_pos k0, decide_eq_false (show ¬ (risP l.Vars ∧ 0 ≤ l.Kind ∧ l.Kind ≤ 4 ∧ isNum l.B = true) from fun h => by have := h.2.1; omega)]; rfl
      · rw [if_neg k0]
        by_cases k4 : l.Kind > 4
        · rw [if_pos k4, decide_eq_false (show ¬ (risP l.Vars ∧ 0 ≤ l.Kind ∧ l.Kind ≤ 4 ∧ isNum l.B = true) from fun h => by have := h.2.2.1; omega)]; rfl
        · rw [if_neg k4, m_isNumber, Option.bind_some]
          by_cases hB : isNum l.B = true
          · rw [decide_eq_true (show risP l.Vars ∧ 0 ≤ l.Kind ∧ l.Kind ≤ 4 ∧ isNum l.B = true from ⟨hr, by omega, by omega, hB⟩), hB]
          · rw [decide_eq_false (show ¬ (risP l.Vars ∧ 0 ≤ l.Kind ∧ l.Kind ≤ 4 ∧ isNum l.B = true) from fun h => hB h.2.2.2), Bool.eq_false_iff.2 hB]
  rw [c1, Option.bind_some]
  by_cases C1 : risP l.Vars ∧ 0 ≤ l.Kind ∧ l.Kind ≤ 4 ∧ isNum l.B = true
  case neg =>
    rw [decide_eq_false C1]
    exact ⟨false, rfl, (fun h => nomatch h), fun h hB _ _ _ => absurd (show risP l.Vars ∧ 0 ≤ l.Kind ∧ l.Kind ≤ 4 ∧ isNum l.B = true from ⟨h.ris, h.k0, h.k4, hB⟩) C1, (fun h => nomatch h)⟩
  rw [decide_eq_true C1, if_neg (show ¬ ((!true) = true) by decide)]
  obtain ⟨r1, r2, r3, r4⟩ := C1
  rw [Loop_all l.Vars (fun v => decide (0 ≤ v) && decide (v < p.Doms.length)) (by rw [if_neg (by omega)]) fun i x hi hx => by
    rw [if_pos (by omega), hx, Option.bind_some]
    by_cases c : x < 0
    · rw [if_pos c, Option.bind_some, if_pos rfl, decide_eq_false (show ¬ 0 ≤ x by omega)]; rfl
    · rw [if_neg c, Option.bind_some, decide_eq_true (show 0 ≤ x by omega)]
      by_cases c2 : x ≥ ((p.Doms.length : Nat) : Int)
      · rw [decide_eq_true c2, if_pos rfl, decide_eq_false (show ¬ x < (p.Doms.length : Int) by omega)]; rfl
      · rw [decide_eq_false c2, if_neg (by decide), decide_eq_true (show x < (p.Doms.length : Int) by omega)]; rfl]
  by_cases hv : l.Vars.all (fun v => decide (0 ≤ v) && decide (v < p.Doms.length)) = true
  case neg =>
    rw [if_neg hv, jx_inr]
    refine ⟨false, rfl, (fun h => nomatch h), fun h _ _ _ _ => absurd ?_ hv, (fun h => nomatch h)⟩
    rw [List.all_eq_true]
    intro v hv'
    have := h.vars v hv'
    simp [this]
  rw [if_pos hv, jx_inl]
  have hvars : ∀ v ∈ l.Vars, 0 ≤ v ∧ v < p.Doms.length := fun v hv' => by
    have := List.all_eq_true.1 hv v hv'
    simpa using this
  have c2 : (if l.Kind ≤ 2 then
        if ((l.A.length : Nat) : Int) = ((l.Vars.length : Nat) : Int) then
          if l.Kind = 4 then some false else some (decide (((l.Rows.length : Nat) : Int) > 0))
        else some true
      else
        if ((l.A.length : Nat) : Int) > 0 then some true
        else
          if l.B = 0 then
            if l.Kind = 4 then some false else some (decide (((l.Rows.length : Nat) : Int) > 0))
          else some true : Option Bool) = some (!decide ((l.Kind ≤ 2 ∧ l.A.length = l.Vars.length ∧ l.Rows = []) ∨ (2 < l.Kind ∧ l.A = [] ∧ l.B = 0 ∧ (l.Kind = 4 ∨ l.Rows = [])))) := by
    have hR : l.Rows = [] ↔ l.Rows.length = 0 := ⟨fun h => by rw [h]; rfl, List.eq_nil_of_length_eq_zero⟩
    have hA : l.A = [] ↔ l.A.length = 0 := ⟨fun h => by rw [h]; rfl, List.eq_nil_of_length_eq_zero⟩
    have gen : ∀ (R A V : Nat) (K B : Int), (if K ≤ 2 then
        if (A : Int) = (V : Int) then
          if K = 4 then some false else some (decide ((R : Int) > 0))
        else some true
      else
        if (A : Int) > 0 then some true
        else
          if B = 0 then
            if K = 4 then some false else some (decide ((R : Int) > 0))
          else some true : Option Bool) = some (!decide ((K ≤ 2 ∧ A = V ∧ R = 0) ∨ (2 < K ∧ A = 0 ∧ B = 0 ∧ (K = 4 ∨ R = 0)))) := by
      intro R A V K B
      by_cases k2 : K ≤ 2
      · rw [if_pos k2]
        by_cases e1 : (A : Int) = (V : Int)
        · rw [if_pos e1, if_neg (by omega)]
          by_cases e2 : R = 0
          · rw [decide_eq_false (by omega), decide_eq_true (by omega)]; rfl
          · rw [decide_eq_true (by omega), decide_eq_false (by omega)]; rfl
        · rw [if_neg e1, decide_eq_false (by omega)]; rfl
      · rw [if_neg k2]
        by_cases e1 : (A : Int) > 0
        · rw [if_pos e1, decide_eq_false (by omega)]; rfl
        · rw [if_neg e1]
          by_cases e2 : B = 0
          · rw [if_pos e2]
            by_cases e3 : K = 4
            · rw [if_pos e3, decide_eq_true (by omega)]; rfl
            · rw [if_neg e3]
              by_cases e4 : R = 0
              · rw [decide_eq_false (by omega), decide_eq_true (by omega)]; rfl
              · rw [decide_eq_true (by omega), decide_eq_false (by omega)]; rfl
          · rw [if_neg e2, decide_eq_false (by omega)]; rfl
    rw [gen, decide_eq_decide.2]
    rw [hR, hA]
  rw [c2, Option.bind_some]
  by_cases C2 : (l.Kind ≤ 2 ∧ l.A.length = l.Vars.length ∧ l.Rows = []) ∨ (2 < l.Kind ∧ l.A = [] ∧ l.B = 0 ∧ (l.Kind = 4 ∨ l.Rows = []))
  case neg =>
    rw [decide_eq_false C2, if_pos (show (!false) = true from rfl)]
    refine ⟨false, rfl, (fun h => nomatch h), fun h _ _ _ h9 => absurd ?_ C2, (fun h => nomatch h)⟩
    rcases h9 with h9 | h9
    · exact .inl ⟨h9.1, h.sum h9.1, h9.2⟩
    · exact .inr h9
  rw [decide_eq_true C2, if_neg (show ¬ ((!true) = true) by decide), all_num]
  by_cases hA : l.A.all isNum = true
  case neg =>
    rw [if_neg hA, jx_inr]
    exact ⟨false, rfl, (fun h => nomatch h), fun _ _ h _ _ => absurd h hA, (fun h => nomatch h)⟩
  rw [if_pos hA, jx_inl]
  rw [Loop_all l.Rows (fun r => decide (r.length = l.Vars.length) && r.all isNum) (by rw [if_neg (by omega)]) fun i x hi hx => by
    rw [if_pos (by omega), hx, Option.bind_some]
    by_cases c : x.length = l.Vars.length
    · rw [if_pos (by omega), all_num, decide_eq_true c, Bool.true_and]
      cases hx2 : x.all isNum
      · rw [if_neg (by decide), jx_inr]; rfl
      · rw [if_pos rfl, jx_inl]; rfl
    · rw [if_neg (by omega), jx_inr, decide_eq_false c]; rfl]
  by_cases hr : l.Rows.all (fun r => decide (r.length = l.Vars.length) && r.all isNum) = true
  case neg =>
    rw [if_neg hr, jx_inr]
    exact ⟨false, rfl, (fun h => nomatch h), fun _ _ _ h _ => absurd h hr, (fun h => nomatch h)⟩
  rw [if_pos hr, jx_inl]
  refine ⟨true, rfl, fun _ => ⟨r1, r2, r3, hvars, fun hk => ?_, fun r hr' => ?_⟩, fun _ _ _ _ _ => rfl, fun _ => ⟨r4, hA, hr, ?_⟩⟩
  · rcases C2 with C2 | C2
    · exact C2.2.1
    · omega
  · have := List.all_eq_true.1 hr r hr'
    simp only [Bool.and_eq_true, decide_eq_true_eq] at this
    exact this.1
  · rcases C2 with C2 | C2
    · exact .inl ⟨C2.1, C2.2.2⟩
    · exact .inr C2
/-- A valid problem. -/
structure Valid (p : DProblem) : Prop where
  nd : p.Doms.length ≤ 12
  nl : p.Limits.length ≤ 24
  dl : ∀ d ∈ p.Doms, d.length ≤ 30 ∧ d.all isNum = true ∧ risP d
  ll : ∀ l ∈ p.Limits, l.Vars.length ≤ 12 ∧ l.Rows.length ≤ 64 ∧ m_domain_isLimit 0 p l = some true
theorem isLimit_fuel (g : Nat) (p : DProblem) (l : DLimit) : m_domain_isLimit g p l = m_domain_isLimit 0 p l := rfl
theorem Valid.lim {p : DProblem} (h : Valid p) : ∀ l ∈ p.Limits, LimOk p.Doms.length l := fun l hl => by
  obtain ⟨b, h1, h2, _⟩ := m_isLimit 0 p l
  rw [(h.ll l hl).2.2] at h1
  cases h1
  exact h2 rfl
theorem m_Validate (g : Nat) (p : DProblem) : ∃ e, m_domain_Validate g p = some e ∧ (e = 0 ↔ Valid p) := by
  unfold m_domain_Validate
  by_cases a1 : ((p.Doms.length : Nat) : Int) > 12
  · rw [if_pos a1]
    exact ⟨3, rfl, (fun h => nomatch h), fun h => by have := h.nd; omega⟩
  rw [if_neg a1, Option.bind_some]
  by_cases a2 : ((p.Limits.length : Nat) : Int) > 24
  · rw [decide_eq_true a2, if_pos rfl]
    exact ⟨3, rfl, (fun h => nomatch h), fun h => by have := h.nl; omega⟩
  rw [decide_eq_false a2, if_neg (by decide)]
  rw [Loop_all p.Doms (fun d => decide (d.length ≤ 30)) (by rw [if_neg (by omega)]) fun i x hi hx => by
    rw [if_pos (by omega), hx, Option.bind_some]
    by_cases c : ((x.length : Nat) : Int) > 30
    · rw [if_pos c, decide_eq_false (by omega), if_neg (by decide)]
    · rw [if_neg c, decide_eq_true (by omega), if_pos rfl]]
  by_cases b1 : p.Doms.all (fun d => decide (d.length ≤ 30)) = true
  case neg =>
    rw [if_neg b1, jx_inr]
    refine ⟨3, rfl, (fun h => nomatch h), fun h => absurd ?_ b1⟩
    rw [List.all_eq_true]; intro d hd; exact decide_eq_true (h.dl d hd).1
  rw [if_pos b1, jx_inl]
  rw [Loop_all p.Limits (fun l => decide (l.Vars.length ≤ 12) && decide (l.Rows.length ≤ 64)) (by rw [if_neg (by omega)]) fun i x hi hx => by
    rw [if_pos (by omega), hx, Option.bind_some]
    by_cases c : ((x.Vars.length : Nat) : Int) > 12
    · rw [if_pos c, Option.bind_some, if_pos rfl, decide_eq_false (show ¬ x.Vars.length ≤ 12 by omega)]; rfl
    · rw [if_neg c, Option.bind_some, decide_eq_true (show x.Vars.length ≤ 12 by omega)]
      by_cases c2 : ((x.Rows.length : Nat) : Int) > 64
      · rw [decide_eq_true c2, if_pos rfl, decide_eq_false (show ¬ x.Rows.length ≤ 64 by omega)]; rfl
      · rw [decide_eq_false c2, if_neg (by decide), decide_eq_true (show x.Rows.length ≤ 64 by omega)]; rfl]
  by_cases b2 : p.Limits.all (fun l => decide (l.Vars.length ≤ 12) && decide (l.Rows.length ≤ 64)) = true
  case neg =>
    rw [if_neg b2, jx_inr]
    refine ⟨3, rfl, (fun h => nomatch h), fun h => absurd ?_ b2⟩
    rw [List.all_eq_true]; intro l hl
    have := h.ll l hl
    simp [this]
  rw [if_pos b2, jx_inl]
  have key : ∀ d : List Int, ∃ b, m_domain_rising g d = some b ∧ (b = true ↔ risP d) := fun d => m_rising g d
  have hd3 : ∃ o, Mir.Loop (Q := Unit ⊕ Int) (0 : Nat) (fun s74 : Nat =>
        if ((s74 : Nat) : Int) < ((p.Doms.length : Nat) : Int) then
          ((p.Doms)[s74]?).bind fun x81 =>
          jx (J := Unit) (A := (Nat) ⊕ ((Unit) ⊕ (Int))) (
            Mir.Loop (S := Nat) (Q := (Unit) ⊕ ((Nat) ⊕ ((Unit) ⊕ (Int)))) (0 : Nat) fun s99 =>
              if ((s99 : Nat) : Int) < ((x81.length : Nat) : Int) then
                ((x81)[s99]?).bind fun x106 =>
                (m_domain_isNumber g x106).bind fun q113 =>
                if q113 = true then
                  some (.inl (s99 + 1))
                else
                  some (.inr (.inr (.inr (.inr (1 : Int)))))
              else
                some (.inr (.inl ()))
          ) fun z92 =>
          (m_domain_rising g x81).bind fun q120 =>
          if q120 = true then
            some (.inl (s74 + 1))
          else
            some (.inr (.inr (1 : Int)))
        else
          some (.inr (.inl ()))) = some o ∧ (o = .inl () ∧ (∀ d ∈ p.Doms, d.all isNum = true ∧ risP d) ∨ o = .inr 1 ∧ ¬ ∀ d ∈ p.Doms, d.all isNum = true ∧ risP d) := by
    classical
    rw [Loop_all p.Doms (fun d => d.all isNum && decide (risP d)) (j := ()) (r := (1 : Int)) (by rw [if_neg (by omega)]) fun i x hi hx => by
      rw [if_pos (by omega), hx, Option.bind_some, all_num]
      cases hx2 : x.all isNum
      · rw [if_neg (by decide), jx_inr]; rfl
      · rw [if_pos rfl, jx_inl]
        obtain ⟨b, k1, k2⟩ := key x
        rw [k1, Option.bind_some]
        cases b
        · rw [decide_eq_false (fun h => by have := k2.2 h; cases this)]; rfl
        · rw [decide_eq_true (k2.1 rfl)]; rfl]
    refine ⟨_, rfl, ?_⟩
    by_cases hc : p.Doms.all (fun d => d.all isNum && decide (risP d)) = true
    · rw [if_pos hc]
      refine .inl ⟨rfl, fun d hd => ?_⟩
      have := List.all_eq_true.1 hc d hd
      simpa using this
    · rw [if_neg hc]
      refine .inr ⟨rfl, fun h => hc ?_⟩
      rw [List.all_eq_true]; intro d hd
      obtain ⟨h1, h2⟩ := h d hd
      rw [h1, decide_eq_true h2]; rfl
  obtain ⟨o, ho, ⟨rfl, hdd⟩ | ⟨rfl, hdd⟩⟩ := hd3
  case inr =>
    rw [ho, jx_inr]
    exact ⟨1, rfl, (fun h => nomatch h), fun h => absurd (fun d hd => (h.dl d hd).2) hdd⟩
  rw [ho, jx_inl]
  rw [Loop_all p.Limits (fun l => (m_domain_isLimit 0 p l).getD false) (by rw [if_neg (by omega)]) fun i x hi hx => by
    rw [if_pos (by omega), hx, Option.bind_some, isLimit_fuel]
    obtain ⟨b, k1, _⟩ := m_isLimit 0 p x
    rw [k1, Option.bind_some]; rfl]
  by_cases b4 : p.Limits.all (fun l => (m_domain_isLimit 0 p l).getD false) = true
  case neg =>
    rw [if_neg b4, jx_inr]
    refine ⟨1, rfl, (fun h => nomatch h), fun h => absurd ?_ b4⟩
    rw [List.all_eq_true]; intro l hl
    rw [(h.ll l hl).2.2]; rfl
  rw [if_pos b4, jx_inl]
  refine ⟨0, rfl, fun _ => ⟨by omega, by omega, fun d hd => ⟨?_, hdd d hd⟩, fun l hl => ?_⟩, fun _ => rfl⟩
  · have := List.all_eq_true.1 b1 d hd
    exact of_decide_eq_true this
  · have h1 := List.all_eq_true.1 b2 l hl
    have h2 := List.all_eq_true.1 b4 l hl
    simp only [Bool.and_eq_true, decide_eq_true_eq] at h1
    refine ⟨h1.1, h1.2, ?_⟩
    obtain ⟨b, k1, _⟩ := m_isLimit 0 p l
    rw [k1] at h2 ⊢
    simpa using h2
end Go.Proofs.Ytopmcncaanjboaa
