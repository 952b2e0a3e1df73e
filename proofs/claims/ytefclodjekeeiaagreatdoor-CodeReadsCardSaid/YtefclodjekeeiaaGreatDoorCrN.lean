/- Names, in plain words: both sides tell them the same. -/
import Derived.Test.YtefclodjekeeiaaGreatDoorCrA
namespace Go.Proofs.YtefclodjekeeiaaGreatDoor
open Go Go.Mir
set_option linter.unusedVariables false
theorem r_small (g : Nat) (n : Nat) : m_ref08_isSmall g (n : Int) = some (decide (97 ≤ n ∧ n ≤ 122)) := by
  unfold m_ref08_isSmall
  repeat' split
  all_goals first
    | exact congrArg some (decide_eq_false (by omega)).symm
    | exact congrArg some (decide_eq_decide.2 (by omega))
theorem r_great (g : Nat) (n : Nat) : m_ref08_isGreat g (n : Int) = some (decide (65 ≤ n ∧ n ≤ 90)) := by
  unfold m_ref08_isGreat
  repeat' split
  all_goals first
    | exact congrArg some (decide_eq_false (by omega)).symm
    | exact congrArg some (decide_eq_decide.2 (by omega))
theorem r_digit (g : Nat) (b : UInt8) : m_ref08_isDigit g ((b.toNat : Nat) : Int) = some (isDigB b) := by
  unfold m_ref08_isDigit isDigB
  repeat' split
  all_goals first
    | exact congrArg some (decide_eq_false (by omega)).symm
    | exact congrArg some (decide_eq_decide.2 (by omega))
theorem r_word (g : Nat) (b : UInt8) : m_ref08_isWord g ((b.toNat : Nat) : Int) = some (isWordB b) := by
  unfold m_ref08_isWord
  rw [r_small, Option.bind_some, r_great, Option.bind_some, r_digit, Option.bind_some]
  unfold isDigB isWordB
  repeat' split
  all_goals rename_i h
  all_goals simp only [decide_eq_true_eq] at *
  all_goals first
    | exact congrArg some (decide_eq_true (by omega)).symm
    | exact congrArg some (decide_eq_decide.2 (by omega))
def tailW (s : List UInt8) : Bool := (s.drop 1).all isWordB
def headIn (lo hi : Int) (s : List UInt8) : Bool := match s with | [] => false | c :: _ => decide (lo ≤ (c.toNat : Int) ∧ (c.toNat : Int) ≤ hi)
def nameS (lo hi : Int) (s : List UInt8) : Bool := decide (1 ≤ s.length ∧ s.length ≤ 16) && headIn lo hi s && tailW s
theorem r_rest (g : Nat) (s : List UInt8) (h : s.length ≤ 16) (h1 : 1 ≤ s.length) : m_ref08_rest g s 1 = some (tailW s) := by
  unfold m_ref08_rest
  refine Gives.eq (Gives.jx (fun _ => tailW s = true) ?_ (fun _ h => Gives.some h.symm))
  refine Gives.loop (fun (x : Int) => ∃ i : Nat, x = i ∧ 1 ≤ i ∧ i ≤ s.length ∧ tailW s = (s.drop i).all isWordB) (fun x => s.length - x.toNat) ⟨1, rfl, by omega, h1, rfl⟩ ?_
  rintro _ ⟨i, rfl, i1, i2, i3⟩
  refine Gives.ite (fun c1 => ?_) (fun c1 => Gives.some ?_)
  · have hi' : i < s.length := by omega
    rw [List.drop_eq_getElem_cons hi', List.all_cons] at i3
    refine Gives.bindE (idx_ok hi') (Gives.bindE (r_word g _) (Gives.ite (fun c2 => ?_) (fun c2 => Gives.some ?_)))
    · rw [c2, Bool.true_and] at i3
      rw [w64_eq (by omega)]
      exact Gives.some ⟨⟨i + 1, rfl, by omega, by omega, i3⟩, by omega⟩
    · have : isWordB s[i] = false := by simpa using c2
      rw [this, Bool.false_and] at i3
      exact i3.symm
  · rw [List.drop_of_length_le (by omega)] at i3
    exact i3
theorem r_IsGreat (g : Nat) (s : List UInt8) : m_ref08_IsGreat g s = some (nameS 65 90 s) := by
  unfold m_ref08_IsGreat nameS
  cases s with
  | nil => rfl
  | cons c r =>
    rw [if_pos (by rw [List.length_cons]; omega)]
    by_cases h16 : (((c :: r).length : Nat) : Int) ≤ 16
    · rw [if_pos h16, show (c :: r)[0]? = some c from rfl, Option.bind_some, decide_eq_true (show 1 ≤ (c :: r).length ∧ (c :: r).length ≤ 16 by rw [List.length_cons] at *; omega), r_great, Option.bind_some, r_rest g _ (by omega) (by rw [List.length_cons]; omega)]
      have e : headIn 65 90 (c :: r) = decide (65 ≤ c.toNat ∧ c.toNat ≤ 90) := decide_eq_decide.2 (by omega)
      rw [e]
      by_cases hc : 65 ≤ c.toNat ∧ c.toNat ≤ 90
      · rw [decide_eq_true hc, if_pos rfl]; rfl
      · rw [decide_eq_false hc, if_neg (by decide)]; rfl
    · rw [if_neg h16, decide_eq_false (by omega)]; rfl
def reserved : List (List UInt8) := [[100, 97, 116, 97], [99, 108, 97, 115, 115], [105, 110, 115, 116, 97, 110, 99, 101], [111, 112], [101, 110, 100], [119, 104, 101, 114, 101], [108, 101, 116], [105, 110], [102, 114, 101, 101], [99, 97, 115, 101], [114, 105, 103, 105, 100], [111, 102], [102, 97, 105, 108]]
def smallS (s : List UInt8) : Bool := nameS 97 122 s && !decide (s ∈ reserved)
def coreS (s : List UInt8) : Bool := match s with
  | [] => false
  | c :: r => if c = 95 then decide (2 ≤ (c :: r).length ∧ (c :: r).length ≤ 16) && tailW (c :: r) else smallS (c :: r)
theorem r_IsSmall (g : Nat) (s : List UInt8) : m_ref08_IsSmall g s = some (smallS s) := by
  unfold m_ref08_IsSmall smallS
  have h1 : Gives (if ((s.length : Nat) : Int) < 1 then
      some true
    else
      if ((s.length : Nat) : Int) > 16 then
        some true
      else
        ((s)[0]?).bind fun x7 =>
        (m_ref08_isSmall g ((x7.toNat : Nat) : Int)).bind fun q9 =>
        if q9 = true then
          (m_ref08_rest g s 1).bind fun q15 =>
          some (!q15)
        else
          some true) (fun z => z = !nameS 97 122 s) := by
    unfold nameS
    cases s with
    | nil => exact Gives.some rfl
    | cons c r =>
      refine Gives.neg (by rw [List.length_cons]; omega) ?_
      by_cases h16 : (((c :: r).length : Nat) : Int) > 16
      · refine Gives.pos h16 (Gives.some ?_)
        rw [decide_eq_false (by omega)]; rfl
      · refine Gives.neg h16 (Gives.bindE (show (c :: r)[0]? = some c from rfl) (Gives.bindE (r_small g _) ?_))
        have e : headIn 97 122 (c :: r) = decide (97 ≤ c.toNat ∧ c.toNat ≤ 122) := decide_eq_decide.2 (by omega)
        rw [e, decide_eq_true (show 1 ≤ (c :: r).length ∧ (c :: r).length ≤ 16 by rw [List.length_cons] at *; omega)]
        refine Gives.ite (fun hc => ?_) (fun hc => Gives.some ?_)
        · rw [hc]
          exact Gives.bindE (r_rest g _ (by omega) (by rw [List.length_cons]; omega)) (Gives.some (by rw [Bool.true_and, Bool.true_and]))
        · have : decide (97 ≤ c.toNat ∧ c.toNat ≤ 122) = false := by simpa using hc
          rw [this]; rfl
  refine Gives.eq (Gives.bind _ h1 fun z hz => ?_)
  subst hz
  cases hn : nameS 97 122 s with
  | false => exact Gives.pos rfl (Gives.some rfl)
  | true =>
    refine Gives.neg (by decide) (Gives.bindE (a := reserved) rfl ?_)
    refine Gives.jx (fun _ => s ∉ reserved) ?_ (fun _ h => Gives.some (by rw [decide_eq_false h]; rfl))
    refine Gives.loop (fun i => i ≤ reserved.length ∧ s ∉ reserved.take i) (fun i => reserved.length - i) ⟨Nat.zero_le _, by simp⟩ ?_
    rintro i ⟨i1, i2⟩
    refine Gives.ite (fun c => ?_) (fun c => Gives.some ?_)
    · have hi' : i < reserved.length := by omega
      have hx := List.getElem?_eq_getElem hi'
      refine Gives.bindE hx (Gives.ite (fun e => Gives.some ?_) (fun e => Gives.some ⟨⟨by omega, fun h => ?_⟩, by omega⟩))
      · show false = _
        rw [decide_eq_true (e ▸ List.getElem_mem hi')]; rfl
      · rw [List.take_add_one, hx] at h
        rcases List.mem_append.1 h with h | h
        · exact i2 h
        · exact e (by simpa using h : s = _).symm
    · rw [List.take_of_length_le (by omega)] at i2
      exact i2
theorem coreS_us {r : List UInt8} : coreS (95 :: r) = (decide (2 ≤ (95 :: r : List UInt8).length ∧ (95 :: r : List UInt8).length ≤ 16) && tailW (95 :: r)) := by
  unfold coreS; exact if_pos rfl
theorem coreS_no {c : UInt8} {r : List UInt8} (h : c ≠ 95) : coreS (c :: r) = smallS (c :: r) := by
  unfold coreS; exact if_neg h
theorem smallS_us {r : List UInt8} : smallS (95 :: r) = false := by
  have h : headIn 97 122 (95 :: r) = false := show decide ((97 : Int) ≤ (((95 : UInt8).toNat : Nat) : Int) ∧ (((95 : UInt8).toNat : Nat) : Int) ≤ 122) = false from by decide
  unfold smallS nameS
  rw [h, Bool.and_false, Bool.false_and, Bool.false_and]
theorem r_IsCore (g : Nat) (s : List UInt8) : m_ref08_IsCore g s = some (coreS s) := by
  unfold m_ref08_IsCore
  rw [r_IsSmall, Option.bind_some]
  cases s with
  | nil => rfl
  | cons c r =>
    by_cases hc : c = 95
    · subst hc
      rw [smallS_us, if_neg (by decide), coreS_us]
      by_cases h2 : (((95 :: r : List UInt8).length : Nat) : Int) ≥ 2
      · rw [if_pos h2]
        by_cases h16 : (((95 :: r : List UInt8).length : Nat) : Int) ≤ 16
        · rw [if_pos h16, show (95 :: r : List UInt8)[0]? = some 95 from rfl, Option.bind_some, if_pos (by decide), r_rest g _ (by omega) (by omega), decide_eq_true (by omega)]; rfl
        · rw [if_neg h16, decide_eq_false (by omega)]; rfl
      · rw [if_neg h2, decide_eq_false (by omega)]; rfl
    · rw [coreS_no hc]
      cases h : smallS (c :: r) with
      | true => rfl
      | false =>
        rw [if_neg (by decide)]
        have hcn : ¬ ((c.toNat : Nat) : Int) = 95 := fun e => hc (UInt8.toNat_inj.1 (by rw [show (95 : UInt8).toNat = 95 from rfl]; omega))
        split
        · split
          · rw [show (c :: r)[0]? = some c from rfl, Option.bind_some, if_neg hcn]; rfl
          · rfl
        · rfl
theorem m_contains (g : Nat) (s : List UInt8) : m_slices_Contains_string_string g reserved s = some (decide (s ∈ reserved)) := by
  unfold m_slices_Contains_string_string m_slices_Index_string_string
  have h : Gives (jx (J := Unit) (A := Int) (
    Mir.Loop (S := Nat) (Q := (Unit) ⊕ (Int)) (0 : Nat) fun s6 =>
      if ((s6 : Nat) : Int) < ((reserved.length : Nat) : Int) then
        ((reserved)[s6]?).bind fun x11 =>
        if s = x11 then
          some (.inr (.inr ((s6 : Nat) : Int)))
        else
          some (.inl (s6 + 1))
      else
        some (.inr (.inl ()))
  ) fun z2 =>
  some (-1)) (fun q => decide (q ≥ 0) = decide (s ∈ reserved)) := by
    refine Gives.jx (fun _ => s ∉ reserved) ?_ (fun _ h => Gives.some (by rw [decide_eq_false h]; rfl))
    refine Gives.loop (fun i => i ≤ reserved.length ∧ s ∉ reserved.take i) (fun i => reserved.length - i) ⟨Nat.zero_le _, by simp⟩ ?_
    rintro i ⟨i1, i2⟩
    refine Gives.ite (fun c => ?_) (fun c => Gives.some ?_)
    · have hi' : i < reserved.length := by omega
      have hx := List.getElem?_eq_getElem hi'
      refine Gives.bindE hx (Gives.ite (fun e => Gives.some ?_) (fun e => Gives.some ⟨⟨by omega, fun h => ?_⟩, by omega⟩))
      · show decide (((i : Nat) : Int) ≥ 0) = _
        rw [decide_eq_true (by omega), decide_eq_true (by rw [e]; exact List.getElem_mem hi')]
      · rw [List.take_add_one, hx] at h
        rcases List.mem_append.1 h with h | h
        · exact i2 h
        · exact e (by simpa using h : s = _)
    · rw [List.take_of_length_le (by omega)] at i2
      exact i2
  obtain ⟨q, h1, h2⟩ := h
  rw [h1, Option.bind_some, h2]
theorem isWordB_low {c : UInt8} (h : 97 ≤ c.toNat ∧ c.toNat ≤ 122) : isWordB c = true := decide_eq_true (.inl h)
theorem wordS_cons {c : UInt8} {r : List UInt8} : wordS (c :: r) = (isWordB c && tailW (c :: r)) := by
  unfold wordS tailW
  rw [List.all_cons, decide_eq_false (by simp)]
  simp
theorem m_isName (g : Nat) (s : List UInt8) (b : Bool) : m_code_isName g s b = some (if b = true then nameS 65 90 s else coreS s) := by
  unfold m_code_isName
  refine Gives.eq (Gives.bind (fun z => z = !(decide (1 ≤ s.length ∧ s.length ≤ 16) && wordS s)) ?_ fun z hz => ?_)
  · refine Gives.ite (fun c => Gives.some ?_) (fun c => Gives.ite (fun c2 => Gives.some ?_) (fun c2 => ?_))
    · rw [decide_eq_false (by omega)]; rfl
    · rw [decide_eq_false (by omega)]; rfl
    · refine Gives.bindE (m_isWord g s (by omega)) (Gives.some ?_)
      rw [decide_eq_true (by omega), Bool.true_and]
  · subst hz
    match s with
    | [] =>
      refine Gives.pos (by decide) (Gives.some ?_)
      cases b <;> rfl
    | c :: r =>
      have hx : (c :: r)[0]? = some c := rfl
      by_cases hl : (c :: r).length ≤ 16
      · rw [decide_eq_true (show 1 ≤ (c :: r).length ∧ (c :: r).length ≤ 16 from ⟨by rw [List.length_cons]; omega, hl⟩), Bool.true_and]
        by_cases hw : wordS (c :: r) = true
        · refine Gives.neg (by rw [hw]; decide) ?_
          have hw2 := hw
          rw [wordS_cons, Bool.and_eq_true] at hw2
          cases b with
          | true =>
            show Gives _ (fun q => q = nameS 65 90 (c :: r))
            refine Gives.pos rfl (Gives.bind (fun z => z = nameS 65 90 (c :: r)) ?_ (fun z hz => Gives.some hz))
            unfold nameS
            rw [decide_eq_true (show 1 ≤ (c :: r).length ∧ (c :: r).length ≤ 16 from ⟨by rw [List.length_cons]; omega, hl⟩), hw2.2, Bool.true_and, Bool.and_true]
            refine Gives.bindE hx (Gives.ite (fun c1 => Gives.bindE hx (Gives.some ?_)) (fun c1 => Gives.some ?_))
            · exact decide_eq_decide.2 ⟨fun h => ⟨by omega, h⟩, fun h => h.2⟩
            · exact (show false = decide _ from (decide_eq_false (by omega)).symm)
          | false =>
            show Gives _ (fun q => q = coreS (c :: r))
            refine Gives.neg (by decide) (Gives.bind (fun z => z = coreS (c :: r)) ?_ (fun z hz => Gives.some hz))
            have hus : (c :: r).length > 1 ↔ (((c :: r).length : Nat) : Int) > 1 := by omega
            have low : ∀ (_ : 97 ≤ c.toNat) (_ : c.toNat ≤ 122), coreS (c :: r) = !decide (c :: r ∈ reserved) := by
              intro h1 h2
              rw [coreS_no (fun e => by subst e; revert h1; decide)]
              unfold smallS nameS
              rw [decide_eq_true (show 1 ≤ (c :: r).length ∧ (c :: r).length ≤ 16 from ⟨by rw [List.length_cons]; omega, hl⟩), hw2.2, show headIn 97 122 (c :: r) = true from decide_eq_true (by omega)]
              rfl
            have us : c = 95 → (c :: r).length > 1 → coreS (c :: r) = true := by
              intro h h1
              subst h
              rw [coreS_us, hw2.2, decide_eq_true (by omega)]; rfl
            have us0 : c = 95 → ¬ (c :: r).length > 1 → coreS (c :: r) = false := by
              intro h h1
              subst h
              rw [coreS_us, decide_eq_false (by omega)]; rfl
            have ures : c = 95 → (!decide (c :: r ∈ reserved)) = true := by
              intro h
              subst h
              have : (95 :: r : List UInt8) ∉ reserved := by simp [reserved]
              rw [decide_eq_false this]; rfl
            have other : c ≠ 95 → ¬ (97 ≤ c.toNat ∧ c.toNat ≤ 122) → coreS (c :: r) = false := by
              intro h h1
              rw [coreS_no h]
              unfold smallS nameS
              rw [show headIn 97 122 (c :: r) = false from decide_eq_false (by omega), Bool.and_false, Bool.false_and, Bool.false_and]
            have c95 : ((c.toNat : Nat) : Int) = 95 ↔ c = 95 := ⟨fun e => UInt8.toNat_inj.1 (by rw [show (95 : UInt8).toNat = 95 from rfl]; omega), fun e => by subst e; rfl⟩
            refine Gives.bindE hx (Gives.ite (fun c1 => Gives.bindE hx (Gives.ite (fun c2 => Gives.bindE (m_contains g _) (Gives.some ?_)) (fun c2 => Gives.bindE hx (Gives.ite (fun c3 => Gives.ite (fun c4 => Gives.bindE (m_contains g _) (Gives.some ?_)) (fun c4 => Gives.some ?_)) (fun c3 => Gives.some ?_))))) (fun c1 => Gives.bindE hx (Gives.ite (fun c3 => Gives.ite (fun c4 => Gives.bindE (m_contains g _) (Gives.some ?_)) (fun c4 => Gives.some ?_)) (fun c3 => Gives.some ?_))))
            · exact (low (by omega) (by omega)).symm
            · rw [us (c95.1 c3) (hus.2 c4), ures (c95.1 c3)]
            · exact (us0 (c95.1 c3) (fun h => c4 (hus.1 h))).symm
            · exact (other (fun e => c3 (c95.2 e)) (by omega)).symm
            · rw [us (c95.1 c3) (hus.2 c4), ures (c95.1 c3)]
            · exact (us0 (c95.1 c3) (fun h => c4 (hus.1 h))).symm
            · exact (other (fun e => c3 (c95.2 e)) (by omega)).symm
        · refine Gives.pos (by simp [hw]) (Gives.some ?_)
          have hw2 : (isWordB c && tailW (c :: r)) = false := by rw [← wordS_cons]; simpa using hw
          have hd : ∀ lo hi : Int, (65 ≤ lo ∧ hi ≤ 90 ∨ 97 ≤ lo ∧ hi ≤ 122) → nameS lo hi (c :: r) = false := by
            intro lo hi h
            unfold nameS
            cases h1 : headIn lo hi (c :: r) with
            | false => rw [Bool.and_false, Bool.false_and]
            | true =>
              have h2 := of_decide_eq_true (show decide (lo ≤ (c.toNat : Int) ∧ (c.toNat : Int) ≤ hi) = true from h1)
              have h3 : isWordB c = true := decide_eq_true (by omega)
              rw [h3, Bool.true_and] at hw2
              rw [hw2, Bool.and_false]
          cases b with
          | true => rw [if_pos rfl, hd 65 90 (.inl ⟨by decide, by decide⟩)]
          | false =>
            rw [if_neg (by decide)]
            by_cases hc : c = 95
            · subst hc
              rw [coreS_us]
              rw [show isWordB 95 = true from rfl, Bool.true_and] at hw2
              rw [hw2, Bool.and_false]
            · rw [coreS_no hc]
              unfold smallS
              rw [hd 97 122 (.inr ⟨by decide, by decide⟩)]; rfl
      · rw [decide_eq_false (by omega)]
        refine Gives.pos rfl (Gives.some ?_)
        have hn : ∀ lo hi, nameS lo hi (c :: r) = false := fun lo hi => by
          unfold nameS
          rw [decide_eq_false (by omega)]; rfl
        cases b with
        | true => rw [if_pos rfl, hn]
        | false =>
          rw [if_neg (by decide)]
          by_cases hc : c = 95
          · subst hc
            rw [coreS_us, decide_eq_false (by omega)]; rfl
          · rw [coreS_no hc]
            unfold smallS
            rw [hn]; rfl
end Go.Proofs.YtefclodjekeeiaaGreatDoor
