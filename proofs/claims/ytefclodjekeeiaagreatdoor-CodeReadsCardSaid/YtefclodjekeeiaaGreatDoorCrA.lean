/- Words and numbers of codes, in plain words: both sides tell them the same. -/
import Derived.Test.YtefclodjekeeiaaGreatDoorMi
namespace Go.Proofs.YtefclodjekeeiaaGreatDoor
open Go Go.Mir
set_option linter.unusedVariables false
theorem Gives.eq {α : Type} {x : Option α} {r : α} (h : Gives x (fun q => q = r)) : x = some r := by
  obtain ⟨q, h1, rfl⟩ := h; exact h1
theorem Gives.ofEq {α : Type} {x : Option α} {r : α} (h : x = some r) : Gives x (fun q => q = r) := ⟨r, h, rfl⟩
/-- A loop that goes through a list as long as P holds. -/
theorem G_all {α A : Type} (xs : List α) (P : α → Bool) {bad : A} {body : Nat → Option (Nat ⊕ (Unit ⊕ A))} {k : Unit → Option A} {R : A → Prop}
    (h : ∀ i x, xs[i]? = some x → i < xs.length → Gives (body i) (fun o => if P x = true then o = .inl (i + 1) else o = .inr (.inr bad)))
    (he : body xs.length = some (.inr (.inl ()))) (hk : xs.all P = true → Gives (k ()) R) (hb : xs.all P = false → R bad) : Gives (jx (Mir.Loop 0 body) k) R := by
  refine Gives.jx (fun _ => xs.all P = true) (Gives.loop (fun i => i ≤ xs.length ∧ xs.all P = (xs.drop i).all P) (fun i => xs.length - i) ⟨Nat.zero_le _, rfl⟩ fun i hi => ?_) (fun _ h => hk h)
  rcases Nat.lt_or_ge i xs.length with h1 | h1
  · have hx := List.getElem?_eq_getElem h1
    have h2 := hi.2
    rw [List.drop_eq_getElem_cons h1, List.all_cons] at h2
    refine (h i _ hx h1).mono fun o ho => ?_
    by_cases c : P xs[i] = true
    · rw [if_pos c] at ho
      subst ho
      rw [c, Bool.true_and] at h2
      exact ⟨⟨h1, h2⟩, by omega⟩
    · rw [if_neg c] at ho
      subst ho
      have c' : P xs[i] = false := by simpa using c
      rw [c', Bool.false_and] at h2
      exact hb h2
  · obtain rfl : i = xs.length := by omega
    have h2 := hi.2
    rw [List.drop_of_length_le (Nat.le_refl _)] at h2
    exact ⟨_, he, h2⟩
def isWordB (b : UInt8) : Bool := decide (97 ≤ b.toNat ∧ b.toNat ≤ 122 ∨ 65 ≤ b.toNat ∧ b.toNat ≤ 90 ∨ 48 ≤ b.toNat ∧ b.toNat ≤ 57 ∨ b.toNat = 95)
def isDigB (b : UInt8) : Bool := decide (48 ≤ b.toNat ∧ b.toNat ≤ 57)
theorem isWordB_not (b : UInt8) : (!isWordB b) = decide (¬ (97 ≤ b.toNat ∧ b.toNat ≤ 122 ∨ 65 ≤ b.toNat ∧ b.toNat ≤ 90 ∨ 48 ≤ b.toNat ∧ b.toNat ≤ 57 ∨ b.toNat = 95)) := by
  unfold isWordB; rw [decide_not]
def wordS (s : List UInt8) : Bool := s.all isWordB && !decide (s = [])
theorem m_isWord (g : Nat) (s : List UInt8) (hs : s.length ≤ 100000) : m_code_isWord g s = some (wordS s) := by
  unfold m_code_isWord wordS
  refine Gives.eq (G_all (bad := false) s isWordB (fun i x hx hi => ?_) ?_ (fun h => Gives.some ?_) (fun h => ?_))
  · refine Gives.pos (by omega) (Gives.bindE hx (Gives.bind (fun z => z = !isWordB x) ?_ fun z hz => ?_))
    · rw [isWordB_not]
      repeat' split
      all_goals first
        | exact Gives.some (decide_eq_false (by omega)).symm
        | exact Gives.some (by rw [← decide_not]; exact decide_eq_decide.2 (by omega))
    · subst hz
      refine Gives.ite (fun c2 => Gives.some ?_) (fun c2 => ?_)
      · rw [if_neg (by simpa using c2)]
      · refine Gives.bindE (show small s = some () from if_pos (by omega)) (Gives.some ?_)
        rw [if_pos (by simpa using c2)]
  · rw [if_neg (by omega)]
  · rw [h, Bool.true_and]
  · rw [h, Bool.false_and]
theorem r_isRun (g : Nat) (s : List UInt8) (hs : s.length ≤ 100000) : m_ref14_isRun g s = some (wordS s) := by
  unfold m_ref14_isRun wordS
  refine Gives.eq (G_all (bad := false) s isWordB (fun i x hx hi => ?_) ?_ (fun h => Gives.some ?_) (fun h => ?_))
  · refine Gives.pos (by omega) (Gives.bindE hx (Gives.bind (fun z => z = !isWordB x) ?_ fun z hz => ?_))
    · rw [isWordB_not]
      repeat' split
      all_goals first
        | exact Gives.some (decide_eq_false (by omega)).symm
        | exact Gives.some (by rw [← decide_not]; exact decide_eq_decide.2 (by omega))
    · subst hz
      refine Gives.ite (fun c2 => Gives.some ?_) (fun c2 => ?_)
      · rw [if_neg (by simpa using c2)]
      · refine Gives.bindE (show small s = some () from if_pos (by omega)) (Gives.some ?_)
        rw [if_pos (by simpa using c2)]
  · rw [if_neg (by omega)]
  · rw [h, Bool.true_and]
  · rw [h, Bool.false_and]
/-! ### numbers -/
def digF : Int → List UInt8 → Option Int
  | a, [] => some a
  | a, c :: r => if isDigB c = true then digF (a * 10 + ((c.toNat : Int) - 48)) r else none
def numS (s : List UInt8) : Option Int := if s = [] ∨ s.length > 10 ∨ (s.length > 1 ∧ s.head? = some 48) then none else digF 0 s
def intS (s : List UInt8) : Option Int := match s with
  | [] => none
  | c :: r => if c = 45 then (if r = [48] then none else (numS r).map (fun n => -n)) else numS (c :: r)
theorem intS_cons {c : UInt8} {r : List UInt8} : intS (c :: r) = if c = 45 then (if r = [48] then none else (numS r).map (fun n => -n)) else numS (c :: r) := rfl
def resI (o : Option Int) : Int × Bool := match o with | some n => (n, true) | none => (0, false)
theorem pow_le (i : Nat) (h : i ≤ 9) : (10 : Int) ^ i ≤ 1000000000 := by
  have : (10 : Nat) ^ i ≤ 10 ^ 9 := Nat.pow_le_pow_right (by decide) h
  have e : ((10 ^ i : Nat) : Int) = (10 : Int) ^ i := by rw [Int.natCast_pow]; rfl
  omega
theorem dig_step {a : Int} {i : Nat} {c : UInt8} (h0 : 0 ≤ a) (h : a < 10 ^ i) (hi : i ≤ 9) (hc : isDigB c = true) : 0 ≤ a * 10 + ((c.toNat : Int) - 48) ∧ a * 10 + ((c.toNat : Int) - 48) < 10 ^ (i + 1) ∧ a * 10 + ((c.toNat : Int) - 48) < 10000000000 ∧ IntKind.wrap .u8 ((c.toNat : Int) - 48) = (c.toNat : Int) - 48 := by
  have hp := pow_le i hi
  have hd : 48 ≤ c.toNat ∧ c.toNat ≤ 57 := of_decide_eq_true hc
  have e : (10 : Int) ^ (i + 1) = 10 ^ i * 10 := Int.pow_succ _ _
  rw [e]
  exact ⟨by omega, by omega, by omega, IntWalk.u8_in _ (by omega)⟩
theorem digF_none {a : Int} {c : UInt8} {r : List UInt8} (h : ¬ isDigB c = true) : digF a (c :: r) = none := by rw [digF, if_neg h]
theorem numS_bad {s : List UInt8} (h : s = [] ∨ s.length > 10 ∨ (s.length > 1 ∧ s.head? = some 48)) : numS s = none := if_pos h
theorem numS_good {s : List UInt8} (h : ¬ (s = [] ∨ s.length > 10 ∨ (s.length > 1 ∧ s.head? = some 48))) : numS s = digF 0 s := if_neg h
theorem numS_nodig {c : UInt8} {r : List UInt8} (h : ¬ isDigB c = true) : numS (c :: r) = none := by
  unfold numS
  split
  · rfl
  · exact digF_none h
theorem c48 {c : UInt8} : ((c.toNat : Nat) : Int) = 48 ↔ c = 48 := ⟨fun e => UInt8.toNat_inj.1 (by rw [show (48 : UInt8).toNat = 48 from rfl]; omega), fun e => by subst e; rfl⟩
theorem c45 {c : UInt8} : ((c.toNat : Nat) : Int) = 45 ↔ c = 45 := ⟨fun e => UInt8.toNat_inj.1 (by rw [show (45 : UInt8).toNat = 45 from rfl]; omega), fun e => by subst e; rfl⟩
/-- The digits are all read. -/
theorem digF_all : ∀ (s : List UInt8) (a : Int), s.all isDigB = true → ∃ n, digF a s = some n
  | [], a, _ => ⟨a, rfl⟩
  | c :: r, a, h => by
    rw [List.all_cons, Bool.and_eq_true] at h
    rw [digF, if_pos h.1]
    exact digF_all r _ h.2
theorem digF_alln : ∀ (s : List UInt8) (a : Int), s.all isDigB = false → digF a s = none
  | [], a, h => by cases h
  | c :: r, a, h => by
    rw [List.all_cons] at h
    by_cases hc : isDigB c = true
    · rw [digF, if_pos hc]
      rw [hc, Bool.true_and] at h
      exact digF_alln r _ h
    · exact digF_none hc
theorem digF_dec : ∀ (s : List UInt8) (a : Nat), s.all isDigB = true → ∃ m : Nat, Lib.decFrom a s = some m ∧ digF (a : Int) s = some (m : Int)
  | [], a, _ => ⟨a, rfl, rfl⟩
  | c :: r, a, h => by
    rw [List.all_cons, Bool.and_eq_true] at h
    have hd : 48 ≤ c.toNat ∧ c.toNat ≤ 57 := of_decide_eq_true h.1
    obtain ⟨m, h1, h2⟩ := digF_dec r (a * 10 + (c.toNat - 48)) h.2
    refine ⟨m, ?_, ?_⟩
    · unfold Lib.decFrom Lib.digitVal
      rw [if_pos hd]
      exact h1
    · rw [digF, if_pos h.1, ← h2]
      congr 1
      omega
theorem nn_id (x : Int) : - -x = x := by omega
theorem digit_byte (b : UInt8) : (!isDigB b) = decide (¬ (48 ≤ b.toNat ∧ b.toNat ≤ 57)) := by
  unfold isDigB; rw [decide_not]
def badN (s : List UInt8) : Prop := s = [] ∨ s.length > 10 ∨ (s.length > 1 ∧ s.head? = some 48)
instance (s : List UInt8) : Decidable (badN s) := inferInstanceAs (Decidable (_ ∨ _ ∨ _))
/-- The digits' loop and what follows it, in the program's number. -/
theorem m_numLoop (s : List UInt8) (neg : Bool) (hb : ¬ badN s) {k : Int → Option (Int × Bool)} {R : Int × Bool → Prop} (hk : ∀ n, digF 0 s = some n → -10000000000 < n → n < 10000000000 → Gives (k n) R) (hn : digF 0 s = none → R (0, false))
    {body : Int × Nat → Option ((Int × Nat) ⊕ (Int ⊕ (Int × Bool)))} (hbody : body = fun s36 =>
        if ((s36.2 : Nat) : Int) < ((s.length : Nat) : Int) then
          (
            ((s)[s36.2]?).bind fun x43 =>
            if ((x43.toNat : Nat) : Int) < 48 then
              some true
            else
              ((s)[s36.2]?).bind fun x46 =>
              some (decide (((x46.toNat : Nat) : Int) > 57))
          : Option Bool).bind fun (z41 : Bool) =>
          if z41 = true then
            some (.inr (.inr ((0 : Int), false)))
          else
            ((s)[s36.2]?).bind fun x50 =>
            (Mir.small s).bind fun x52 =>
            some (.inl (Mir.w64 ((Mir.w64 (s36.1 * 10)) + (Mir.w64 (IntKind.wrap .u8 (((x50.toNat : Nat) : Int) - 48)))), s36.2 + 1))
        else
          some (.inr (.inl s36.1))) : Gives (jx (Mir.Loop ((0 : Int), (0 : Nat)) body) k) R := by
  subst hbody
  have hl : s.length ≤ 10 := by
    rcases Nat.lt_or_ge 10 s.length with h | h
    · exact absurd (.inr (.inl h)) hb
    · exact h
  refine Gives.jx (fun n => digF 0 s = some n ∧ -10000000000 < n ∧ n < 10000000000) ?_ (fun n hn => hk n hn.1 hn.2.1 hn.2.2)
  refine Gives.loop (fun x => x.2 ≤ s.length ∧ 0 ≤ x.1 ∧ x.1 < 10 ^ x.2 ∧ digF 0 s = digF x.1 (s.drop x.2) ∧ x.1 < 10000000000) (fun x => s.length - x.2) ⟨Nat.zero_le _, by decide, by decide, rfl, by decide⟩ ?_
  rintro ⟨a, i⟩ ⟨i1, i2, i3, i4, i5⟩
  dsimp only at i1 i2 i3 i4 i5 ⊢
  refine Gives.ite (fun c1 => ?_) (fun c1 => Gives.some ?_)
  · have hi' : i < s.length := by omega
    have hx := List.getElem?_eq_getElem hi'
    rw [List.drop_eq_getElem_cons hi'] at i4
    generalize s[i] = b at *
    refine Gives.bind (fun z => z = !isDigB b) ?_ fun z hz => ?_
    · refine Gives.bindE hx (Gives.ite (fun c2 => Gives.some ?_) (fun c2 => Gives.bindE hx (Gives.some ?_)))
      · rw [show isDigB b = false from decide_eq_false (by omega)]; rfl
      · unfold isDigB; rw [← decide_not]; exact decide_eq_decide.2 (by omega)
    · subst hz
      refine Gives.ite (fun c2 => Gives.some ?_) (fun c2 => ?_)
      · have : ¬ isDigB b = true := by simpa using c2
        exact hn (by rw [i4, digF_none this])
      · have hb : isDigB b = true := by simpa using c2
        obtain ⟨d1, d2, d3, d4⟩ := dig_step i2 i3 (by omega) hb
        have hb' : 48 ≤ b.toNat ∧ b.toNat ≤ 57 := of_decide_eq_true hb
        refine Gives.bindE hx (Gives.bindE (show small s = some () from if_pos (by omega)) (Gives.some ?_))
        rw [d4, w64_eq (a := ((b.toNat : Nat) : Int) - 48) (by omega), w64_eq (a := a * 10) (by omega), w64_eq (by omega)]
        rw [digF, if_pos hb] at i4
        exact ⟨⟨by dsimp only; omega, d1, d2, i4, d3⟩, by dsimp only; omega⟩
  · rw [List.drop_of_length_le (by omega)] at i4
    exact ⟨i4, by omega, by omega⟩
theorem m_number (g : Nat) (s : List UInt8) (m : Bool) : m_code_number g s m = some (resI (if m = true then intS s else numS s)) := by
  unfold m_code_number
  refine Gives.eq ?_
  refine Gives.bind (fun z => z = (m && decide (s.length > 1 ∧ s.head? = some 45))) ?_ fun z hz => ?_
  · refine Gives.ite (fun c => ?_) (fun c => Gives.some ?_)
    · subst c
      refine Gives.ite (fun c => ?_) (fun c => Gives.some ?_)
      · match s, c with
        | x :: r, c =>
          refine Gives.bindE (show (x :: r)[0]? = some x from rfl) (Gives.some ?_)
          rw [Bool.true_and]
          refine decide_eq_decide.2 ⟨fun h => ⟨by omega, by rw [c45.1 h]; rfl⟩, fun h => ?_⟩
          have : x = 45 := Option.some.inj h.2
          exact c45.2 this
      · rw [Bool.true_and, decide_eq_false (by omega)]
    · have : m = false := by simpa using c
      rw [this]; rfl
  · -- the row that is read, and what it stands for
    have key : ∃ t : List UInt8, (if z = true then (Mir.sub s 1 ((s.length : Nat) : Int)).bind fun x12 => some x12 else some s) = some t ∧ (z = true → t ≠ [] ∧ (if m = true then intS s else numS s) = if t = [48] then none else (numS t).map (fun n => -n)) ∧ (z = false → (if m = true then intS s else numS s) = numS t) := by
      by_cases hz' : z = true
      · rw [if_pos hz']
        rw [hz'] at hz
        have hz2 := hz.symm
        rw [Bool.and_eq_true] at hz2
        have h2 : s.length > 1 ∧ s.head? = some 45 := of_decide_eq_true hz2.2
        match s, h2 with
        | x :: r, h2 =>
          have hx : x = 45 := Option.some.inj h2.2
          subst hx
          refine ⟨r, ?_, fun _ => ⟨?_, ?_⟩, fun h => ?_⟩
          · rw [sub_ok ⟨by decide, by rw [List.length_cons]; omega, by omega⟩, Int.toNat_natCast, List.take_length]; rfl
          · intro h; subst h; simp at h2
          · rw [if_pos hz2.1, intS_cons, if_pos rfl]
          · rw [hz'] at h; cases h
      · rw [if_neg hz']
        refine ⟨s, rfl, fun h => absurd h hz', fun _ => ?_⟩
        by_cases hm : m = true
        · rw [if_pos hm]
          have hz3 : z = false := by simpa using hz'
          rw [hz3, hm, Bool.true_and] at hz
          have h2 : ¬ (s.length > 1 ∧ s.head? = some 45) := of_decide_eq_false hz.symm
          match s, h2 with
          | [], _ => rfl
          | c :: r, h2 =>
            rw [intS_cons]
            by_cases hc : c = 45
            · subst hc
              have hr : r = [] := by
                cases r with
                | nil => rfl
                | cons d r => exact absurd ⟨by simp, rfl⟩ h2
              subst hr
              rfl
            · rw [if_neg hc]
        · rw [if_neg hm]
    obtain ⟨t, ht, k1, k2⟩ := key
    refine Gives.bindE ht ?_
    generalize (if m = true then intS s else numS s) = want at *
    clear ht hz
    refine Gives.bind (fun y => y = (z, decide (badN t) || (z && decide (t = [48])))) ?_ fun y hy => ?_
    · refine Gives.ite (fun c => Gives.some ?_) (fun c => ?_)
      · rw [decide_eq_true (show badN t from .inl c)]; rfl
      refine Gives.ite (fun c0 => Gives.some ?_) (fun c0 => ?_)
      · rw [decide_eq_true (show badN t from .inr (.inl (by omega)))]; rfl
      match t, c, c0 with
      | x :: r, c, c0 =>
        have fin : ¬ badN (x :: r) → Gives (if z = true then some (true, decide (x :: r = ([48] : List UInt8))) else some (false, false)) (fun y => y = (z, decide (badN (x :: r)) || (z && decide (x :: r = [48])))) := by
          intro h
          rw [decide_eq_false h, Bool.false_or]
          cases z
          · exact Gives.some rfl
          · exact Gives.some rfl
        refine Gives.ite (fun c1 => Gives.bindE (show (x :: r)[0]? = some x from rfl) (Gives.ite (fun c2 => Gives.some ?_) (fun c2 => fin ?_))) (fun c1 => fin ?_)
        · rw [decide_eq_true (show badN (x :: r) from .inr (.inr ⟨by omega, by rw [c48.1 c2]; rfl⟩))]; rfl
        · rintro (h | h | ⟨_, h⟩)
          · cases h
          · omega
          · have : x = 48 := Option.some.inj h
            exact absurd (c48.2 this) c2
        · rintro (h | h | ⟨h, _⟩)
          · cases h
          · omega
          · omega
    · subst hy
      dsimp only
      refine Gives.ite (fun c => Gives.some ?_) (fun c => ?_)
      · cases z
        · rw [Bool.false_and, Bool.or_false] at c
          rw [k2 rfl, numS_bad (of_decide_eq_true c)]; rfl
        · rw [Bool.true_and, Bool.or_eq_true] at c
          rw [(k1 rfl).2]
          rcases c with c | c
          · rw [numS_bad (of_decide_eq_true c)]
            split <;> rfl
          · rw [if_pos (of_decide_eq_true c)]; rfl
      · have hc : decide (badN t) = false ∧ (z && decide (t = [48])) = false := by simpa using c
        have hb : ¬ badN t := of_decide_eq_false hc.1
        refine m_numLoop t z hb (fun n hn n1 n2 => ?_) (fun hn => ?_) rfl
        · cases z
          · rw [k2 rfl, numS_good hb, hn]
            exact Gives.some rfl
          · have h48 : ¬ t = [48] := by simpa using hc.2
            rw [(k1 rfl).2, if_neg h48, numS_good hb, hn]
            refine Gives.some ?_
            rw [w64_eq (by omega)]
            rfl
        · cases z
          · rw [k2 rfl, numS_good hb, hn]; rfl
          · rw [(k1 rfl).2, numS_good hb, hn]
            split <;> rfl
end Go.Proofs.YtefclodjekeeiaaGreatDoor
