/- Numbers and leaves, in plain words: both sides tell them the same. -/
import Derived.Test.YtchecaeeiejjjaaVaAR
namespace Go.Proofs.Ytchecaeeiejjjaa
open Go Go.Mir
set_option linter.unusedVariables false
def digF : Int → List UInt8 → Option Int
  | a, [] => some a
  | a, c :: r => if isDigB c = true then digF (a * 10 + ((c.toNat : Int) - 48)) r else none
def numS (s : List UInt8) : Option Int := if s = [] ∨ s.length > 10 ∨ (s.length > 1 ∧ s.head? = some 48) then none else digF 0 s
def numR (s : List UInt8) : Int × Bool := match numS s with | some n => (n, true) | none => (0, false)
theorem pow_le (i : Nat) (h : i ≤ 9) : (10 : Int) ^ i ≤ 1000000000 := by
  have : (10 : Nat) ^ i ≤ 10 ^ 9 := Nat.pow_le_pow_right (by decide) h
  have e : ((10 ^ i : Nat) : Int) = (10 : Int) ^ i := by rw [Int.natCast_pow]; rfl
  omega
theorem dig_step {a : Int} {i : Nat} {c : UInt8} (h0 : 0 ≤ a) (h : a < 10 ^ i) (hi : i ≤ 9) (hc : isDigB c = true) : 0 ≤ a * 10 + ((c.toNat : Int) - 48) ∧ a * 10 + ((c.toNat : Int) - 48) < 10 ^ (i + 1) ∧ a * 10 + ((c.toNat : Int) - 48) < 10000000000 ∧ IntKind.wrap .u8 ((c.toNat : Int) - 48) = (c.toNat : Int) - 48 := by
  have hp := pow_le i hi
  have hd : 48 ≤ c.toNat ∧ c.toNat ≤ 57 := of_decide_eq_true hc
  have e : (10 : Int) ^ (i + 1) = 10 ^ i * 10 := Int.pow_succ _ _
  rw [e]
  exact ⟨by omega, by omega, by omega, IntWalk.u8_in _ (by omega)⟩
theorem digF_none {a : Int} {c : UInt8} {r : List UInt8} (h : ¬ isDigB c = true) : digF a (c :: r) = none := by rw [digF, if_neg h]
theorem numR_bad {s : List UInt8} (h : s = [] ∨ s.length > 10 ∨ (s.length > 1 ∧ s.head? = some 48)) : numR s = (0, false) := by
  unfold numR numS; rw [if_pos h]
theorem numR_good {s : List UInt8} (h : ¬ (s = [] ∨ s.length > 10 ∨ (s.length > 1 ∧ s.head? = some 48))) : numR s = match digF 0 s with | some n => (n, true) | none => (0, false) := by
  unfold numR numS; rw [if_neg h]
theorem c48 {c : UInt8} : ((c.toNat : Nat) : Int) = 48 ↔ c = 48 := ⟨fun e => UInt8.toNat_inj.1 (by rw [show (48 : UInt8).toNat = 48 from rfl]; omega), fun e => by subst e; rfl⟩
theorem m_numeral (g : Nat) (s : List UInt8) : m_value_numeral g s = some (numR s) := by
  unfold m_value_numeral
  refine Gives.eq ?_
  refine Gives.bind (fun z => z = decide (s = [] ∨ s.length > 10 ∨ (s.length > 1 ∧ s.head? = some 48))) ?_ fun z hz => ?_
  · refine Gives.ite (fun c => Gives.some (decide_eq_true (.inl c)).symm) (fun c => ?_)
    match s, c with
    | x :: r, c =>
      refine Gives.ite (fun c1 => Gives.bindE (show (x :: r)[0]? = some x from rfl) (Gives.ite (fun c2 => Gives.some ?_) (fun c2 => Gives.some ?_))) (fun c1 => Gives.some ?_)
      · exact (decide_eq_true (.inr (.inr ⟨by omega, by rw [c48.1 c2]; rfl⟩))).symm
      · refine decide_eq_decide.2 ⟨fun h => .inr (.inl (by omega)), fun h => ?_⟩
        rcases h with h | h | ⟨_, h⟩
        · cases h
        · omega
        · have : x = 48 := Option.some.inj h
          exact absurd (c48.2 this) c2
      · refine decide_eq_decide.2 ⟨fun h => .inr (.inl (by omega)), fun h => ?_⟩
        rcases h with h | h | ⟨h, _⟩
        · cases h
        · omega
        · omega
  · subst hz
    refine Gives.ite (fun c => Gives.some ?_) (fun c => ?_)
    · rw [numR_bad (of_decide_eq_true c)]
    · have c := fun h => c (decide_eq_true h)
      rw [numR_good c]
      have hl : s.length ≤ 10 := by
        rcases Nat.lt_or_ge 10 s.length with h | h
        · exact absurd (.inr (.inl h)) c
        · exact h
      refine Gives.jx (fun n => digF 0 s = some n) ?_ (fun n hn => Gives.some (by rw [hn]))
      refine Gives.loop (fun x => x.2 ≤ s.length ∧ 0 ≤ x.1 ∧ x.1 < 10 ^ x.2 ∧ digF 0 s = digF x.1 (s.drop x.2)) (fun x => s.length - x.2) ⟨Nat.zero_le _, by decide, by decide, rfl⟩ ?_
      rintro ⟨a, i⟩ ⟨i1, i2, i3, i4⟩
      dsimp only at i1 i2 i3 i4 ⊢
      refine Gives.ite (fun c1 => ?_) (fun c1 => Gives.some ?_)
      · have hi' : i < s.length := by omega
        have hx := List.getElem?_eq_getElem hi'
        rw [List.drop_eq_getElem_cons hi'] at i4
        generalize s[i] = b at *
        refine Gives.bind (fun z => z = !isDigB b) ?_ fun z hz => ?_
        · refine Gives.bindE hx (Gives.ite (fun c2 => Gives.some ?_) (fun c2 => Gives.bindE hx (Gives.some ?_)))
          · rw [show isDigB b = false from decide_eq_false (by omega)]; rfl
          · unfold isDigB; rw [← decide_not]; exact decide_eq_decide.2 (by omega)
        · subst hz
          refine Gives.ite (fun c2 => Gives.some ?_) (fun c2 => ?_)
          · have : ¬ isDigB b = true := by simpa using c2
            rw [i4, digF_none this]; rfl
          · have hb : isDigB b = true := by simpa using c2
            obtain ⟨d1, d2, d3, d4⟩ := dig_step i2 i3 (by omega) hb
            have hb' : 48 ≤ b.toNat ∧ b.toNat ≤ 57 := of_decide_eq_true hb
            refine Gives.bindE hx (Gives.bindE (show small s = some () from if_pos (by omega)) (Gives.some ?_))
            rw [d4, w64_eq (a := ((b.toNat : Nat) : Int) - 48) (by omega), w64_eq (a := a * 10) (by omega), w64_eq (by omega)]
            rw [digF, if_pos hb] at i4
            exact ⟨⟨by dsimp only; omega, d1, d2, i4⟩, by dsimp only; omega⟩
      · rw [List.drop_of_length_le (by omega)] at i4
        exact i4
theorem r_number (g : Nat) (s : List UInt8) (m : Int) : m_ref08_number g s m = some (if (numR s).2 = true then ((numR s).1, decide ((numR s).1 ≤ m)) else (0, false)) := by
  unfold m_ref08_number
  refine Gives.eq ?_
  refine Gives.bind (fun z => z = decide (s = [] ∨ s.length > 10 ∨ (s.length > 1 ∧ s.head? = some 48))) ?_ fun z hz => ?_
  · refine Gives.ite (fun c => Gives.some (decide_eq_true (.inl c)).symm) (fun c => ?_)
    refine Gives.ite (fun c0 => Gives.some (decide_eq_true (.inr (.inl (by omega)))).symm) (fun c0 => ?_)
    match s, c, c0 with
    | x :: r, c, c0 =>
      refine Gives.bindE (show (x :: r)[0]? = some x from rfl) (Gives.ite (fun c2 => Gives.some ?_) (fun c2 => Gives.some ?_))
      · refine decide_eq_decide.2 ⟨fun h => .inr (.inr ⟨by omega, by rw [c48.1 c2]; rfl⟩), fun h => ?_⟩
        rcases h with h | h | ⟨h, _⟩
        · cases h
        · omega
        · omega
      · refine (decide_eq_false fun h => ?_).symm
        rcases h with h | h | ⟨_, h⟩
        · cases h
        · omega
        · have : x = 48 := Option.some.inj h
          exact absurd (c48.2 this) c2
  · subst hz
    refine Gives.ite (fun c => Gives.some ?_) (fun c => ?_)
    · rw [numR_bad (of_decide_eq_true c)]; rfl
    · have c := fun h => c (decide_eq_true h)
      rw [numR_good c]
      have hl : s.length ≤ 10 := by
        rcases Nat.lt_or_ge 10 s.length with h | h
        · exact absurd (.inr (.inl h)) c
        · exact h
      refine Gives.jx (fun n => digF 0 s = some n) ?_ (fun n hn => Gives.some (by rw [hn]; rfl))
      refine Gives.loop (fun x => x.2 ≤ s.length ∧ 0 ≤ x.1 ∧ x.1 < 10 ^ x.2 ∧ digF 0 s = digF x.1 (s.drop x.2)) (fun x => s.length - x.2) ⟨Nat.zero_le _, by decide, by decide, rfl⟩ ?_
      rintro ⟨a, i⟩ ⟨i1, i2, i3, i4⟩
      dsimp only at i1 i2 i3 i4 ⊢
      refine Gives.ite (fun c1 => ?_) (fun c1 => Gives.some ?_)
      · have hi' : i < s.length := by omega
        have hx := List.getElem?_eq_getElem hi'
        rw [List.drop_eq_getElem_cons hi'] at i4
        generalize s[i] = b at *
        refine Gives.bindE hx (Gives.bindE (r_digit g _) (Gives.ite (fun c2 => ?_) (fun c2 => Gives.some ?_)))
        · have hb : isDigB b = true := c2
          obtain ⟨d1, d2, d3, d4⟩ := dig_step i2 i3 (by omega) hb
          have hb' : 48 ≤ b.toNat ∧ b.toNat ≤ 57 := of_decide_eq_true hb
          refine Gives.bindE hx (Gives.bindE (show small s = some () from if_pos (by omega)) (Gives.some ?_))
          rw [d4, w64_eq (a := ((b.toNat : Nat) : Int) - 48) (by omega), Int.mul_comm 10 a, w64_eq (a := a * 10) (by omega), w64_eq (by omega)]
          rw [digF, if_pos hb] at i4
          exact ⟨⟨by dsimp only; omega, d1, d2, i4⟩, by dsimp only; omega⟩
        · rw [i4, digF_none c2]; rfl
      · rw [List.drop_of_length_le (by omega)] at i4
        exact i4
/-- What a word says as a leaf: the kind, the name, the number. -/
def leafS (s : List UInt8) : Option (Int × List UInt8 × Int) := match s with
  | [] => none
  | c :: r =>
    if 65 ≤ c.toNat ∧ c.toNat ≤ 90 then (if nameS 65 90 (c :: r) = true then some (1, c :: r, 0) else none)
    else if c.toNat = 39 then (if coreS r = true then some (4, r, 0) else none)
    else if c.toNat = 95 then (if (numR r).2 = true ∧ (numR r).1 ≤ 300 then some (3, [], (numR r).1) else none)
    else if c.toNat = 45 then (if (numR r).2 = true ∧ (numR r).1 > 0 ∧ (numR r).1 ≤ 1000000000 then some (2, [], -(numR r).1) else none)
    else if (numR (c :: r)).2 = true ∧ (numR (c :: r)).1 ≤ 1000000000 then some (2, [], (numR (c :: r)).1) else none
def LeafIs (s : List UInt8) (r : Int × List UInt8 × Int × Bool) : Prop := (leafS s = none ∧ r.2.2.2 = false) ∨ ∃ x, leafS s = some x ∧ r = (x.1, x.2.1, x.2.2, true)
theorem sub_tail {c : UInt8} {r : List UInt8} : sub (c :: r) 1 (((c :: r).length : Nat) : Int) = some r := by
  rw [sub_ok ⟨by decide, by rw [List.length_cons]; omega, by omega⟩, Int.toNat_natCast, List.take_length]; rfl
theorem leafIs_if {s : List UInt8} {P : Prop} [Decidable P] {x : Int × List UInt8 × Int} {r : Int × List UInt8 × Int × Bool} (h : leafS s = if P then some x else none) (h1 : P → r = (x.1, x.2.1, x.2.2, true)) (h2 : ¬ P → r.2.2.2 = false) : LeafIs s r := by
  by_cases c : P
  · exact .inr ⟨x, by rw [h, if_pos c], h1 c⟩
  · exact .inl ⟨by rw [h, if_neg c], h2 c⟩
theorem m_atom (g : Nat) {s : List UInt8} (hs : s ≠ []) : Gives (m_value_atom g s) (LeafIs s) := by
  unfold m_value_atom
  match s, hs with
  | c :: r, _ =>
    refine Gives.bindE (show (c :: r)[0]? = some c from rfl) ?_
    refine Gives.bind (fun z => z = decide (65 ≤ c.toNat ∧ c.toNat ≤ 90)) ?_ fun z hz => ?_
    · refine Gives.ite (fun c1 => Gives.some (decide_eq_decide.2 (by omega))) (fun c1 => Gives.some (decide_eq_false (by omega)).symm)
    subst hz
    refine Gives.ite (fun c1 => ?_) (fun c1 => ?_)
    · have c1 := of_decide_eq_true c1
      refine Gives.bindE (m_isName g _ _ _) (Gives.some (leafIs_if (by unfold leafS; exact if_pos c1) (fun h => by rw [h]) (fun h => by simpa using h)))
    · have c1 := fun h => c1 (decide_eq_true h)
      refine Gives.ite (fun c2 => ?_) (fun c2 => ?_)
      · refine Gives.bindE sub_tail (Gives.bindE sub_tail (Gives.bindE (m_isFunction g _) (Gives.some (leafIs_if (by unfold leafS; dsimp only; rw [if_neg c1]; exact if_pos (by omega)) (fun h => by rw [h]) (fun h => by simpa using h)))))
      · refine Gives.ite (fun c3 => ?_) (fun c3 => ?_)
        · refine Gives.bindE sub_tail (Gives.bindE (m_numeral g _) ?_)
          refine Gives.bind (fun z => z = decide ((numR r).2 = true ∧ (numR r).1 ≤ 300)) ?_ fun z hz => ?_
          · refine Gives.ite (fun c4 => Gives.some (decide_eq_decide.2 ⟨fun h => ⟨c4, h⟩, fun h => h.2⟩)) (fun c4 => Gives.some (decide_eq_false fun h => c4 h.1).symm)
          subst hz
          exact Gives.some (leafIs_if (by unfold leafS; dsimp only; rw [if_neg c1, if_neg (by omega)]; exact if_pos (by omega)) (fun h => by rw [decide_eq_true h]) (fun h => decide_eq_false h))
        · refine Gives.ite (fun c4 => ?_) (fun c4 => ?_)
          · refine Gives.bindE sub_tail (Gives.bindE (m_numeral g _) ?_)
            refine Gives.bind (fun z => z = decide ((numR r).2 = true ∧ (numR r).1 > 0 ∧ (numR r).1 ≤ 1000000000)) ?_ fun z hz => ?_
            · refine Gives.ite (fun c5 => Gives.ite (fun c6 => Gives.some (decide_eq_decide.2 ⟨fun h => ⟨c5, c6, h⟩, fun h => h.2.2⟩)) (fun c6 => Gives.some (decide_eq_false fun h => c6 h.2.1).symm)) (fun c5 => Gives.some (decide_eq_false fun h => c5 h.1).symm)
            subst hz
            exact Gives.some (leafIs_if (by unfold leafS; dsimp only; rw [if_neg c1, if_neg (by omega), if_neg (by omega)]; exact if_pos (by omega)) (fun h => by rw [decide_eq_true h, w64_eq (by omega)]) (fun h => decide_eq_false h))
          · refine Gives.bindE (m_numeral g _) ?_
            refine Gives.bind (fun z => z = decide ((numR (c :: r)).2 = true ∧ (numR (c :: r)).1 ≤ 1000000000)) ?_ fun z hz => ?_
            · refine Gives.ite (fun c5 => Gives.some (decide_eq_decide.2 ⟨fun h => ⟨c5, h⟩, fun h => h.2⟩)) (fun c5 => Gives.some (decide_eq_false fun h => c5 h.1).symm)
            subst hz
            exact Gives.some (leafIs_if (by unfold leafS; dsimp only; rw [if_neg c1, if_neg (by omega), if_neg (by omega), if_neg (by omega)]) (fun h => by rw [decide_eq_true h]) (fun h => decide_eq_false h))
theorem m_isAtom (g : Nat) {s : List UInt8} (hs : s ≠ []) : m_value_isAtom g s = some (leafS s).isSome := by
  unfold m_value_isAtom
  refine Gives.eq (Gives.bind _ (m_atom g hs) fun r hr => Gives.some ?_)
  rcases hr with ⟨h1, h2⟩ | ⟨x, h1, rfl⟩
  · rw [h1, h2]; rfl
  · rw [h1]; rfl
theorem numR_letter {c : UInt8} {r : List UInt8} (h : ¬ isDigB c = true) : numR (c :: r) = (0, false) := by
  by_cases hb : (c :: r : List UInt8) = [] ∨ (c :: r).length > 10 ∨ ((c :: r).length > 1 ∧ (c :: r).head? = some 48)
  · exact numR_bad hb
  · rw [numR_good hb, digF_none h]
theorem nameS_head {c : UInt8} {r : List UInt8} (h : ¬ (65 ≤ c.toNat ∧ c.toNat ≤ 90)) : nameS 65 90 (c :: r) = false := by
  have e : headIn 65 90 (c :: r) = false := show decide ((65 : Int) ≤ ((c.toNat : Nat) : Int) ∧ ((c.toNat : Nat) : Int) ≤ 90) = false from decide_eq_false (by omega)
  unfold nameS
  rw [e, Bool.and_false, Bool.false_and]
theorem r_leaf (g : Nat) (s : List UInt8) : Gives (m_ref08_leaf g s) (LeafIs s) := by
  unfold m_ref08_leaf
  match s with
  | [] => exact Gives.pos rfl (Gives.some (.inl ⟨rfl, rfl⟩))
  | c :: r =>
    refine Gives.neg (by simp) (Gives.bindE (r_IsGreat g _) ?_)
    by_cases c1 : 65 ≤ c.toNat ∧ c.toNat ≤ 90
    · refine Gives.ite (fun h => Gives.some (leafIs_if (by unfold leafS; exact if_pos c1) (fun _ => rfl) (fun h' => absurd h h'))) (fun h => ?_)
      refine Gives.bind (fun z => z = false) (Gives.bindE (show (c :: r)[0]? = some c from rfl) (Gives.neg (by omega) (Gives.some rfl))) fun z hz => ?_
      subst hz
      refine Gives.neg (by decide) (Gives.bindE (show (c :: r)[0]? = some c from rfl) (Gives.neg (by omega) (Gives.bindE (show (c :: r)[0]? = some c from rfl) (Gives.neg (by omega) (Gives.bindE (r_number g _ _) (Gives.some ?_))))))
      refine .inl ⟨by unfold leafS; dsimp only; rw [if_pos c1, if_neg h], ?_⟩
      rw [numR_letter (fun h => by have : 48 ≤ c.toNat ∧ c.toNat ≤ 57 := of_decide_eq_true h; omega)]; rfl
    · refine Gives.neg (by rw [nameS_head c1]; decide) ?_
      by_cases c2 : c.toNat = 39
      · have hl : leafS (c :: r) = if coreS r = true then some (4, r, 0) else none := by unfold leafS; dsimp only; rw [if_neg c1]; exact if_pos c2
        refine Gives.bind (fun z => z = coreS r) (Gives.bindE (show (c :: r)[0]? = some c from rfl) (Gives.pos (by omega) (Gives.bindE sub_tail (Gives.bindE (r_IsCore g _) (Gives.some rfl))))) fun z hz => ?_
        subst hz
        refine Gives.ite (fun h => Gives.bindE sub_tail (Gives.some (leafIs_if hl (fun _ => rfl) (fun h' => absurd h h')))) (fun h => ?_)
        refine Gives.bindE (show (c :: r)[0]? = some c from rfl) (Gives.neg (by omega) (Gives.bindE (show (c :: r)[0]? = some c from rfl) (Gives.neg (by omega) (Gives.bindE (r_number g _ _) (Gives.some ?_)))))
        refine .inl ⟨by rw [hl, if_neg h], ?_⟩
        rw [numR_letter (fun h => by have : 48 ≤ c.toNat ∧ c.toNat ≤ 57 := of_decide_eq_true h; omega)]; rfl
      · refine Gives.bind (fun z => z = false) (Gives.bindE (show (c :: r)[0]? = some c from rfl) (Gives.neg (by omega) (Gives.some rfl))) fun z hz => ?_
        subst hz
        refine Gives.neg (by decide) (Gives.bindE (show (c :: r)[0]? = some c from rfl) (Gives.ite (fun c3 => ?_) (fun c3 => ?_)))
        · refine Gives.bindE sub_tail (Gives.bindE (r_number g _ _) (Gives.some (leafIs_if (by unfold leafS; dsimp only; rw [if_neg c1, if_neg c2]; exact if_pos (by omega)) (fun h => by rw [if_pos h.1, decide_eq_true h.2]) (fun h => ?_))))
          by_cases h5 : (numR r).2 = true
          · rw [if_pos h5]; exact decide_eq_false fun h6 => h ⟨h5, h6⟩
          · rw [if_neg h5]
        · refine Gives.bindE (show (c :: r)[0]? = some c from rfl) (Gives.ite (fun c4 => ?_) (fun c4 => ?_))
          · refine Gives.bindE sub_tail (Gives.bindE (r_number g _ _) ?_)
            have hl : leafS (c :: r) = if (numR r).2 = true ∧ (numR r).1 > 0 ∧ (numR r).1 ≤ 1000000000 then some (2, [], -(numR r).1) else none := by unfold leafS; dsimp only; rw [if_neg c1, if_neg c2, if_neg (by omega)]; exact if_pos (by omega)
            by_cases h5 : (numR r).2 = true
            · rw [if_pos h5]
              refine Gives.bind (fun z => z = decide ((numR r).2 = true ∧ (numR r).1 > 0 ∧ (numR r).1 ≤ 1000000000)) ?_ fun z hz => ?_
              · refine Gives.ite (fun c6 => Gives.some (decide_eq_decide.2 ⟨fun h => ⟨h5, h, of_decide_eq_true c6⟩, fun h => h.2.1⟩)) (fun c6 => Gives.some (decide_eq_false fun h => c6 (decide_eq_true h.2.2)).symm)
              subst hz
              exact Gives.some (leafIs_if hl (fun h => by rw [decide_eq_true h, w64_eq (by omega)]) (fun h => decide_eq_false h))
            · rw [if_neg h5]
              exact Gives.bind (fun z => z = false) (Gives.neg (by decide) (Gives.some rfl)) fun z hz => Gives.some (by subst hz; exact leafIs_if hl (fun h => absurd h.1 h5) (fun _ => rfl))
          · refine Gives.bindE (r_number g _ _) (Gives.some (leafIs_if (by unfold leafS; dsimp only; rw [if_neg c1, if_neg c2, if_neg (by omega), if_neg (by omega)]) (fun h => by rw [if_pos h.1, decide_eq_true h.2]) (fun h => ?_)))
            by_cases h5 : (numR (c :: r)).2 = true
            · rw [if_pos h5]; exact decide_eq_false fun h6 => h ⟨h5, h6⟩
            · rw [if_neg h5]
end Go.Proofs.Ytchecaeeiejjjaa
