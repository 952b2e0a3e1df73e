/- Twins of plain words that the kernel can evaluate. -/
import Derived.Test.YtefclodjekeeiaaGreatDoorMi
namespace Go.Mir
def LoopG {S Q : Type} (g : Nat) (s : S) (body : S → Option (S ⊕ Q)) : Option Q := LoopN body g s
def Le {α : Type} (x y : Option α) : Prop := ∀ r, x = some r → y = some r
theorem Le.refl {α : Type} (x : Option α) : Le x x := fun _ h => h
theorem Le.bind {α β : Type} {x y : Option α} {f h : α → Option β} (h1 : Le x y) (h2 : ∀ a, Le (f a) (h a)) : Le (x.bind f) (y.bind h) := by
  intro r hr
  obtain ⟨a, ha, hb⟩ := Option.bind_eq_some_iff.1 hr
  rw [h1 a ha]; exact h2 a r hb
theorem Le.ite {α : Type} {c : Prop} [Decidable c] {x y x2 y2 : Option α} (h1 : Le x x2) (h2 : Le y y2) : Le (if c then x else y) (if c then x2 else y2) := by
  by_cases hc : c
  · rw [if_pos hc, if_pos hc]; exact h1
  · rw [if_neg hc, if_neg hc]; exact h2
theorem Le.jx {J A : Type} {x y : Option (J ⊕ A)} {f h : J → Option A} (h1 : Le x y) (h2 : ∀ a, Le (f a) (h a)) : Le (Mir.jx x f) (Mir.jx y h) := by
  intro r hr
  cases hx : x with
  | none => rw [hx] at hr; cases hr
  | some o =>
    rw [h1 o hx]; rw [hx] at hr
    cases o with
    | inl j => exact h2 j r hr
    | inr a => exact hr
theorem Le.loopN {S Q : Type} {b b2 : S → Option (S ⊕ Q)} (h : ∀ s, Le (b s) (b2 s)) : ∀ (n : Nat) (s : S), Le (LoopN b n s) (LoopN b2 n s)
  | 0, _ => fun _ h => by cases h
  | n + 1, s => by
    intro r hr
    rw [LoopN] at hr ⊢
    cases hb : b s with
    | none => rw [hb] at hr; cases hr
    | some o =>
      rw [h s o hb]; rw [hb] at hr
      cases o with
      | inl s1 => exact Le.loopN h n s1 r hr
      | inr q => exact hr
theorem Le.loop {S Q : Type} {g : Nat} {s : S} {b b2 : S → Option (S ⊕ Q)} (h : ∀ s, Le (b s) (b2 s)) : Le (LoopG g s b) (Mir.Loop s b2) := fun r hr => Loop_some.2 ⟨g, Le.loopN h g s r hr⟩
end Go.Mir
namespace Go.Proofs.YtefclodjekeeiaaGreatDoor
open Go Go.Mir
set_option linter.unusedVariables false
def c_stringslite_HasSuffix (g : Nat) (a0 : List UInt8) (a1 : List UInt8) : Option Bool :=
  (
    if ((a0.length : Nat) : Int) ≥ ((a1.length : Nat) : Int) then
      (Mir.small a0).bind fun x4 =>
      (Mir.small a1).bind fun x6 =>
      (Mir.sub a0 (((a0.length : Nat) : Int) - ((a1.length : Nat) : Int)) ((a0.length : Nat) : Int)).bind fun x8 =>
      some (decide (x8 = a1))
    else
      some false
  : Option Bool).bind fun (z1 : Bool) =>
  some z1
theorem c_stringslite_HasSuffix_le (g : Nat) (a0 : List UInt8) (a1 : List UInt8) : Le (c_stringslite_HasSuffix g a0 a1) (m_stringslite_HasSuffix g a0 a1) := by
  unfold c_stringslite_HasSuffix m_stringslite_HasSuffix
  repeat first | with_reducible exact Le.refl _ | refine Le.bind ?_ (fun _ => ?_) | refine Le.ite ?_ ?_ | refine Le.jx ?_ (fun _ => ?_) | refine Le.loop (fun _ => ?_)
def c_stringslite_TrimSuffix (g : Nat) (a0 : List UInt8) (a1 : List UInt8) : Option (List UInt8) :=
  (c_stringslite_HasSuffix g a0 a1).bind fun q1 =>
  if q1 = true then
    (Mir.small a0).bind fun x6 =>
    (Mir.small a1).bind fun x8 =>
    (Mir.sub a0 0 (((a0.length : Nat) : Int) - ((a1.length : Nat) : Int))).bind fun x10 =>
    some x10
  else
    some a0
theorem c_stringslite_TrimSuffix_le (g : Nat) (a0 : List UInt8) (a1 : List UInt8) : Le (c_stringslite_TrimSuffix g a0 a1) (m_stringslite_TrimSuffix g a0 a1) := by
  unfold c_stringslite_TrimSuffix m_stringslite_TrimSuffix
  repeat first | with_reducible exact Le.refl _ | with_reducible apply c_stringslite_HasSuffix_le | refine Le.bind ?_ (fun _ => ?_) | refine Le.ite ?_ ?_ | refine Le.jx ?_ (fun _ => ?_) | refine Le.loop (fun _ => ?_)
def c_strings_TrimSuffix (g : Nat) (a0 : List UInt8) (a1 : List UInt8) : Option (List UInt8) :=
  (c_stringslite_TrimSuffix g a0 a1).bind fun q1 =>
  some q1
theorem c_strings_TrimSuffix_le (g : Nat) (a0 : List UInt8) (a1 : List UInt8) : Le (c_strings_TrimSuffix g a0 a1) (m_strings_TrimSuffix g a0 a1) := by
  unfold c_strings_TrimSuffix m_strings_TrimSuffix
  repeat first | with_reducible exact Le.refl _ | with_reducible apply c_stringslite_TrimSuffix_le | refine Le.bind ?_ (fun _ => ?_) | refine Le.ite ?_ ?_ | refine Le.jx ?_ (fun _ => ?_) | refine Le.loop (fun _ => ?_)
def c_strings_genSplit (g : Nat) (a0 : List UInt8) (a1 : List UInt8) (a2 : Int) (a3 : Int) : Option (List (List UInt8)) :=
  if a3 = 0 then
    some ([] : List (List UInt8))
  else
    if a1 = ([] : List UInt8) then
      none
    else
      (
        if a3 < 0 then
          (Mir.x_count g a0 a1).bind fun q10 =>
          some (Mir.w64 (q10 + 1))
        else
          some a3
      : Option Int).bind fun (z5 : Int) =>
      (Mir.small a0).bind fun x15 =>
      (Mir.made 16 (if ((a0.length + 1 : Nat) : Int) < z5 then ((a0.length + 1 : Nat) : Int) else z5) ([] : List UInt8)).bind fun x17 =>
      (
        Mir.LoopG g (S := List UInt8 × List (List UInt8) × Int) (Q := List UInt8 × List (List UInt8) × Int) (a0, x17, (0 : Int)) fun s55 =>
          if s55.2.2 < Mir.w64 ((if ((a0.length + 1 : Nat) : Int) < z5 then ((a0.length + 1 : Nat) : Int) else z5) - 1) then
            (Mir.x_index g s55.1 a1).bind fun q68 =>
            if q68 < 0 then
              some (.inr (s55.1, s55.2.1, s55.2.2))
            else
              (Mir.sub s55.1 0 (Mir.w64 (q68 + a2))).bind fun x74 =>
              (Mir.idx s55.2.1 s55.2.2).bind fun x76 =>
              (Mir.upd s55.2.1 s55.2.2 x74).bind fun x86 =>
              (Mir.small a1).bind fun x88 =>
              (Mir.sub s55.1 (Mir.w64 (q68 + ((a1.length : Nat) : Int))) ((s55.1.length : Nat) : Int)).bind fun x90 =>
              some (.inl (x90, x86, Mir.w64 (s55.2.2 + 1)))
          else
            some (.inr (s55.1, s55.2.1, s55.2.2))
      : Option (List UInt8 × List (List UInt8) × Int)).bind fun (z25 : List UInt8 × List (List UInt8) × Int) =>
      (Mir.idx z25.2.1 z25.2.2).bind fun x93 =>
      (Mir.upd z25.2.1 z25.2.2 z25.1).bind fun x103 =>
      (Mir.sub x103 0 (Mir.w64 (z25.2.2 + 1))).bind fun x105 =>
      some x105
theorem c_strings_genSplit_le (g : Nat) (a0 : List UInt8) (a1 : List UInt8) (a2 : Int) (a3 : Int) : Le (c_strings_genSplit g a0 a1 a2 a3) (m_strings_genSplit g a0 a1 a2 a3) := by
  unfold c_strings_genSplit m_strings_genSplit
  repeat first | with_reducible exact Le.refl _ | refine Le.bind ?_ (fun _ => ?_) | refine Le.ite ?_ ?_ | refine Le.jx ?_ (fun _ => ?_) | refine Le.loop (fun _ => ?_)
def c_strings_Split (g : Nat) (a0 : List UInt8) (a1 : List UInt8) : Option (List (List UInt8)) :=
  (c_strings_genSplit g a0 a1 0 (-1)).bind fun q1 =>
  some q1
theorem c_strings_Split_le (g : Nat) (a0 : List UInt8) (a1 : List UInt8) : Le (c_strings_Split g a0 a1) (m_strings_Split g a0 a1) := by
  unfold c_strings_Split m_strings_Split
  repeat first | with_reducible exact Le.refl _ | with_reducible apply c_strings_genSplit_le | refine Le.bind ?_ (fun _ => ?_) | refine Le.ite ?_ ?_ | refine Le.jx ?_ (fun _ => ?_) | refine Le.loop (fun _ => ?_)
def c_code_isWord (g : Nat) (a0 : List UInt8) : Option Bool :=
  jx (J := Unit) (A := Bool) (
    Mir.LoopG g (S := Nat) (Q := (Unit) ⊕ (Bool)) (0 : Nat) fun s5 =>
      if ((s5 : Nat) : Int) < ((a0.length : Nat) : Int) then
        ((a0)[s5]?).bind fun x10 =>
        (
          if ((x10.toNat : Nat) : Int) ≥ 97 then
            if ((x10.toNat : Nat) : Int) ≤ 122 then
              some false
            else
              if ((x10.toNat : Nat) : Int) ≥ 65 then
                if ((x10.toNat : Nat) : Int) ≤ 90 then
                  some false
                else
                  if ((x10.toNat : Nat) : Int) ≥ 48 then
                    if ((x10.toNat : Nat) : Int) ≤ 57 then
                      some false
                    else
                      some (!(decide (((x10.toNat : Nat) : Int) = 95)))
                  else
                    some (!(decide (((x10.toNat : Nat) : Int) = 95)))
              else
                if ((x10.toNat : Nat) : Int) ≥ 48 then
                  if ((x10.toNat : Nat) : Int) ≤ 57 then
                    some false
                  else
                    some (!(decide (((x10.toNat : Nat) : Int) = 95)))
                else
                  some (!(decide (((x10.toNat : Nat) : Int) = 95)))
          else
            if ((x10.toNat : Nat) : Int) ≥ 65 then
              if ((x10.toNat : Nat) : Int) ≤ 90 then
                some false
              else
                if ((x10.toNat : Nat) : Int) ≥ 48 then
                  if ((x10.toNat : Nat) : Int) ≤ 57 then
                    some false
                  else
                    some (!(decide (((x10.toNat : Nat) : Int) = 95)))
                else
                  some (!(decide (((x10.toNat : Nat) : Int) = 95)))
            else
              if ((x10.toNat : Nat) : Int) ≥ 48 then
                if ((x10.toNat : Nat) : Int) ≤ 57 then
                  some false
                else
                  some (!(decide (((x10.toNat : Nat) : Int) = 95)))
              else
                some (!(decide (((x10.toNat : Nat) : Int) = 95)))
        : Option Bool).bind fun (z12 : Bool) =>
        if z12 = true then
          some (.inr (.inr false))
        else
          (Mir.small a0).bind fun x30 =>
          some (.inl (s5 + 1))
      else
        some (.inr (.inl ()))
  ) fun z1 =>
  some (!decide (a0 = ([] : List UInt8)))
theorem c_code_isWord_le (g : Nat) (a0 : List UInt8) : Le (c_code_isWord g a0) (m_code_isWord g a0) := by
  unfold c_code_isWord m_code_isWord
  repeat first | with_reducible exact Le.refl _ | refine Le.bind ?_ (fun _ => ?_) | refine Le.ite ?_ ?_ | refine Le.jx ?_ (fun _ => ?_) | refine Le.loop (fun _ => ?_)
def c_code_number (g : Nat) (a0 : List UInt8) (a1 : Bool) : Option (Int × Bool) :=
  (
    if a1 = true then
      if ((a0.length : Nat) : Int) > 1 then
        ((a0)[0]?).bind fun x6 =>
        some (decide (((x6.toNat : Nat) : Int) = 45))
      else
        some false
    else
      some false
  : Option Bool).bind fun (z1 : Bool) =>
  (
    if z1 = true then
      (Mir.sub a0 1 ((a0.length : Nat) : Int)).bind fun x12 =>
      some x12
    else
      some a0
  : Option (List UInt8)).bind fun (z9 : List UInt8) =>
  (
    if z9 = ([] : List UInt8) then
      some (z1, true)
    else
      if ((z9.length : Nat) : Int) > 10 then
        some (z1, true)
      else
        if ((z9.length : Nat) : Int) > 1 then
          ((z9)[0]?).bind fun x20 =>
          if ((x20.toNat : Nat) : Int) = 48 then
            some (z1, true)
          else
            if z1 = true then
              some (true, decide (z9 = ([48] : List UInt8)))
            else
              some (false, false)
        else
          if z1 = true then
            some (true, decide (z9 = ([48] : List UInt8)))
          else
            some (false, false)
  : Option (Bool × Bool)).bind fun (z15 : Bool × Bool) =>
  if z15.2 = true then
    some ((0 : Int), false)
  else
    jx (J := Int) (A := Int × Bool) (
      Mir.LoopG g (S := Int × Nat) (Q := (Int) ⊕ (Int × Bool)) ((0 : Int), (0 : Nat)) fun s36 =>
        if ((s36.2 : Nat) : Int) < ((z9.length : Nat) : Int) then
          (
            ((z9)[s36.2]?).bind fun x43 =>
            if ((x43.toNat : Nat) : Int) < 48 then
              some true
            else
              ((z9)[s36.2]?).bind fun x46 =>
              some (decide (((x46.toNat : Nat) : Int) > 57))
          : Option Bool).bind fun (z41 : Bool) =>
          if z41 = true then
            some (.inr (.inr ((0 : Int), false)))
          else
            ((z9)[s36.2]?).bind fun x50 =>
            (Mir.small z9).bind fun x52 =>
            some (.inl (Mir.w64 ((Mir.w64 (s36.1 * 10)) + (Mir.w64 (IntKind.wrap .u8 (((x50.toNat : Nat) : Int) - 48)))), s36.2 + 1))
        else
          some (.inr (.inl s36.1))
    ) fun z31 =>
    (
      if z15.1 = true then
        some (Mir.w64 (-z31))
      else
        some z31
    : Option Int).bind fun (z55 : Int) =>
    some (z55, true)
theorem c_code_number_le (g : Nat) (a0 : List UInt8) (a1 : Bool) : Le (c_code_number g a0 a1) (m_code_number g a0 a1) := by
  unfold c_code_number m_code_number
  repeat first | with_reducible exact Le.refl _ | refine Le.bind ?_ (fun _ => ?_) | refine Le.ite ?_ ?_ | refine Le.jx ?_ (fun _ => ?_) | refine Le.loop (fun _ => ?_)
def c_code_numbers (g : Nat) (a0 : List (List UInt8)) : Option (List Int × Bool) :=
  jx (J := List Int) (A := List Int × Bool) (
    Mir.LoopG g (S := List Int × Nat) (Q := (List Int) ⊕ (List Int × Bool)) (([] : List Int), (0 : Nat)) fun s22 =>
      if ((s22.2 : Nat) : Int) < ((a0.length : Nat) : Int) then
        ((a0)[s22.2]?).bind fun x36 =>
        (c_code_number g x36 false).bind fun q43 =>
        if q43.2 = true then
          (Mir.push 8 s22.1 [q43.1]).bind fun x54 =>
          some (.inl (x54, s22.2 + 1))
        else
          some (.inr (.inr (([] : List Int), false)))
      else
        some (.inr (.inl s22.1))
  ) fun z2 =>
  some (z2, true)
theorem c_code_numbers_le (g : Nat) (a0 : List (List UInt8)) : Le (c_code_numbers g a0) (m_code_numbers g a0) := by
  unfold c_code_numbers m_code_numbers
  repeat first | with_reducible exact Le.refl _ | with_reducible apply c_code_number_le | refine Le.bind ?_ (fun _ => ?_) | refine Le.ite ?_ ?_ | refine Le.jx ?_ (fun _ => ?_) | refine Le.loop (fun _ => ?_)
def c_stringslite_Cut (g : Nat) (a0 : List UInt8) (a1 : List UInt8) : Option (List UInt8 × List UInt8 × Bool) :=
  (Mir.x_index g a0 a1).bind fun q1 =>
  if q1 ≥ 0 then
    (Mir.sub a0 0 q1).bind fun x6 =>
    (Mir.small a1).bind fun x8 =>
    (Mir.sub a0 (Mir.w64 (q1 + ((a1.length : Nat) : Int))) ((a0.length : Nat) : Int)).bind fun x10 =>
    some (x6, x10, true)
  else
    some (a0, ([] : List UInt8), false)
theorem c_stringslite_Cut_le (g : Nat) (a0 : List UInt8) (a1 : List UInt8) : Le (c_stringslite_Cut g a0 a1) (m_stringslite_Cut g a0 a1) := by
  unfold c_stringslite_Cut m_stringslite_Cut
  repeat first | with_reducible exact Le.refl _ | refine Le.bind ?_ (fun _ => ?_) | refine Le.ite ?_ ?_ | refine Le.jx ?_ (fun _ => ?_) | refine Le.loop (fun _ => ?_)
def c_strings_Cut (g : Nat) (a0 : List UInt8) (a1 : List UInt8) : Option (List UInt8 × List UInt8 × Bool) :=
  (c_stringslite_Cut g a0 a1).bind fun q1 =>
  some (q1.1, q1.2.1, q1.2.2)
theorem c_strings_Cut_le (g : Nat) (a0 : List UInt8) (a1 : List UInt8) : Le (c_strings_Cut g a0 a1) (m_strings_Cut g a0 a1) := by
  unfold c_strings_Cut m_strings_Cut
  repeat first | with_reducible exact Le.refl _ | with_reducible apply c_stringslite_Cut_le | refine Le.bind ?_ (fun _ => ?_) | refine Le.ite ?_ ?_ | refine Le.jx ?_ (fun _ => ?_) | refine Le.loop (fun _ => ?_)
def c_code_jump (g : Nat) (a0 : List UInt8) : Option (DJump × Bool) :=
  (c_strings_Cut g a0 [58]).bind fun q2 =>
  (c_code_number g q2.2.1 false).bind fun q6 =>
  (
    if q2.2.2 = true then
      some (!q6.2)
    else
      some true
  : Option Bool).bind fun (z10 : Bool) =>
  if z10 = true then
    some ((DJump.mk ([] : List UInt8) 0 0), false)
  else
    (c_code_number g q2.1 true).bind fun q17 =>
    if q17.2 = true then
      some ((DJump.mk ([] : List UInt8) q17.1 q6.1), true)
    else
      (
        (c_code_isWord g q2.1).bind fun q28 =>
        if q28 = true then
          ((q2.1)[0]?).bind fun x34 =>
          if ((x34.toNat : Nat) : Int) < 48 then
            some true
          else
            ((q2.1)[0]?).bind fun x38 =>
            some (decide (((x38.toNat : Nat) : Int) > 57))
        else
          some false
      : Option Bool).bind fun (z23 : Bool) =>
      some ((DJump.mk q2.1 0 q6.1), z23)
theorem c_code_jump_le (g : Nat) (a0 : List UInt8) : Le (c_code_jump g a0) (m_code_jump g a0) := by
  unfold c_code_jump m_code_jump
  repeat first | with_reducible exact Le.refl _ | with_reducible apply c_code_isWord_le | with_reducible apply c_code_number_le | with_reducible apply c_strings_Cut_le | refine Le.bind ?_ (fun _ => ?_) | refine Le.ite ?_ ?_ | refine Le.jx ?_ (fun _ => ?_) | refine Le.loop (fun _ => ?_)
def c_code_match (g : Nat) (a0 : List (List UInt8)) : Option (Int × Int × Int × Int × List UInt8 × List DJump × Bool) :=
  if ((a0.length : Nat) : Int) < 2 then
    some ((0 : Int), (0 : Int), (0 : Int), (0 : Int), ([] : List UInt8), ([] : List DJump), false)
  else
    (Mir.sub a0 0 2).bind fun x9 =>
    (c_code_numbers g x9).bind fun q12 =>
    if q12.2 = true then
      ((q12.1)[0]?).bind fun x22 =>
      ((q12.1)[1]?).bind fun x29 =>
      jx (J := List DJump) (A := Int × Int × Int × Int × List UInt8 × List DJump × Bool) (
        (Mir.sub a0 2 ((a0.length : Nat) : Int)).bind fun x54 =>
        Mir.LoopG g (S := List DJump × Nat) (Q := (List DJump) ⊕ (Int × Int × Int × Int × List UInt8 × List DJump × Bool)) (([] : List DJump), (0 : Nat)) fun s66 =>
          if ((s66.2 : Nat) : Int) < ((x54.length : Nat) : Int) then
            ((x54)[s66.2]?).bind fun x80 =>
            (c_code_jump g x80).bind fun q87 =>
            if q87.2 = true then
              (Mir.push 32 s66.1 [q87.1]).bind fun x99 =>
              some (.inl (x99, s66.2 + 1))
            else
              some (.inr (.inr ((0 : Int), (0 : Int), (0 : Int), (0 : Int), ([] : List UInt8), ([] : List DJump), false)))
          else
            some (.inr (.inl s66.1))
      ) fun z39 =>
      some ((1 : Int), x22, x29, (0 : Int), ([] : List UInt8), z39, true)
    else
      some ((0 : Int), (0 : Int), (0 : Int), (0 : Int), ([] : List UInt8), ([] : List DJump), false)
theorem c_code_match_le (g : Nat) (a0 : List (List UInt8)) : Le (c_code_match g a0) (m_code_match g a0) := by
  unfold c_code_match m_code_match
  repeat first | with_reducible exact Le.refl _ | with_reducible apply c_code_numbers_le | with_reducible apply c_code_jump_le | refine Le.bind ?_ (fun _ => ?_) | refine Le.ite ?_ ?_ | refine Le.jx ?_ (fun _ => ?_) | refine Le.loop (fun _ => ?_)
def c_code_node (g : Nat) (a0 : List UInt8) (a1 : List (List UInt8)) : Option (Int × Int × Int × Int × List UInt8 × List Int × Bool) :=
  (Mir.put ([] : List ((List UInt8) × Int)) [99, 111, 110] 1).bind fun x5 =>
  (Mir.put x5 [99, 97, 108, 108] 3).bind fun x10 =>
  (Mir.put x10 [105, 110, 116] 2).bind fun x15 =>
  (Mir.put x15 [97, 112, 112, 108, 121] 4).bind fun x20 =>
  (Mir.put x20 [111, 114] 5).bind fun x25 =>
  (Mir.put x25 [102, 97, 105, 108] 7).bind fun x30 =>
  (Mir.getD x30 a0 0).bind fun x35 =>
  jx (J := List (List UInt8) × List UInt8) (A := Int × Int × Int × Int × List UInt8 × List Int × Bool) (
    if x35 = 0 then
      some (.inr ((2 : Int), (0 : Int), (0 : Int), x35, ([] : List UInt8), ([] : List Int), false))
    else
      (
        if x35 = 1 then
          some (decide (x35 = 1))
        else
          some (decide (x35 = 3))
      : Option Bool).bind fun (z55 : Bool) =>
      if z55 = true then
        (
          if ((a1.length : Nat) : Int) = 0 then
            some true
          else
            ((a1)[0]?).bind fun x65 =>
            (c_code_isWord g x65).bind fun q72 =>
            some (!q72)
        : Option Bool).bind fun (z60 : Bool) =>
        if z60 = true then
          some (.inr ((2 : Int), (0 : Int), (0 : Int), x35, ([] : List UInt8), ([] : List Int), false))
        else
          ((a1)[0]?).bind fun x78 =>
          (Mir.sub a1 1 ((a1.length : Nat) : Int)).bind fun x89 =>
          some (.inl (x89, x78))
      else
        if x35 = 2 then
          if ((a1.length : Nat) : Int) = 1 then
            ((a1)[0]?).bind fun x97 =>
            (c_code_number g x97 true).bind fun q104 =>
            some (.inr ((2 : Int), q104.1, (0 : Int), x35, ([] : List UInt8), ([] : List Int), q104.2))
          else
            some (.inr ((2 : Int), (0 : Int), (0 : Int), x35, ([] : List UInt8), ([] : List Int), false))
        else
          if x35 = 7 then
            some (.inr ((2 : Int), (0 : Int), (0 : Int), x35, ([] : List UInt8), ([] : List Int), decide (((a1.length : Nat) : Int) = 0)))
          else
            some (.inl (a1, ([] : List UInt8)))
  ) fun z44 =>
  (c_code_numbers g z44.1).bind fun q111 =>
  some ((2 : Int), (0 : Int), (0 : Int), x35, z44.2, q111.1, q111.2)
theorem c_code_node_le (g : Nat) (a0 : List UInt8) (a1 : List (List UInt8)) : Le (c_code_node g a0 a1) (m_code_node g a0 a1) := by
  unfold c_code_node m_code_node
  repeat first | with_reducible exact Le.refl _ | with_reducible apply c_code_isWord_le | with_reducible apply c_code_number_le | with_reducible apply c_code_numbers_le | refine Le.bind ?_ (fun _ => ?_) | refine Le.ite ?_ ?_ | refine Le.jx ?_ (fun _ => ?_) | refine Le.loop (fun _ => ?_)
def c_code_instr (g : Nat) (a0 : List (List UInt8)) : Option (DInstr × Bool) :=
  jx (J := Unit) (A := DInstr × Bool) (
    ((a0)[0]?).bind fun x6 =>
    if x6 = ([109, 97, 116, 99, 104] : List UInt8) then
      (Mir.sub a0 1 ((a0.length : Nat) : Int)).bind fun x18 =>
      (c_code_match g x18).bind fun q21 =>
      some (.inr ((DInstr.mk q21.1 q21.2.1 q21.2.2.1 q21.2.2.2.1 q21.2.2.2.2.1 ([] : List Int) q21.2.2.2.2.2.1), q21.2.2.2.2.2.2))
    else
      if x6 = ([102, 114, 101, 101] : List UInt8) then
        some (.inr ((DInstr.mk 3 0 0 0 ([] : List UInt8) ([] : List Int) ([] : List DJump)), decide (((a0.length : Nat) : Int) = 1)))
      else
        if x6 = ([115, 116, 111, 112] : List UInt8) then
          some (.inr ((DInstr.mk 5 0 0 0 ([] : List UInt8) ([] : List Int) ([] : List DJump)), decide (((a0.length : Nat) : Int) = 1)))
        else
          if x6 = ([101, 110, 100] : List UInt8) then
            (Mir.sub a0 1 ((a0.length : Nat) : Int)).bind fun x39 =>
            (c_code_numbers g x39).bind fun q42 =>
            (
              if q42.2 = true then
                some (!decide (((q42.1.length : Nat) : Int) = 1))
              else
                some true
            : Option Bool).bind fun (z50 : Bool) =>
            if z50 = true then
              some (.inr ((DInstr.mk 0 0 0 0 ([] : List UInt8) ([] : List Int) ([] : List DJump)), false))
            else
              ((q42.1)[0]?).bind fun x57 =>
              some (.inr ((DInstr.mk 4 x57 0 0 ([] : List UInt8) ([] : List Int) ([] : List DJump)), true))
          else
            if x6 = ([110, 111, 100, 101] : List UInt8) then
              if ((a0.length : Nat) : Int) > 1 then
                ((a0)[1]?).bind fun x67 =>
                (Mir.sub a0 2 ((a0.length : Nat) : Int)).bind fun x78 =>
                (c_code_node g x67 x78).bind fun q82 =>
                some (.inr ((DInstr.mk q82.1 q82.2.1 q82.2.2.1 q82.2.2.2.1 q82.2.2.2.2.1 q82.2.2.2.2.2.1 ([] : List DJump)), q82.2.2.2.2.2.2))
              else
                some (.inl ())
            else
              some (.inl ())
  ) fun z3 =>
  some ((DInstr.mk 0 0 0 0 ([] : List UInt8) ([] : List Int) ([] : List DJump)), false)
theorem c_code_instr_le (g : Nat) (a0 : List (List UInt8)) : Le (c_code_instr g a0) (m_code_instr g a0) := by
  unfold c_code_instr m_code_instr
  repeat first | with_reducible exact Le.refl _ | with_reducible apply c_code_numbers_le | with_reducible apply c_code_match_le | with_reducible apply c_code_node_le | refine Le.bind ?_ (fun _ => ?_) | refine Le.ite ?_ ?_ | refine Le.jx ?_ (fun _ => ?_) | refine Le.loop (fun _ => ?_)
def c_code_large_f1 (g : Nat) (a0 : DCode) : Option Bool :=
  some (decide (((a0.L.length : Nat) : Int) > 400))
theorem c_code_large_f1_le (g : Nat) (a0 : DCode) : Le (c_code_large_f1 g a0) (m_code_large_f1 g a0) := by
  unfold c_code_large_f1 m_code_large_f1
  repeat first | with_reducible exact Le.refl _ | refine Le.bind ?_ (fun _ => ?_) | refine Le.ite ?_ ?_ | refine Le.jx ?_ (fun _ => ?_) | refine Le.loop (fun _ => ?_)
def c_api_Code_2 (g : Nat) (a0 : List DCode) : Option Int :=
  jx (J := Unit) (A := Int) (
    Mir.LoopG g (S := Nat) (Q := (Unit) ⊕ (Int)) (0 : Nat) fun s9 =>
      if ((s9 : Nat) : Int) < ((a0.length : Nat) : Int) then
        ((a0)[s9]?).bind fun x16 =>
        (c_code_large_f1 g x16).bind fun q27 =>
        if q27 = true then
          some (.inr (.inr ((s9 : Nat) : Int)))
        else
          some (.inl (s9 + 1))
      else
        some (.inr (.inl ()))
  ) fun z2 =>
  some (-1)
theorem c_api_Code_2_le (g : Nat) (a0 : List DCode) : Le (c_api_Code_2 g a0) (m_api_Code_2 g a0) := by
  unfold c_api_Code_2 m_api_Code_2
  repeat first | with_reducible exact Le.refl _ | with_reducible apply c_code_large_f1_le | refine Le.bind ?_ (fun _ => ?_) | refine Le.ite ?_ ?_ | refine Le.jx ?_ (fun _ => ?_) | refine Le.loop (fun _ => ?_)
def c_api_Code (g : Nat) (a0 : List DCode) : Option Bool :=
  (c_api_Code_2 g a0).bind fun q2 =>
  some (decide (q2 ≥ 0))
theorem c_api_Code_le (g : Nat) (a0 : List DCode) : Le (c_api_Code g a0) (m_api_Code g a0) := by
  unfold c_api_Code m_api_Code
  repeat first | with_reducible exact Le.refl _ | with_reducible apply c_api_Code_2_le | refine Le.bind ?_ (fun _ => ?_) | refine Le.ite ?_ ?_ | refine Le.jx ?_ (fun _ => ?_) | refine Le.loop (fun _ => ?_)
def c_code_large (g : Nat) (a0 : List DCode) : Option Bool :=
  (
    if ((a0.length : Nat) : Int) > 120 then
      some true
    else
      (c_api_Code g a0).bind fun q7 =>
      some q7
  : Option Bool).bind fun (z2 : Bool) =>
  some z2
theorem c_code_large_le (g : Nat) (a0 : List DCode) : Le (c_code_large g a0) (m_code_large g a0) := by
  unfold c_code_large m_code_large
  repeat first | with_reducible exact Le.refl _ | with_reducible apply c_api_Code_le | refine Le.bind ?_ (fun _ => ?_) | refine Le.ite ?_ ?_ | refine Le.jx ?_ (fun _ => ?_) | refine Le.loop (fun _ => ?_)
def c_slices_Index_string_string (g : Nat) (a0 : List (List UInt8)) (a1 : List UInt8) : Option Int :=
  jx (J := Unit) (A := Int) (
    Mir.LoopG g (S := Nat) (Q := (Unit) ⊕ (Int)) (0 : Nat) fun s6 =>
      if ((s6 : Nat) : Int) < ((a0.length : Nat) : Int) then
        ((a0)[s6]?).bind fun x11 =>
        if a1 = x11 then
          some (.inr (.inr ((s6 : Nat) : Int)))
        else
          some (.inl (s6 + 1))
      else
        some (.inr (.inl ()))
  ) fun z2 =>
  some (-1)
theorem c_slices_Index_string_string_le (g : Nat) (a0 : List (List UInt8)) (a1 : List UInt8) : Le (c_slices_Index_string_string g a0 a1) (m_slices_Index_string_string g a0 a1) := by
  unfold c_slices_Index_string_string m_slices_Index_string_string
  repeat first | with_reducible exact Le.refl _ | refine Le.bind ?_ (fun _ => ?_) | refine Le.ite ?_ ?_ | refine Le.jx ?_ (fun _ => ?_) | refine Le.loop (fun _ => ?_)
def c_slices_Contains_string_string (g : Nat) (a0 : List (List UInt8)) (a1 : List UInt8) : Option Bool :=
  (c_slices_Index_string_string g a0 a1).bind fun q2 =>
  some (decide (q2 ≥ 0))
theorem c_slices_Contains_string_string_le (g : Nat) (a0 : List (List UInt8)) (a1 : List UInt8) : Le (c_slices_Contains_string_string g a0 a1) (m_slices_Contains_string_string g a0 a1) := by
  unfold c_slices_Contains_string_string m_slices_Contains_string_string
  repeat first | with_reducible exact Le.refl _ | with_reducible apply c_slices_Index_string_string_le | refine Le.bind ?_ (fun _ => ?_) | refine Le.ite ?_ ?_ | refine Le.jx ?_ (fun _ => ?_) | refine Le.loop (fun _ => ?_)
def c_code_isName (g : Nat) (a0 : List UInt8) (a1 : Bool) : Option Bool :=
  (
    if ((a0.length : Nat) : Int) < 1 then
      some true
    else
      if ((a0.length : Nat) : Int) > 16 then
        some true
      else
        (c_code_isWord g a0).bind fun q7 =>
        some (!q7)
  : Option Bool).bind fun (z1 : Bool) =>
  if z1 = true then
    some false
  else
    if a1 = true then
      (
        ((a0)[0]?).bind fun x16 =>
        if ((x16.toNat : Nat) : Int) ≥ 65 then
          ((a0)[0]?).bind fun x19 =>
          some (decide (((x19.toNat : Nat) : Int) ≤ 90))
        else
          some false
      : Option Bool).bind fun (z14 : Bool) =>
      some z14
    else
      (
        ((a0)[0]?).bind fun x28 =>
        if ((x28.toNat : Nat) : Int) ≥ 97 then
          ((a0)[0]?).bind fun x31 =>
          if ((x31.toNat : Nat) : Int) ≤ 122 then
            (c_slices_Contains_string_string g ([[100, 97, 116, 97], [99, 108, 97, 115, 115], [105, 110, 115, 116, 97, 110, 99, 101], [111, 112], [101, 110, 100], [119, 104, 101, 114, 101], [108, 101, 116], [105, 110], [102, 114, 101, 101], [99, 97, 115, 101], [114, 105, 103, 105, 100], [111, 102], [102, 97, 105, 108]] : List (List UInt8)) a0).bind fun q34 =>
            some (!q34)
          else
            ((a0)[0]?).bind fun x38 =>
            if ((x38.toNat : Nat) : Int) = 95 then
              if ((a0.length : Nat) : Int) > 1 then
                (c_slices_Contains_string_string g ([[100, 97, 116, 97], [99, 108, 97, 115, 115], [105, 110, 115, 116, 97, 110, 99, 101], [111, 112], [101, 110, 100], [119, 104, 101, 114, 101], [108, 101, 116], [105, 110], [102, 114, 101, 101], [99, 97, 115, 101], [114, 105, 103, 105, 100], [111, 102], [102, 97, 105, 108]] : List (List UInt8)) a0).bind fun q42 =>
                some (!q42)
              else
                some false
            else
              some false
        else
          ((a0)[0]?).bind fun x46 =>
          if ((x46.toNat : Nat) : Int) = 95 then
            if ((a0.length : Nat) : Int) > 1 then
              (c_slices_Contains_string_string g ([[100, 97, 116, 97], [99, 108, 97, 115, 115], [105, 110, 115, 116, 97, 110, 99, 101], [111, 112], [101, 110, 100], [119, 104, 101, 114, 101], [108, 101, 116], [105, 110], [102, 114, 101, 101], [99, 97, 115, 101], [114, 105, 103, 105, 100], [111, 102], [102, 97, 105, 108]] : List (List UInt8)) a0).bind fun q50 =>
              some (!q50)
            else
              some false
          else
            some false
      : Option Bool).bind fun (z24 : Bool) =>
      some z24
theorem c_code_isName_le (g : Nat) (a0 : List UInt8) (a1 : Bool) : Le (c_code_isName g a0 a1) (m_code_isName g a0 a1) := by
  unfold c_code_isName m_code_isName
  repeat first | with_reducible exact Le.refl _ | with_reducible apply c_code_isWord_le | with_reducible apply c_slices_Contains_string_string_le | refine Le.bind ?_ (fun _ => ?_) | refine Le.ite ?_ ?_ | refine Le.jx ?_ (fun _ => ?_) | refine Le.loop (fun _ => ?_)
def c_code_isNumber_f1 (g : Nat) (a0 : Int) : Option Bool :=
  (
    if a0 < 0 then
      some true
    else
      some (decide (a0 > 400))
  : Option Bool).bind fun (z1 : Bool) =>
  some z1
theorem c_code_isNumber_f1_le (g : Nat) (a0 : Int) : Le (c_code_isNumber_f1 g a0) (m_code_isNumber_f1 g a0) := by
  unfold c_code_isNumber_f1 m_code_isNumber_f1
  repeat first | with_reducible exact Le.refl _ | refine Le.bind ?_ (fun _ => ?_) | refine Le.ite ?_ ?_ | refine Le.jx ?_ (fun _ => ?_) | refine Le.loop (fun _ => ?_)
def c_slices_IndexFunc_int_int (g : Nat) (a0 : List Int) : Option Int :=
  jx (J := Unit) (A := Int) (
    Mir.LoopG g (S := Nat) (Q := (Unit) ⊕ (Int)) (0 : Nat) fun s9 =>
      if ((s9 : Nat) : Int) < ((a0.length : Nat) : Int) then
        ((a0)[s9]?).bind fun x16 =>
        (c_code_isNumber_f1 g x16).bind fun q23 =>
        if q23 = true then
          some (.inr (.inr ((s9 : Nat) : Int)))
        else
          some (.inl (s9 + 1))
      else
        some (.inr (.inl ()))
  ) fun z2 =>
  some (-1)
theorem c_slices_IndexFunc_int_int_le (g : Nat) (a0 : List Int) : Le (c_slices_IndexFunc_int_int g a0) (m_slices_IndexFunc_int_int g a0) := by
  unfold c_slices_IndexFunc_int_int m_slices_IndexFunc_int_int
  repeat first | with_reducible exact Le.refl _ | with_reducible apply c_code_isNumber_f1_le | refine Le.bind ?_ (fun _ => ?_) | refine Le.ite ?_ ?_ | refine Le.jx ?_ (fun _ => ?_) | refine Le.loop (fun _ => ?_)
def c_slices_ContainsFunc_int_int (g : Nat) (a0 : List Int) : Option Bool :=
  (c_slices_IndexFunc_int_int g a0).bind fun q2 =>
  some (decide (q2 ≥ 0))
theorem c_slices_ContainsFunc_int_int_le (g : Nat) (a0 : List Int) : Le (c_slices_ContainsFunc_int_int g a0) (m_slices_ContainsFunc_int_int g a0) := by
  unfold c_slices_ContainsFunc_int_int m_slices_ContainsFunc_int_int
  repeat first | with_reducible exact Le.refl _ | with_reducible apply c_slices_IndexFunc_int_int_le | refine Le.bind ?_ (fun _ => ?_) | refine Le.ite ?_ ?_ | refine Le.jx ?_ (fun _ => ?_) | refine Le.loop (fun _ => ?_)
def c_code_isNumber (g : Nat) (a0 : List Int) : Option Bool :=
  (c_slices_ContainsFunc_int_int g a0).bind fun q2 =>
  some (!q2)
theorem c_code_isNumber_le (g : Nat) (a0 : List Int) : Le (c_code_isNumber g a0) (m_code_isNumber g a0) := by
  unfold c_code_isNumber m_code_isNumber
  repeat first | with_reducible exact Le.refl _ | with_reducible apply c_slices_ContainsFunc_int_int_le | refine Le.bind ?_ (fun _ => ?_) | refine Le.ite ?_ ?_ | refine Le.jx ?_ (fun _ => ?_) | refine Le.loop (fun _ => ?_)
def c_code_isInt (g : Nat) (a0 : Int) : Option Bool :=
  (
    if a0 ≥ (-1000000000) then
      some (decide (a0 ≤ 1000000000))
    else
      some false
  : Option Bool).bind fun (z1 : Bool) =>
  some z1
theorem c_code_isInt_le (g : Nat) (a0 : Int) : Le (c_code_isInt g a0) (m_code_isInt g a0) := by
  unfold c_code_isInt m_code_isInt
  repeat first | with_reducible exact Le.refl _ | refine Le.bind ?_ (fun _ => ?_) | refine Le.ite ?_ ?_ | refine Le.jx ?_ (fun _ => ?_) | refine Le.loop (fun _ => ?_)
def c_code_isNodeText (g : Nat) (a0 : DInstr) : Option Bool :=
  if a0.N = 1 then
    (
      if a0.A = 0 then
        (c_code_isName g a0.Name true).bind fun q10 =>
        some q10
      else
        some false
    : Option Bool).bind fun (z5 : Bool) =>
    some z5
  else
    if a0.N = 3 then
      (
        if a0.A = 0 then
          (c_code_isName g a0.Name false).bind fun q21 =>
          some q21
        else
          some false
      : Option Bool).bind fun (z16 : Bool) =>
      some z16
    else
      if a0.N = 2 then
        (
          if a0.Name = ([] : List UInt8) then
            if ((a0.Args.length : Nat) : Int) = 0 then
              (c_code_isInt g a0.A).bind fun q33 =>
              some q33
            else
              some false
          else
            some false
        : Option Bool).bind fun (z27 : Bool) =>
        some z27
      else
        (
          if a0.N = 4 then
            some (decide (a0.N = 4))
          else
            some (decide (a0.N = 5))
        : Option Bool).bind fun (z38 : Bool) =>
        if z38 = true then
          (
            if a0.Name = ([] : List UInt8) then
              some (decide (a0.A = 0))
            else
              some false
          : Option Bool).bind fun (z43 : Bool) =>
          some z43
        else
          if a0.N = 7 then
            (
              if a0.Name = ([] : List UInt8) then
                if a0.A = 0 then
                  some (decide (((a0.Args.length : Nat) : Int) = 0))
                else
                  some false
              else
                some false
            : Option Bool).bind fun (z48 : Bool) =>
            some z48
          else
            some false
theorem c_code_isNodeText_le (g : Nat) (a0 : DInstr) : Le (c_code_isNodeText g a0) (m_code_isNodeText g a0) := by
  unfold c_code_isNodeText m_code_isNodeText
  repeat first | with_reducible exact Le.refl _ | with_reducible apply c_code_isName_le | with_reducible apply c_code_isInt_le | refine Le.bind ?_ (fun _ => ?_) | refine Le.ite ?_ ?_ | refine Le.jx ?_ (fun _ => ?_) | refine Le.loop (fun _ => ?_)
def c_code_isPrinted (g : Nat) (a0 : DInstr) : Option Bool :=
  (c_code_isNumber g a0.Args).bind fun q4 =>
  if q4 = true then
    (
      if a0.Name = ([] : List UInt8) then
        if ((a0.Args.length : Nat) : Int) = 0 then
          if ((a0.Cases.length : Nat) : Int) = 0 then
            if a0.N = 0 then
              some (decide (a0.B = 0))
            else
              some false
          else
            some false
        else
          some false
      else
        some false
    : Option Bool).bind fun (z10 : Bool) =>
    if a0.Op = 1 then
      (
        if a0.Name = ([] : List UInt8) then
          if ((a0.Args.length : Nat) : Int) = 0 then
            if a0.N = 0 then
              (c_code_isNumber g ([a0.A, a0.B] : List Int)).bind fun q26 =>
              some q26
            else
              some false
          else
            some false
        else
          some false
      : Option Bool).bind fun (z17 : Bool) =>
      (
        Mir.LoopG g (S := Bool × Nat) (Q := Bool) (z17, (0 : Nat)) fun s37 =>
          if ((s37.2 : Nat) : Int) < ((a0.Cases.length : Nat) : Int) then
            (
              ((a0.Cases)[s37.2]?).bind fun x48 =>
              if s37.1 = true then
                (c_code_isNumber g ([x48.To] : List Int)).bind fun q60 =>
                if q60 = true then
                  if x48.Name = ([] : List UInt8) then
                    (c_code_isInt g x48.N).bind fun q67 =>
                    if q67 = true then
                      some true
                    else
                      if x48.N = 0 then
                        (c_code_isName g x48.Name true).bind fun q75 =>
                        some q75
                      else
                        some false
                  else
                    if x48.N = 0 then
                      (c_code_isName g x48.Name true).bind fun q80 =>
                      some q80
                    else
                      some false
                else
                  some false
              else
                some false
            : Option Bool).bind fun (z44 : Bool) =>
            some (.inl (z44, s37.2 + 1))
          else
            some (.inr s37.1)
      : Option Bool).bind fun (z30 : Bool) =>
      some z30
    else
      (
        if a0.Op = 3 then
          some (decide (a0.Op = 3))
        else
          some (decide (a0.Op = 5))
      : Option Bool).bind fun (z88 : Bool) =>
      if z88 = true then
        (
          if z10 = true then
            some (decide (a0.A = 0))
          else
            some false
        : Option Bool).bind fun (z93 : Bool) =>
        some z93
      else
        if a0.Op = 4 then
          (
            if z10 = true then
              (c_code_isNumber g ([a0.A] : List Int)).bind fun q108 =>
              some q108
            else
              some false
          : Option Bool).bind fun (z100 : Bool) =>
          some z100
        else
          if a0.Op = 2 then
            (
              if ((a0.Cases.length : Nat) : Int) = 0 then
                if a0.B = 0 then
                  (c_code_isNodeText g a0).bind fun q121 =>
                  some q121
                else
                  some false
              else
                some false
            : Option Bool).bind fun (z115 : Bool) =>
            some z115
          else
            some false
  else
    some false
theorem c_code_isPrinted_le (g : Nat) (a0 : DInstr) : Le (c_code_isPrinted g a0) (m_code_isPrinted g a0) := by
  unfold c_code_isPrinted m_code_isPrinted
  repeat first | with_reducible exact Le.refl _ | with_reducible apply c_code_isName_le | with_reducible apply c_code_isNumber_le | with_reducible apply c_code_isInt_le | with_reducible apply c_code_isNodeText_le | refine Le.bind ?_ (fun _ => ?_) | refine Le.ite ?_ ?_ | refine Le.jx ?_ (fun _ => ?_) | refine Le.loop (fun _ => ?_)
def c_code_printed_f1 (g : Nat) (a0 : DInstr) : Option Bool :=
  (c_code_isPrinted g a0).bind fun q4 =>
  some (!q4)
theorem c_code_printed_f1_le (g : Nat) (a0 : DInstr) : Le (c_code_printed_f1 g a0) (m_code_printed_f1 g a0) := by
  unfold c_code_printed_f1 m_code_printed_f1
  repeat first | with_reducible exact Le.refl _ | with_reducible apply c_code_isPrinted_le | refine Le.bind ?_ (fun _ => ?_) | refine Le.ite ?_ ?_ | refine Le.jx ?_ (fun _ => ?_) | refine Le.loop (fun _ => ?_)
def c_api_Instr_2 (g : Nat) (a0 : List DInstr) : Option Int :=
  jx (J := Unit) (A := Int) (
    Mir.LoopG g (S := Nat) (Q := (Unit) ⊕ (Int)) (0 : Nat) fun s9 =>
      if ((s9 : Nat) : Int) < ((a0.length : Nat) : Int) then
        ((a0)[s9]?).bind fun x16 =>
        (c_code_printed_f1 g x16).bind fun q31 =>
        if q31 = true then
          some (.inr (.inr ((s9 : Nat) : Int)))
        else
          some (.inl (s9 + 1))
      else
        some (.inr (.inl ()))
  ) fun z2 =>
  some (-1)
theorem c_api_Instr_2_le (g : Nat) (a0 : List DInstr) : Le (c_api_Instr_2 g a0) (m_api_Instr_2 g a0) := by
  unfold c_api_Instr_2 m_api_Instr_2
  repeat first | with_reducible exact Le.refl _ | with_reducible apply c_code_printed_f1_le | refine Le.bind ?_ (fun _ => ?_) | refine Le.ite ?_ ?_ | refine Le.jx ?_ (fun _ => ?_) | refine Le.loop (fun _ => ?_)
def c_api_Instr (g : Nat) (a0 : List DInstr) : Option Bool :=
  (c_api_Instr_2 g a0).bind fun q2 =>
  some (decide (q2 ≥ 0))
theorem c_api_Instr_le (g : Nat) (a0 : List DInstr) : Le (c_api_Instr g a0) (m_api_Instr g a0) := by
  unfold c_api_Instr m_api_Instr
  repeat first | with_reducible exact Le.refl _ | with_reducible apply c_api_Instr_2_le | refine Le.bind ?_ (fun _ => ?_) | refine Le.ite ?_ ?_ | refine Le.jx ?_ (fun _ => ?_) | refine Le.loop (fun _ => ?_)
def c_code_printed (g : Nat) (a0 : List DCode) : Option Int :=
  (c_code_large g a0).bind fun q2 =>
  if q2 = true then
    some (3 : Int)
  else
    jx (J := Unit) (A := Int) (
      Mir.LoopG g (S := Nat) (Q := (Unit) ⊕ (Int)) (0 : Nat) fun s15 =>
        if ((s15 : Nat) : Int) < ((a0.length : Nat) : Int) then
          ((a0)[s15]?).bind fun x22 =>
          (
            (c_code_isName g x22.Name false).bind fun q38 =>
            if q38 = true then
              (c_code_isNumber g ([x22.Arity] : List Int)).bind fun q46 =>
              if q46 = true then
                (c_api_Instr g x22.L).bind fun q52 =>
                some q52
              else
                some true
            else
              some true
          : Option Bool).bind fun (z34 : Bool) =>
          if z34 = true then
            some (.inr (.inr (1 : Int)))
          else
            some (.inl (s15 + 1))
        else
          some (.inr (.inl ()))
    ) fun z8 =>
    some (0 : Int)
theorem c_code_printed_le (g : Nat) (a0 : List DCode) : Le (c_code_printed g a0) (m_code_printed g a0) := by
  unfold c_code_printed m_code_printed
  repeat first | with_reducible exact Le.refl _ | with_reducible apply c_code_large_le | with_reducible apply c_code_isName_le | with_reducible apply c_code_isNumber_le | with_reducible apply c_api_Instr_le | refine Le.bind ?_ (fun _ => ?_) | refine Le.ite ?_ ?_ | refine Le.jx ?_ (fun _ => ?_) | refine Le.loop (fun _ => ?_)
def c_code_Parse (g : Nat) (a0 : List UInt8) : Option (List DCode × Int × Int) :=
  if ((a0.length : Nat) : Int) > 20000 then
    some (([] : List DCode), (0 : Int), (3 : Int))
  else
    if a0 = ([] : List UInt8) then
      some (([] : List DCode), (0 : Int), (0 : Int))
    else
      jx (J := List DCode) (A := List DCode × Int × Int) (
        (c_strings_TrimSuffix g a0 [10]).bind fun q21 =>
        (c_strings_Split g q21 [10]).bind fun q25 =>
        Mir.LoopG g (S := List DCode × Nat) (Q := (List DCode) ⊕ (List DCode × Int × Int)) (([] : List DCode), (0 : Nat)) fun s47 =>
          if ((s47.2 : Nat) : Int) < ((q25.length : Nat) : Int) then
            jx (J := List DCode) (A := (List DCode × Nat) ⊕ ((List DCode) ⊕ (List DCode × Int × Int))) (
              ((q25)[s47.2]?).bind fun x83 =>
              (c_strings_Split g x83 [32]).bind fun q90 =>
              ((q90)[0]?).bind fun x98 =>
              if x98 = ([99, 111, 100, 101] : List UInt8) then
                (
                  if ((q90.length : Nat) : Int) = 3 then
                    ((q90)[1]?).bind fun x111 =>
                    (c_code_isWord g x111).bind fun q118 =>
                    some (!q118)
                  else
                    some true
                : Option Bool).bind fun (z106 : Bool) =>
                if z106 = true then
                  some (.inr (.inr (.inr (([] : List DCode), ((s47.2 + 1 : Nat) : Int), (2 : Int)))))
                else
                  ((q90)[2]?).bind fun x124 =>
                  (c_code_number g x124 false).bind fun q131 =>
                  if q131.2 = true then
                    ((q90)[1]?).bind fun x137 =>
                    (Mir.push 48 s47.1 [(DCode.mk x137 q131.1 ([] : List DInstr))]).bind fun x154 =>
                    some (.inl x154)
                  else
                    some (.inr (.inr (.inr (([] : List DCode), ((s47.2 + 1 : Nat) : Int), (2 : Int)))))
              else
                (c_code_instr g q90).bind fun q159 =>
                (
                  if q159.2 = true then
                    some (decide (((s47.1.length : Nat) : Int) = 0))
                  else
                    some true
                : Option Bool).bind fun (z172 : Bool) =>
                if z172 = true then
                  some (.inr (.inr (.inr (([] : List DCode), ((s47.2 + 1 : Nat) : Int), (2 : Int)))))
                else
                  (Mir.idx s47.1 (((s47.1.length : Nat) : Int) - 1)).bind fun x179 =>
                  (Mir.push 96 (Mir.lastL DCode.L s47.1) [q159.1]).bind fun x192 =>
                  (Mir.idx s47.1 (((s47.1.length : Nat) : Int) - 1)).bind fun x195 =>
                  (Mir.setLast (fun (x : DCode) ys => DCode.mk x.Name x.Arity ys) s47.1 x192).bind fun x205 =>
                  some (.inl x205)
            ) fun z67 =>
            some (.inl (z67, s47.2 + 1))
          else
            some (.inr (.inl s47.1))
      ) fun z5 =>
      (c_code_printed g z5).bind fun q212 =>
      if q212 = 0 then
        some (z5, (0 : Int), (0 : Int))
      else
        some (([] : List DCode), (0 : Int), q212)
theorem c_code_Parse_le (g : Nat) (a0 : List UInt8) : Le (c_code_Parse g a0) (m_code_Parse g a0) := by
  unfold c_code_Parse m_code_Parse
  repeat first | with_reducible exact Le.refl _ | with_reducible apply c_strings_TrimSuffix_le | with_reducible apply c_strings_Split_le | with_reducible apply c_code_isWord_le | with_reducible apply c_code_number_le | with_reducible apply c_code_instr_le | with_reducible apply c_code_printed_le | refine Le.bind ?_ (fun _ => ?_) | refine Le.ite ?_ ?_ | refine Le.jx ?_ (fun _ => ?_) | refine Le.loop (fun _ => ?_)
def c_code_words (g : Nat) (a0 : DInstr) : Option (List (List UInt8)) :=
  if a0.Op = 1 then
    (Mir.x_itoa g a0.A).bind fun q8 =>
    (Mir.x_itoa g a0.B).bind fun q13 =>
    (Mir.push 16 ([] : List (List UInt8)) [[109, 97, 116, 99, 104], q8, q13]).bind fun x24 =>
    (
      Mir.LoopG g (S := List (List UInt8) × Nat) (Q := List (List UInt8)) (x24, (0 : Nat)) fun s46 =>
        if ((s46.2 : Nat) : Int) < ((a0.Cases.length : Nat) : Int) then
          ((a0.Cases)[s46.2]?).bind fun x59 =>
          (
            if x59.Name = ([] : List UInt8) then
              (Mir.x_itoa g x59.N).bind fun q72 =>
              some q72
            else
              some x59.Name
          : Option (List UInt8)).bind fun (z67 : List UInt8) =>
          (Mir.cat z67 ([58] : List UInt8)).bind fun x77 =>
          (Mir.x_itoa g x59.To).bind fun q79 =>
          (Mir.cat x77 q79).bind fun x83 =>
          (Mir.push 16 s46.1 [x83]).bind fun x90 =>
          some (.inl (x90, s46.2 + 1))
        else
          some (.inr s46.1)
    : Option (List (List UInt8))).bind fun (z27 : List (List UInt8)) =>
    some z27
  else
    if a0.Op = 3 then
      (Mir.push 16 ([] : List (List UInt8)) [[102, 114, 101, 101]]).bind fun x104 =>
      some x104
    else
      if a0.Op = 5 then
        (Mir.push 16 ([] : List (List UInt8)) [[115, 116, 111, 112]]).bind fun x117 =>
        some x117
      else
        if a0.Op = 4 then
          (Mir.x_itoa g a0.A).bind fun q125 =>
          (Mir.push 16 ([] : List (List UInt8)) [[101, 110, 100], q125]).bind fun x134 =>
          some x134
        else
          (Mir.put ([] : List (Int × (List UInt8))) 1 [99, 111, 110]).bind fun x143 =>
          (Mir.put x143 3 [99, 97, 108, 108]).bind fun x148 =>
          (Mir.put x148 2 [105, 110, 116]).bind fun x153 =>
          (Mir.put x153 4 [97, 112, 112, 108, 121]).bind fun x158 =>
          (Mir.put x158 5 [111, 114]).bind fun x163 =>
          (Mir.put x163 7 [102, 97, 105, 108]).bind fun x168 =>
          (Mir.getD x168 a0.N ([] : List UInt8)).bind fun x173 =>
          (Mir.push 16 ([] : List (List UInt8)) [[110, 111, 100, 101], x173]).bind fun x186 =>
          (
            if a0.Name = ([] : List UInt8) then
              some x186
            else
              (Mir.push 16 x186 [a0.Name]).bind fun x203 =>
              some x203
          : Option (List (List UInt8))).bind fun (z189 : List (List UInt8)) =>
          (
            if a0.N = 2 then
              (Mir.x_itoa g a0.A).bind fun q218 =>
              (Mir.push 16 z189 [q218]).bind fun x227 =>
              some x227
            else
              some z189
          : Option (List (List UInt8))).bind fun (z207 : List (List UInt8)) =>
          (
            Mir.LoopG g (S := List (List UInt8) × Nat) (Q := List (List UInt8)) (z207, (0 : Nat)) fun s250 =>
              if ((s250.2 : Nat) : Int) < ((a0.Args.length : Nat) : Int) then
                ((a0.Args)[s250.2]?).bind fun x263 =>
                (Mir.x_itoa g x263).bind fun q270 =>
                (Mir.push 16 s250.1 [q270]).bind fun x279 =>
                some (.inl (x279, s250.2 + 1))
              else
                some (.inr s250.1)
          : Option (List (List UInt8))).bind fun (z231 : List (List UInt8)) =>
          some z231
theorem c_code_words_le (g : Nat) (a0 : DInstr) : Le (c_code_words g a0) (m_code_words g a0) := by
  unfold c_code_words m_code_words
  repeat first | with_reducible exact Le.refl _ | refine Le.bind ?_ (fun _ => ?_) | refine Le.ite ?_ ?_ | refine Le.jx ?_ (fun _ => ?_) | refine Le.loop (fun _ => ?_)
def c_code_Print (g : Nat) (a0 : List DCode) : Option (List UInt8 × Int) :=
  (c_code_printed g a0).bind fun q2 =>
  if q2 = 0 then
    (
      Mir.LoopG g (S := List UInt8 × Nat) (Q := List UInt8) (([] : List UInt8), (0 : Nat)) fun s16 =>
        if ((s16.2 : Nat) : Int) < ((a0.length : Nat) : Int) then
          (
            ((a0)[s16.2]?).bind fun x27 =>
            (Mir.cat ([99, 111, 100, 101, 32] : List UInt8) x27.Name).bind fun x39 =>
            (Mir.cat x39 ([32] : List UInt8)).bind fun x41 =>
            (Mir.x_itoa g x27.Arity).bind fun q44 =>
            (Mir.cat x41 q44).bind fun x48 =>
            (Mir.cat x48 ([10] : List UInt8)).bind fun x50 =>
            (Mir.x_bwrite g s16.1 x50).bind fun q53 =>
            Mir.LoopG g (S := List UInt8 × Nat) (Q := List UInt8) (q53, (0 : Nat)) fun s60 =>
              if ((s60.2 : Nat) : Int) < ((x27.L.length : Nat) : Int) then
                ((x27.L)[s60.2]?).bind fun x67 =>
                (c_code_words g x67).bind fun q83 =>
                (Mir.x_join g q83 [32]).bind fun q91 =>
                (Mir.cat q91 ([10] : List UInt8)).bind fun x95 =>
                (Mir.x_bwrite g s60.1 x95).bind fun q97 =>
                some (.inl (q97, s60.2 + 1))
              else
                some (.inr s60.1)
          : Option (List UInt8)).bind fun (z23 : List UInt8) =>
          some (.inl (z23, s16.2 + 1))
        else
          some (.inr s16.1)
    : Option (List UInt8)).bind fun (z9 : List UInt8) =>
    if ((z9.length : Nat) : Int) > 20000 then
      some (([] : List UInt8), (3 : Int))
    else
      (Mir.x_bstr g z9).bind fun q107 =>
      some (q107, (0 : Int))
  else
    some (([] : List UInt8), q2)
theorem c_code_Print_le (g : Nat) (a0 : List DCode) : Le (c_code_Print g a0) (m_code_Print g a0) := by
  unfold c_code_Print m_code_Print
  repeat first | with_reducible exact Le.refl _ | with_reducible apply c_code_printed_le | with_reducible apply c_code_words_le | refine Le.bind ?_ (fun _ => ?_) | refine Le.ite ?_ ?_ | refine Le.jx ?_ (fun _ => ?_) | refine Le.loop (fun _ => ?_)
def c_law14_known (g : Nat) : Option Bool :=
  (c_code_Parse g [99, 111, 100, 101, 32, 110, 111, 116, 32, 49, 10, 109, 97, 116, 99, 104, 32, 48, 32, 48, 32, 70, 97, 108, 115, 101, 58, 49, 32, 84, 114, 117, 101, 58, 51, 10, 110, 111, 100, 101, 32, 99, 111, 110, 32, 84, 114, 117, 101, 10, 101, 110, 100, 32, 49, 10, 110, 111, 100, 101, 32, 99, 111, 110, 32, 70, 97, 108, 115, 101, 10, 101, 110, 100, 32, 49, 10]).bind fun q1 =>
  (c_code_Print g q1.1).bind fun q9 =>
  (
    if q1.2.2 = 0 then
      if q1.2.1 = 0 then
        if q9.2 = 0 then
          if ([99, 111, 100, 101, 32, 110, 111, 116, 32, 49, 10, 109, 97, 116, 99, 104, 32, 48, 32, 48, 32, 70, 97, 108, 115, 101, 58, 49, 32, 84, 114, 117, 101, 58, 51, 10, 110, 111, 100, 101, 32, 99, 111, 110, 32, 84, 114, 117, 101, 10, 101, 110, 100, 32, 49, 10, 110, 111, 100, 101, 32, 99, 111, 110, 32, 70, 97, 108, 115, 101, 10, 101, 110, 100, 32, 49, 10] : List UInt8) = q9.1 then
            if ((q1.1.length : Nat) : Int) = 1 then
              ((q1.1)[0]?).bind fun x20 =>
              some (decide (((x20.L.length : Nat) : Int) = 5))
            else
              some false
          else
            some false
        else
          some false
      else
        some false
    else
      some false
  : Option Bool).bind fun (z13 : Bool) =>
  some z13
theorem c_law14_known_le (g : Nat) : Le (c_law14_known g) (m_law14_known g) := by
  unfold c_law14_known m_law14_known
  repeat first | with_reducible exact Le.refl _ | with_reducible apply c_code_Parse_le | with_reducible apply c_code_Print_le | refine Le.bind ?_ (fun _ => ?_) | refine Le.ite ?_ ?_ | refine Le.jx ?_ (fun _ => ?_) | refine Le.loop (fun _ => ?_)
end Go.Proofs.YtefclodjekeeiaaGreatDoor
