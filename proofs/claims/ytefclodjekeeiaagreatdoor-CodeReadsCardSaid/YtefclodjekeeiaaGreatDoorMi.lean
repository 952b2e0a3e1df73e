/- The functions that the law reaches, in plain words: what each gives for its arguments (none: not told). -/
import Derived.Test.YtefclodjekeeiaaGreatDoorLib
namespace Go.Proofs.YtefclodjekeeiaaGreatDoor
open Go Go.Sy Go.RowKit
set_option linter.unusedVariables false
open Go.Mir
structure DJump where
  Name : List UInt8
  N : Int
  To : Int
structure DInstr where
  Op : Int
  A : Int
  B : Int
  N : Int
  Name : List UInt8
  Args : List Int
  Cases : List DJump
structure DCode where
  Name : List UInt8
  Arity : Int
  L : List DInstr
noncomputable def m_stringslite_HasSuffix (g : Nat) (a0 : List UInt8) (a1 : List UInt8) : Option Bool :=
  (
    if ((a0.length : Nat) : Int) ≥ ((a1.length : Nat) : Int) then
      (Mir.small a0).bind fun x4 =>
      (Mir.small a1).bind fun x6 =>
      (Mir.sub a0 (((a0.length : Nat) : Int) - ((a1.length : Nat) : Int)) ((a0.length : Nat) : Int)).bind fun x8 =>
      some (decide (x8 = a1))
    else
      some false
  : Option Bool).bind fun (z1 : Bool) =>
  some z1
noncomputable def m_stringslite_TrimSuffix (g : Nat) (a0 : List UInt8) (a1 : List UInt8) : Option (List UInt8) :=
  (m_stringslite_HasSuffix g a0 a1).bind fun q1 =>
  if q1 = true then
    (Mir.small a0).bind fun x6 =>
    (Mir.small a1).bind fun x8 =>
    (Mir.sub a0 0 (((a0.length : Nat) : Int) - ((a1.length : Nat) : Int))).bind fun x10 =>
    some x10
  else
    some a0
noncomputable def m_strings_TrimSuffix (g : Nat) (a0 : List UInt8) (a1 : List UInt8) : Option (List UInt8) :=
  (m_stringslite_TrimSuffix g a0 a1).bind fun q1 =>
  some q1
noncomputable def m_strings_genSplit (g : Nat) (a0 : List UInt8) (a1 : List UInt8) (a2 : Int) (a3 : Int) : Option (List (List UInt8)) :=
  if a3 = 0 then
    some ([] : List (List UInt8))
  else
    if a1 = ([] : List UInt8) then
      none
    else
      (
        if a3 < 0 then
          (Mir.x_count g a0 a1).bind fun q10 =>
          some (Mir.w64 (q10 + 1))
        else
          some a3
      : Option Int).bind fun (z5 : Int) =>
      (Mir.small a0).bind fun x15 =>
      (Mir.made 16 (if ((a0.length + 1 : Nat) : Int) < z5 then ((a0.length + 1 : Nat) : Int) else z5) ([] : List UInt8)).bind fun x17 =>
      (
        Mir.Loop (S := List UInt8 × List (List UInt8) × Int) (Q := List UInt8 × List (List UInt8) × Int) (a0, x17, (0 : Int)) fun s55 =>
          if s55.2.2 < Mir.w64 ((if ((a0.length + 1 : Nat) : Int) < z5 then ((a0.length + 1 : Nat) : Int) else z5) - 1) then
            (Mir.x_index g s55.1 a1).bind fun q68 =>
            if q68 < 0 then
              some (.inr (s55.1, s55.2.1, s55.2.2))
            else
              (Mir.sub s55.1 0 (Mir.w64 (q68 + a2))).bind fun x74 =>
              (Mir.idx s55.2.1 s55.2.2).bind fun x76 =>
              (Mir.upd s55.2.1 s55.2.2 x74).bind fun x86 =>
              (Mir.small a1).bind fun x88 =>
              (Mir.sub s55.1 (Mir.w64 (q68 + ((a1.length : Nat) : Int))) ((s55.1.length : Nat) : Int)).bind fun x90 =>
              some (.inl (x90, x86, Mir.w64 (s55.2.2 + 1)))
          else
            some (.inr (s55.1, s55.2.1, s55.2.2))
      : Option (List UInt8 × List (List UInt8) × Int)).bind fun (z25 : List UInt8 × List (List UInt8) × Int) =>
      (Mir.idx z25.2.1 z25.2.2).bind fun x93 =>
      (Mir.upd z25.2.1 z25.2.2 z25.1).bind fun x103 =>
      (Mir.sub x103 0 (Mir.w64 (z25.2.2 + 1))).bind fun x105 =>
      some x105
noncomputable def m_strings_Split (g : Nat) (a0 : List UInt8) (a1 : List UInt8) : Option (List (List UInt8)) :=
  (m_strings_genSplit g a0 a1 0 (-1)).bind fun q1 =>
  some q1
noncomputable def m_code_isWord (g : Nat) (a0 : List UInt8) : Option Bool :=
  jx (J := Unit) (A := Bool) (
    Mir.Loop (S := Nat) (Q := (Unit) ⊕ (Bool)) (0 : Nat) fun s5 =>
      if ((s5 : Nat) : Int) < ((a0.length : Nat) : Int) then
        ((a0)[s5]?).bind fun x10 =>
        (
          if ((x10.toNat : Nat) : Int) ≥ 97 then
            if ((x10.toNat : Nat) : Int) ≤ 122 then
              some false
            else
              if ((x10.toNat : Nat) : Int) ≥ 65 then
                if ((x10.toNat : Nat) : Int) ≤ 90 then
                  some false
                else
                  if ((x10.toNat : Nat) : Int) ≥ 48 then
                    if ((x10.toNat : Nat) : Int) ≤ 57 then
                      some false
                    else
                      some (!(decide (((x10.toNat : Nat) : Int) = 95)))
                  else
                    some (!(decide (((x10.toNat : Nat) : Int) = 95)))
              else
                if ((x10.toNat : Nat) : Int) ≥ 48 then
                  if ((x10.toNat : Nat) : Int) ≤ 57 then
                    some false
                  else
                    some (!(decide (((x10.toNat : Nat) : Int) = 95)))
                else
                  some (!(decide (((x10.toNat : Nat) : Int) = 95)))
          else
            if ((x10.toNat : Nat) : Int) ≥ 65 then
              if ((x10.toNat : Nat) : Int) ≤ 90 then
                some false
              else
                if ((x10.toNat : Nat) : Int) ≥ 48 then
                  if ((x10.toNat : Nat) : Int) ≤ 57 then
                    some false
                  else
                    some (!(decide (((x10.toNat : Nat) : Int) = 95)))
                else
                  some (!(decide (((x10.toNat : Nat) : Int) = 95)))
            else
              if ((x10.toNat : Nat) : Int) ≥ 48 then
                if ((x10.toNat : Nat) : Int) ≤ 57 then
                  some false
                else
                  some (!(decide (((x10.toNat : Nat) : Int) = 95)))
              else
                some (!(decide (((x10.toNat : Nat) : Int) = 95)))
        : Option Bool).bind fun (z12 : Bool) =>
        if z12 = true then
          some (.inr (.inr false))
        else
          (Mir.small a0).bind fun x30 =>
          some (.inl (s5 + 1))
      else
        some (.inr (.inl ()))
  ) fun z1 =>
  some (!decide (a0 = ([] : List UInt8)))
noncomputable def m_code_number (g : Nat) (a0 : List UInt8) (a1 : Bool) : Option (Int × Bool) :=
  (
    if a1 = true then
      if ((a0.length : Nat) : Int) > 1 then
        ((a0)[0]?).bind fun x6 =>
        some (decide (((x6.toNat : Nat) : Int) = 45))
      else
        some false
    else
      some false
  : Option Bool).bind fun (z1 : Bool) =>
  (
    if z1 = true then
      (Mir.sub a0 1 ((a0.length : Nat) : Int)).bind fun x12 =>
      some x12
    else
      some a0
  : Option (List UInt8)).bind fun (z9 : List UInt8) =>
  (
    if z9 = ([] : List UInt8) then
      some (z1, true)
    else
      if ((z9.length : Nat) : Int) > 10 then
        some (z1, true)
      else
        if ((z9.length : Nat) : Int) > 1 then
          ((z9)[0]?).bind fun x20 =>
          if ((x20.toNat : Nat) : Int) = 48 then
            some (z1, true)
          else
            if z1 = true then
              some (true, decide (z9 = ([48] : List UInt8)))
            else
              some (false, false)
        else
          if z1 = true then
            some (true, decide (z9 = ([48] : List UInt8)))
          else
            some (false, false)
  : Option (Bool × Bool)).bind fun (z15 : Bool × Bool) =>
  if z15.2 = true then
    some ((0 : Int), false)
  else
    jx (J := Int) (A := Int × Bool) (
      Mir.Loop (S := Int × Nat) (Q := (Int) ⊕ (Int × Bool)) ((0 : Int), (0 : Nat)) fun s36 =>
        if ((s36.2 : Nat) : Int) < ((z9.length : Nat) : Int) then
          (
            ((z9)[s36.2]?).bind fun x43 =>
            if ((x43.toNat : Nat) : Int) < 48 then
              some true
            else
              ((z9)[s36.2]?).bind fun x46 =>
              some (decide (((x46.toNat : Nat) : Int) > 57))
          : Option Bool).bind fun (z41 : Bool) =>
          if z41 = true then
            some (.inr (.inr ((0 : Int), false)))
          else
            ((z9)[s36.2]?).bind fun x50 =>
            (Mir.small z9).bind fun x52 =>
            some (.inl (Mir.w64 ((Mir.w64 (s36.1 * 10)) + (Mir.w64 (IntKind.wrap .u8 (((x50.toNat : Nat) : Int) - 48)))), s36.2 + 1))
        else
          some (.inr (.inl s36.1))
    ) fun z31 =>
    (
      if z15.1 = true then
        some (Mir.w64 (-z31))
      else
        some z31
    : Option Int).bind fun (z55 : Int) =>
    some (z55, true)
noncomputable def m_code_numbers (g : Nat) (a0 : List (List UInt8)) : Option (List Int × Bool) :=
  jx (J := List Int) (A := List Int × Bool) (
    Mir.Loop (S := List Int × Nat) (Q := (List Int) ⊕ (List Int × Bool)) (([] : List Int), (0 : Nat)) fun s22 =>
      if ((s22.2 : Nat) : Int) < ((a0.length : Nat) : Int) then
        ((a0)[s22.2]?).bind fun x36 =>
        (m_code_number g x36 false).bind fun q43 =>
        if q43.2 = true then
          (Mir.push 8 s22.1 [q43.1]).bind fun x54 =>
          some (.inl (x54, s22.2 + 1))
        else
          some (.inr (.inr (([] : List Int), false)))
      else
        some (.inr (.inl s22.1))
  ) fun z2 =>
  some (z2, true)
noncomputable def m_stringslite_Cut (g : Nat) (a0 : List UInt8) (a1 : List UInt8) : Option (List UInt8 × List UInt8 × Bool) :=
  (Mir.x_index g a0 a1).bind fun q1 =>
  if q1 ≥ 0 then
    (Mir.sub a0 0 q1).bind fun x6 =>
    (Mir.small a1).bind fun x8 =>
    (Mir.sub a0 (Mir.w64 (q1 + ((a1.length : Nat) : Int))) ((a0.length : Nat) : Int)).bind fun x10 =>
    some (x6, x10, true)
  else
    some (a0, ([] : List UInt8), false)
noncomputable def m_strings_Cut (g : Nat) (a0 : List UInt8) (a1 : List UInt8) : Option (List UInt8 × List UInt8 × Bool) :=
  (m_stringslite_Cut g a0 a1).bind fun q1 =>
  some (q1.1, q1.2.1, q1.2.2)
noncomputable def m_code_jump (g : Nat) (a0 : List UInt8) : Option (DJump × Bool) :=
  (m_strings_Cut g a0 [58]).bind fun q2 =>
  (m_code_number g q2.2.1 false).bind fun q6 =>
  (
    if q2.2.2 = true then
      some (!q6.2)
    else
      some true
  : Option Bool).bind fun (z10 : Bool) =>
  if z10 = true then
    some ((DJump.mk ([] : List UInt8) 0 0), false)
  else
    (m_code_number g q2.1 true).bind fun q17 =>
    if q17.2 = true then
      some ((DJump.mk ([] : List UInt8) q17.1 q6.1), true)
    else
      (
        (m_code_isWord g q2.1).bind fun q28 =>
        if q28 = true then
          ((q2.1)[0]?).bind fun x34 =>
          if ((x34.toNat : Nat) : Int) < 48 then
            some true
          else
            ((q2.1)[0]?).bind fun x38 =>
            some (decide (((x38.toNat : Nat) : Int) > 57))
        else
          some false
      : Option Bool).bind fun (z23 : Bool) =>
      some ((DJump.mk q2.1 0 q6.1), z23)
noncomputable def m_code_match (g : Nat) (a0 : List (List UInt8)) : Option (Int × Int × Int × Int × List UInt8 × List DJump × Bool) :=
  if ((a0.length : Nat) : Int) < 2 then
    some ((0 : Int), (0 : Int), (0 : Int), (0 : Int), ([] : List UInt8), ([] : List DJump), false)
  else
    (Mir.sub a0 0 2).bind fun x9 =>
    (m_code_numbers g x9).bind fun q12 =>
    if q12.2 = true then
      ((q12.1)[0]?).bind fun x22 =>
      ((q12.1)[1]?).bind fun x29 =>
      jx (J := List DJump) (A := Int × Int × Int × Int × List UInt8 × List DJump × Bool) (
        (Mir.sub a0 2 ((a0.length : Nat) : Int)).bind fun x54 =>
        Mir.Loop (S := List DJump × Nat) (Q := (List DJump) ⊕ (Int × Int × Int × Int × List UInt8 × List DJump × Bool)) (([] : List DJump), (0 : Nat)) fun s66 =>
          if ((s66.2 : Nat) : Int) < ((x54.length : Nat) : Int) then
            ((x54)[s66.2]?).bind fun x80 =>
            (m_code_jump g x80).bind fun q87 =>
            if q87.2 = true then
              (Mir.push 32 s66.1 [q87.1]).bind fun x99 =>
              some (.inl (x99, s66.2 + 1))
            else
              some (.inr (.inr ((0 : Int), (0 : Int), (0 : Int), (0 : Int), ([] : List UInt8), ([] : List DJump), false)))
          else
            some (.inr (.inl s66.1))
      ) fun z39 =>
      some ((1 : Int), x22, x29, (0 : Int), ([] : List UInt8), z39, true)
    else
      some ((0 : Int), (0 : Int), (0 : Int), (0 : Int), ([] : List UInt8), ([] : List DJump), false)
noncomputable def m_code_node (g : Nat) (a0 : List UInt8) (a1 : List (List UInt8)) : Option (Int × Int × Int × Int × List UInt8 × List Int × Bool) :=
  (Mir.put ([] : List ((List UInt8) × Int)) [99, 111, 110] 1).bind fun x5 =>
  (Mir.put x5 [99, 97, 108, 108] 3).bind fun x10 =>
  (Mir.put x10 [105, 110, 116] 2).bind fun x15 =>
  (Mir.put x15 [97, 112, 112, 108, 121] 4).bind fun x20 =>
  (Mir.put x20 [111, 114] 5).bind fun x25 =>
  (Mir.put x25 [102, 97, 105, 108] 7).bind fun x30 =>
  (Mir.getD x30 a0 0).bind fun x35 =>
  jx (J := List (List UInt8) × List UInt8) (A := Int × Int × Int × Int × List UInt8 × List Int × Bool) (
    if x35 = 0 then
      some (.inr ((2 : Int), (0 : Int), (0 : Int), x35, ([] : List UInt8), ([] : List Int), false))
    else
      (
        if x35 = 1 then
          some (decide (x35 = 1))
        else
          some (decide (x35 = 3))
      : Option Bool).bind fun (z55 : Bool) =>
      if z55 = true then
        (
          if ((a1.length : Nat) : Int) = 0 then
            some true
          else
            ((a1)[0]?).bind fun x65 =>
            (m_code_isWord g x65).bind fun q72 =>
            some (!q72)
        : Option Bool).bind fun (z60 : Bool) =>
        if z60 = true then
          some (.inr ((2 : Int), (0 : Int), (0 : Int), x35, ([] : List UInt8), ([] : List Int), false))
        else
          ((a1)[0]?).bind fun x78 =>
          (Mir.sub a1 1 ((a1.length : Nat) : Int)).bind fun x89 =>
          some (.inl (x89, x78))
      else
        if x35 = 2 then
          if ((a1.length : Nat) : Int) = 1 then
            ((a1)[0]?).bind fun x97 =>
            (m_code_number g x97 true).bind fun q104 =>
            some (.inr ((2 : Int), q104.1, (0 : Int), x35, ([] : List UInt8), ([] : List Int), q104.2))
          else
            some (.inr ((2 : Int), (0 : Int), (0 : Int), x35, ([] : List UInt8), ([] : List Int), false))
        else
          if x35 = 7 then
            some (.inr ((2 : Int), (0 : Int), (0 : Int), x35, ([] : List UInt8), ([] : List Int), decide (((a1.length : Nat) : Int) = 0)))
          else
            some (.inl (a1, ([] : List UInt8)))
  ) fun z44 =>
  (m_code_numbers g z44.1).bind fun q111 =>
  some ((2 : Int), (0 : Int), (0 : Int), x35, z44.2, q111.1, q111.2)
noncomputable def m_code_instr (g : Nat) (a0 : List (List UInt8)) : Option (DInstr × Bool) :=
  jx (J := Unit) (A := DInstr × Bool) (
    ((a0)[0]?).bind fun x6 =>
    if x6 = ([109, 97, 116, 99, 104] : List UInt8) then
      (Mir.sub a0 1 ((a0.length : Nat) : Int)).bind fun x18 =>
      (m_code_match g x18).bind fun q21 =>
      some (.inr ((DInstr.mk q21.1 q21.2.1 q21.2.2.1 q21.2.2.2.1 q21.2.2.2.2.1 ([] : List Int) q21.2.2.2.2.2.1), q21.2.2.2.2.2.2))
    else
      if x6 = ([102, 114, 101, 101] : List UInt8) then
        some (.inr ((DInstr.mk 3 0 0 0 ([] : List UInt8) ([] : List Int) ([] : List DJump)), decide (((a0.length : Nat) : Int) = 1)))
      else
        if x6 = ([115, 116, 111, 112] : List UInt8) then
          some (.inr ((DInstr.mk 5 0 0 0 ([] : List UInt8) ([] : List Int) ([] : List DJump)), decide (((a0.length : Nat) : Int) = 1)))
        else
          if x6 = ([101, 110, 100] : List UInt8) then
            (Mir.sub a0 1 ((a0.length : Nat) : Int)).bind fun x39 =>
            (m_code_numbers g x39).bind fun q42 =>
            (
              if q42.2 = true then
                some (!decide (((q42.1.length : Nat) : Int) = 1))
              else
                some true
            : Option Bool).bind fun (z50 : Bool) =>
            if z50 = true then
              some (.inr ((DInstr.mk 0 0 0 0 ([] : List UInt8) ([] : List Int) ([] : List DJump)), false))
            else
              ((q42.1)[0]?).bind fun x57 =>
              some (.inr ((DInstr.mk 4 x57 0 0 ([] : List UInt8) ([] : List Int) ([] : List DJump)), true))
          else
            if x6 = ([110, 111, 100, 101] : List UInt8) then
              if ((a0.length : Nat) : Int) > 1 then
                ((a0)[1]?).bind fun x67 =>
                (Mir.sub a0 2 ((a0.length : Nat) : Int)).bind fun x78 =>
                (m_code_node g x67 x78).bind fun q82 =>
                some (.inr ((DInstr.mk q82.1 q82.2.1 q82.2.2.1 q82.2.2.2.1 q82.2.2.2.2.1 q82.2.2.2.2.2.1 ([] : List DJump)), q82.2.2.2.2.2.2))
              else
                some (.inl ())
            else
              some (.inl ())
  ) fun z3 =>
  some ((DInstr.mk 0 0 0 0 ([] : List UInt8) ([] : List Int) ([] : List DJump)), false)
noncomputable def m_code_large_f1 (g : Nat) (a0 : DCode) : Option Bool :=
  some (decide (((a0.L.length : Nat) : Int) > 400))
noncomputable def m_api_Code_2 (g : Nat) (a0 : List DCode) : Option Int :=
  jx (J := Unit) (A := Int) (
    Mir.Loop (S := Nat) (Q := (Unit) ⊕ (Int)) (0 : Nat) fun s9 =>
      if ((s9 : Nat) : Int) < ((a0.length : Nat) : Int) then
        ((a0)[s9]?).bind fun x16 =>
        (m_code_large_f1 g x16).bind fun q27 =>
        if q27 = true then
          some (.inr (.inr ((s9 : Nat) : Int)))
        else
          some (.inl (s9 + 1))
      else
        some (.inr (.inl ()))
  ) fun z2 =>
  some (-1)
noncomputable def m_api_Code (g : Nat) (a0 : List DCode) : Option Bool :=
  (m_api_Code_2 g a0).bind fun q2 =>
  some (decide (q2 ≥ 0))
noncomputable def m_code_large (g : Nat) (a0 : List DCode) : Option Bool :=
  (
    if ((a0.length : Nat) : Int) > 120 then
      some true
    else
      (m_api_Code g a0).bind fun q7 =>
      some q7
  : Option Bool).bind fun (z2 : Bool) =>
  some z2
noncomputable def m_slices_Index_string_string (g : Nat) (a0 : List (List UInt8)) (a1 : List UInt8) : Option Int :=
  jx (J := Unit) (A := Int) (
    Mir.Loop (S := Nat) (Q := (Unit) ⊕ (Int)) (0 : Nat) fun s6 =>
      if ((s6 : Nat) : Int) < ((a0.length : Nat) : Int) then
        ((a0)[s6]?).bind fun x11 =>
        if a1 = x11 then
          some (.inr (.inr ((s6 : Nat) : Int)))
        else
          some (.inl (s6 + 1))
      else
        some (.inr (.inl ()))
  ) fun z2 =>
  some (-1)
noncomputable def m_slices_Contains_string_string (g : Nat) (a0 : List (List UInt8)) (a1 : List UInt8) : Option Bool :=
  (m_slices_Index_string_string g a0 a1).bind fun q2 =>
  some (decide (q2 ≥ 0))
noncomputable def m_code_isName (g : Nat) (a0 : List UInt8) (a1 : Bool) : Option Bool :=
  (
    if ((a0.length : Nat) : Int) < 1 then
      some true
    else
      if ((a0.length : Nat) : Int) > 16 then
        some true
      else
        (m_code_isWord g a0).bind fun q7 =>
        some (!q7)
  : Option Bool).bind fun (z1 : Bool) =>
  if z1 = true then
    some false
  else
    if a1 = true then
      (
        ((a0)[0]?).bind fun x16 =>
        if ((x16.toNat : Nat) : Int) ≥ 65 then
          ((a0)[0]?).bind fun x19 =>
          some (decide (((x19.toNat : Nat) : Int) ≤ 90))
        else
          some false
      : Option Bool).bind fun (z14 : Bool) =>
      some z14
    else
      (
        ((a0)[0]?).bind fun x28 =>
        if ((x28.toNat : Nat) : Int) ≥ 97 then
          ((a0)[0]?).bind fun x31 =>
          if ((x31.toNat : Nat) : Int) ≤ 122 then
            (m_slices_Contains_string_string g ([[100, 97, 116, 97], [99, 108, 97, 115, 115], [105, 110, 115, 116, 97, 110, 99, 101], [111, 112], [101, 110, 100], [119, 104, 101, 114, 101], [108, 101, 116], [105, 110], [102, 114, 101, 101], [99, 97, 115, 101], [114, 105, 103, 105, 100], [111, 102], [102, 97, 105, 108]] : List (List UInt8)) a0).bind fun q34 =>
            some (!q34)
          else
            ((a0)[0]?).bind fun x38 =>
            if ((x38.toNat : Nat) : Int) = 95 then
              if ((a0.length : Nat) : Int) > 1 then
                (m_slices_Contains_string_string g ([[100, 97, 116, 97], [99, 108, 97, 115, 115], [105, 110, 115, 116, 97, 110, 99, 101], [111, 112], [101, 110, 100], [119, 104, 101, 114, 101], [108, 101, 116], [105, 110], [102, 114, 101, 101], [99, 97, 115, 101], [114, 105, 103, 105, 100], [111, 102], [102, 97, 105, 108]] : List (List UInt8)) a0).bind fun q42 =>
                some (!q42)
              else
                some false
            else
              some false
        else
          ((a0)[0]?).bind fun x46 =>
          if ((x46.toNat : Nat) : Int) = 95 then
            if ((a0.length : Nat) : Int) > 1 then
              (m_slices_Contains_string_string g ([[100, 97, 116, 97], [99, 108, 97, 115, 115], [105, 110, 115, 116, 97, 110, 99, 101], [111, 112], [101, 110, 100], [119, 104, 101, 114, 101], [108, 101, 116], [105, 110], [102, 114, 101, 101], [99, 97, 115, 101], [114, 105, 103, 105, 100], [111, 102], [102, 97, 105, 108]] : List (List UInt8)) a0).bind fun q50 =>
              some (!q50)
            else
              some false
          else
            some false
      : Option Bool).bind fun (z24 : Bool) =>
      some z24
noncomputable def m_code_isNumber_f1 (g : Nat) (a0 : Int) : Option Bool :=
  (
    if a0 < 0 then
      some true
    else
      some (decide (a0 > 400))
  : Option Bool).bind fun (z1 : Bool) =>
  some z1
noncomputable def m_slices_IndexFunc_int_int (g : Nat) (a0 : List Int) : Option Int :=
  jx (J := Unit) (A := Int) (
    Mir.Loop (S := Nat) (Q := (Unit) ⊕ (Int)) (0 : Nat) fun s9 =>
      if ((s9 : Nat) : Int) < ((a0.length : Nat) : Int) then
        ((a0)[s9]?).bind fun x16 =>
        (m_code_isNumber_f1 g x16).bind fun q23 =>
        if q23 = true then
          some (.inr (.inr ((s9 : Nat) : Int)))
        else
          some (.inl (s9 + 1))
      else
        some (.inr (.inl ()))
  ) fun z2 =>
  some (-1)
noncomputable def m_slices_ContainsFunc_int_int (g : Nat) (a0 : List Int) : Option Bool :=
  (m_slices_IndexFunc_int_int g a0).bind fun q2 =>
  some (decide (q2 ≥ 0))
noncomputable def m_code_isNumber (g : Nat) (a0 : List Int) : Option Bool :=
  (m_slices_ContainsFunc_int_int g a0).bind fun q2 =>
  some (!q2)
noncomputable def m_code_isInt (g : Nat) (a0 : Int) : Option Bool :=
  (
    if a0 ≥ (-1000000000) then
      some (decide (a0 ≤ 1000000000))
    else
      some false
  : Option Bool).bind fun (z1 : Bool) =>
  some z1
noncomputable def m_code_isNodeText (g : Nat) (a0 : DInstr) : Option Bool :=
  if a0.N = 1 then
    (
      if a0.A = 0 then
        (m_code_isName g a0.Name true).bind fun q10 =>
        some q10
      else
        some false
    : Option Bool).bind fun (z5 : Bool) =>
    some z5
  else
    if a0.N = 3 then
      (
        if a0.A = 0 then
          (m_code_isName g a0.Name false).bind fun q21 =>
          some q21
        else
          some false
      : Option Bool).bind fun (z16 : Bool) =>
      some z16
    else
      if a0.N = 2 then
        (
          if a0.Name = ([] : List UInt8) then
            if ((a0.Args.length : Nat) : Int) = 0 then
              (m_code_isInt g a0.A).bind fun q33 =>
              some q33
            else
              some false
          else
            some false
        : Option Bool).bind fun (z27 : Bool) =>
        some z27
      else
        (
          if a0.N = 4 then
            some (decide (a0.N = 4))
          else
            some (decide (a0.N = 5))
        : Option Bool).bind fun (z38 : Bool) =>
        if z38 = true then
          (
            if a0.Name = ([] : List UInt8) then
              some (decide (a0.A = 0))
            else
              some false
          : Option Bool).bind fun (z43 : Bool) =>
          some z43
        else
          if a0.N = 7 then
            (
              if a0.Name = ([] : List UInt8) then
                if a0.A = 0 then
                  some (decide (((a0.Args.length : Nat) : Int) = 0))
                else
                  some false
              else
                some false
            : Option Bool).bind fun (z48 : Bool) =>
            some z48
          else
            some false
noncomputable def m_code_isPrinted (g : Nat) (a0 : DInstr) : Option Bool :=
  (m_code_isNumber g a0.Args).bind fun q4 =>
  if q4 = true then
    (
      if a0.Name = ([] : List UInt8) then
        if ((a0.Args.length : Nat) : Int) = 0 then
          if ((a0.Cases.length : Nat) : Int) = 0 then
            if a0.N = 0 then
              some (decide (a0.B = 0))
            else
              some false
          else
            some false
        else
          some false
      else
        some false
    : Option Bool).bind fun (z10 : Bool) =>
    if a0.Op = 1 then
      (
        if a0.Name = ([] : List UInt8) then
          if ((a0.Args.length : Nat) : Int) = 0 then
            if a0.N = 0 then
              (m_code_isNumber g ([a0.A, a0.B] : List Int)).bind fun q26 =>
              some q26
            else
              some false
          else
            some false
        else
          some false
      : Option Bool).bind fun (z17 : Bool) =>
      (
        Mir.Loop (S := Bool × Nat) (Q := Bool) (z17, (0 : Nat)) fun s37 =>
          if ((s37.2 : Nat) : Int) < ((a0.Cases.length : Nat) : Int) then
            (
              ((a0.Cases)[s37.2]?).bind fun x48 =>
              if s37.1 = true then
                (m_code_isNumber g ([x48.To] : List Int)).bind fun q60 =>
                if q60 = true then
                  if x48.Name = ([] : List UInt8) then
                    (m_code_isInt g x48.N).bind fun q67 =>
                    if q67 = true then
                      some true
                    else
                      if x48.N = 0 then
                        (m_code_isName g x48.Name true).bind fun q75 =>
                        some q75
                      else
                        some false
                  else
                    if x48.N = 0 then
                      (m_code_isName g x48.Name true).bind fun q80 =>
                      some q80
                    else
                      some false
                else
                  some false
              else
                some false
            : Option Bool).bind fun (z44 : Bool) =>
            some (.inl (z44, s37.2 + 1))
          else
            some (.inr s37.1)
      : Option Bool).bind fun (z30 : Bool) =>
      some z30
    else
      (
        if a0.Op = 3 then
          some (decide (a0.Op = 3))
        else
          some (decide (a0.Op = 5))
      : Option Bool).bind fun (z88 : Bool) =>
      if z88 = true then
        (
          if z10 = true then
            some (decide (a0.A = 0))
          else
            some false
        : Option Bool).bind fun (z93 : Bool) =>
        some z93
      else
        if a0.Op = 4 then
          (
            if z10 = true then
              (m_code_isNumber g ([a0.A] : List Int)).bind fun q108 =>
              some q108
            else
              some false
          : Option Bool).bind fun (z100 : Bool) =>
          some z100
        else
          if a0.Op = 2 then
            (
              if ((a0.Cases.length : Nat) : Int) = 0 then
                if a0.B = 0 then
                  (m_code_isNodeText g a0).bind fun q121 =>
                  some q121
                else
                  some false
              else
                some false
            : Option Bool).bind fun (z115 : Bool) =>
            some z115
          else
            some false
  else
    some false
noncomputable def m_code_printed_f1 (g : Nat) (a0 : DInstr) : Option Bool :=
  (m_code_isPrinted g a0).bind fun q4 =>
  some (!q4)
noncomputable def m_api_Instr_2 (g : Nat) (a0 : List DInstr) : Option Int :=
  jx (J := Unit) (A := Int) (
    Mir.Loop (S := Nat) (Q := (Unit) ⊕ (Int)) (0 : Nat) fun s9 =>
      if ((s9 : Nat) : Int) < ((a0.length : Nat) : Int) then
        ((a0)[s9]?).bind fun x16 =>
        (m_code_printed_f1 g x16).bind fun q31 =>
        if q31 = true then
          some (.inr (.inr ((s9 : Nat) : Int)))
        else
          some (.inl (s9 + 1))
      else
        some (.inr (.inl ()))
  ) fun z2 =>
  some (-1)
noncomputable def m_api_Instr (g : Nat) (a0 : List DInstr) : Option Bool :=
  (m_api_Instr_2 g a0).bind fun q2 =>
  some (decide (q2 ≥ 0))
noncomputable def m_code_printed (g : Nat) (a0 : List DCode) : Option Int :=
  (m_code_large g a0).bind fun q2 =>
  if q2 = true then
    some (3 : Int)
  else
    jx (J := Unit) (A := Int) (
      Mir.Loop (S := Nat) (Q := (Unit) ⊕ (Int)) (0 : Nat) fun s15 =>
        if ((s15 : Nat) : Int) < ((a0.length : Nat) : Int) then
          ((a0)[s15]?).bind fun x22 =>
          (
            (m_code_isName g x22.Name false).bind fun q38 =>
            if q38 = true then
              (m_code_isNumber g ([x22.Arity] : List Int)).bind fun q46 =>
              if q46 = true then
                (m_api_Instr g x22.L).bind fun q52 =>
                some q52
              else
                some true
            else
              some true
          : Option Bool).bind fun (z34 : Bool) =>
          if z34 = true then
            some (.inr (.inr (1 : Int)))
          else
            some (.inl (s15 + 1))
        else
          some (.inr (.inl ()))
    ) fun z8 =>
    some (0 : Int)
noncomputable def m_code_Parse (g : Nat) (a0 : List UInt8) : Option (List DCode × Int × Int) :=
  if ((a0.length : Nat) : Int) > 20000 then
    some (([] : List DCode), (0 : Int), (3 : Int))
  else
    if a0 = ([] : List UInt8) then
      some (([] : List DCode), (0 : Int), (0 : Int))
    else
      jx (J := List DCode) (A := List DCode × Int × Int) (
        (m_strings_TrimSuffix g a0 [10]).bind fun q21 =>
        (m_strings_Split g q21 [10]).bind fun q25 =>
        Mir.Loop (S := List DCode × Nat) (Q := (List DCode) ⊕ (List DCode × Int × Int)) (([] : List DCode), (0 : Nat)) fun s47 =>
          if ((s47.2 : Nat) : Int) < ((q25.length : Nat) : Int) then
            jx (J := List DCode) (A := (List DCode × Nat) ⊕ ((List DCode) ⊕ (List DCode × Int × Int))) (
              ((q25)[s47.2]?).bind fun x83 =>
              (m_strings_Split g x83 [32]).bind fun q90 =>
              ((q90)[0]?).bind fun x98 =>
              if x98 = ([99, 111, 100, 101] : List UInt8) then
                (
                  if ((q90.length : Nat) : Int) = 3 then
                    ((q90)[1]?).bind fun x111 =>
                    (m_code_isWord g x111).bind fun q118 =>
                    some (!q118)
                  else
                    some true
                : Option Bool).bind fun (z106 : Bool) =>
                if z106 = true then
                  some (.inr (.inr (.inr (([] : List DCode), ((s47.2 + 1 : Nat) : Int), (2 : Int)))))
                else
                  ((q90)[2]?).bind fun x124 =>
                  (m_code_number g x124 false).bind fun q131 =>
                  if q131.2 = true then
                    ((q90)[1]?).bind fun x137 =>
                    (Mir.push 48 s47.1 [(DCode.mk x137 q131.1 ([] : List DInstr))]).bind fun x154 =>
                    some (.inl x154)
                  else
                    some (.inr (.inr (.inr (([] : List DCode), ((s47.2 + 1 : Nat) : Int), (2 : Int)))))
              else
                (m_code_instr g q90).bind fun q159 =>
                (
                  if q159.2 = true then
                    some (decide (((s47.1.length : Nat) : Int) = 0))
                  else
                    some true
                : Option Bool).bind fun (z172 : Bool) =>
                if z172 = true then
                  some (.inr (.inr (.inr (([] : List DCode), ((s47.2 + 1 : Nat) : Int), (2 : Int)))))
                else
                  (Mir.idx s47.1 (((s47.1.length : Nat) : Int) - 1)).bind fun x179 =>
                  (Mir.push 96 (Mir.lastL DCode.L s47.1) [q159.1]).bind fun x192 =>
                  (Mir.idx s47.1 (((s47.1.length : Nat) : Int) - 1)).bind fun x195 =>
                  (Mir.setLast (fun (x : DCode) ys => DCode.mk x.Name x.Arity ys) s47.1 x192).bind fun x205 =>
                  some (.inl x205)
            ) fun z67 =>
            some (.inl (z67, s47.2 + 1))
          else
            some (.inr (.inl s47.1))
      ) fun z5 =>
      (m_code_printed g z5).bind fun q212 =>
      if q212 = 0 then
        some (z5, (0 : Int), (0 : Int))
      else
        some (([] : List DCode), (0 : Int), q212)
noncomputable def m_ref14_areWords (g : Nat) (a0 : List (List UInt8)) : Option Bool :=
  jx (J := Unit) (A := Bool) (
    Mir.Loop (S := Nat) (Q := (Unit) ⊕ (Bool)) (0 : Nat) fun s6 =>
      if ((s6 : Nat) : Int) < ((a0.length : Nat) : Int) then
        ((a0)[s6]?).bind fun x11 =>
        if x11 = ([] : List UInt8) then
          some (.inr (.inr false))
        else
          some (.inl (s6 + 1))
      else
        some (.inr (.inl ()))
  ) fun z2 =>
  some true
noncomputable def m_ref14_isWhole (g : Nat) (a0 : List UInt8) : Option Bool :=
  jx (J := List UInt8) (A := Bool) (
    (
      if ((a0.length : Nat) : Int) > 0 then
        ((a0)[0]?).bind fun x7 =>
        some (decide (((x7.toNat : Nat) : Int) = 45))
      else
        some false
    : Option Bool).bind fun (z4 : Bool) =>
    if z4 = true then
      (Mir.sub a0 1 ((a0.length : Nat) : Int)).bind fun x10 =>
      if x10 = ([48] : List UInt8) then
        some (.inr false)
      else
        some (.inl x10)
    else
      some (.inl a0)
  ) fun z1 =>
  (
    if ((z1.length : Nat) : Int) < 1 then
      some true
    else
      if ((z1.length : Nat) : Int) > 10 then
        some true
      else
        ((z1)[0]?).bind fun x19 =>
        if ((x19.toNat : Nat) : Int) = 48 then
          some (decide (((z1.length : Nat) : Int) > 1))
        else
          some false
  : Option Bool).bind fun (z15 : Bool) =>
  if z15 = true then
    some false
  else
    jx (J := Unit) (A := Bool) (
      Mir.Loop (S := Nat) (Q := (Unit) ⊕ (Bool)) (0 : Nat) fun s28 =>
        if ((s28 : Nat) : Int) < ((z1.length : Nat) : Int) then
          (
            ((z1)[s28]?).bind fun x35 =>
            if ((x35.toNat : Nat) : Int) < 48 then
              some true
            else
              ((z1)[s28]?).bind fun x38 =>
              some (decide (((x38.toNat : Nat) : Int) > 57))
          : Option Bool).bind fun (z33 : Bool) =>
          if z33 = true then
            some (.inr (.inr false))
          else
            (Mir.small z1).bind fun x42 =>
            some (.inl (s28 + 1))
        else
          some (.inr (.inl ()))
    ) fun z24 =>
    some true
noncomputable def m_ref14_integer (g : Nat) (a0 : List UInt8) : Option (Int × Bool) :=
  (m_ref14_isWhole g a0).bind fun q1 =>
  if q1 = true then
    (Mir.x_atoi g a0).bind fun q7 =>
    some (q7, true)
  else
    some ((0 : Int), false)
noncomputable def m_ref14_number (g : Nat) (a0 : List UInt8) : Option (Int × Bool) :=
  (
    if a0 = ([] : List UInt8) then
      some true
    else
      ((a0)[0]?).bind fun x4 =>
      some (decide (((x4.toNat : Nat) : Int) = 45))
  : Option Bool).bind fun (z1 : Bool) =>
  if z1 = true then
    some ((0 : Int), false)
  else
    (m_ref14_integer g a0).bind fun q8 =>
    some (q8.1, q8.2)
noncomputable def m_ref14_isRun (g : Nat) (a0 : List UInt8) : Option Bool :=
  jx (J := Unit) (A := Bool) (
    Mir.Loop (S := Nat) (Q := (Unit) ⊕ (Bool)) (0 : Nat) fun s5 =>
      if ((s5 : Nat) : Int) < ((a0.length : Nat) : Int) then
        ((a0)[s5]?).bind fun x10 =>
        (
          if ((x10.toNat : Nat) : Int) < 97 then
            if ((x10.toNat : Nat) : Int) < 65 then
              if ((x10.toNat : Nat) : Int) < 48 then
                some (!decide (((x10.toNat : Nat) : Int) = 95))
              else
                if ((x10.toNat : Nat) : Int) > 57 then
                  some (!decide (((x10.toNat : Nat) : Int) = 95))
                else
                  some false
            else
              if ((x10.toNat : Nat) : Int) > 90 then
                if ((x10.toNat : Nat) : Int) < 48 then
                  some (!decide (((x10.toNat : Nat) : Int) = 95))
                else
                  if ((x10.toNat : Nat) : Int) > 57 then
                    some (!decide (((x10.toNat : Nat) : Int) = 95))
                  else
                    some false
              else
                some false
          else
            if ((x10.toNat : Nat) : Int) > 122 then
              if ((x10.toNat : Nat) : Int) < 65 then
                if ((x10.toNat : Nat) : Int) < 48 then
                  some (!decide (((x10.toNat : Nat) : Int) = 95))
                else
                  if ((x10.toNat : Nat) : Int) > 57 then
                    some (!decide (((x10.toNat : Nat) : Int) = 95))
                  else
                    some false
              else
                if ((x10.toNat : Nat) : Int) > 90 then
                  if ((x10.toNat : Nat) : Int) < 48 then
                    some (!decide (((x10.toNat : Nat) : Int) = 95))
                  else
                    if ((x10.toNat : Nat) : Int) > 57 then
                      some (!decide (((x10.toNat : Nat) : Int) = 95))
                    else
                      some false
                else
                  some false
            else
              some false
        : Option Bool).bind fun (z12 : Bool) =>
        if z12 = true then
          some (.inr (.inr false))
        else
          (Mir.small a0).bind fun x30 =>
          some (.inl (s5 + 1))
      else
        some (.inr (.inl ()))
  ) fun z1 =>
  some (!decide (a0 = ([] : List UInt8)))
noncomputable def m_ref14_all (g : Nat) (a0 : List (List UInt8)) : Option (List Int × Bool) :=
  jx (J := List Int) (A := List Int × Bool) (
    Mir.Loop (S := List Int × Nat) (Q := (List Int) ⊕ (List Int × Bool)) (([] : List Int), (0 : Nat)) fun s22 =>
      if ((s22.2 : Nat) : Int) < ((a0.length : Nat) : Int) then
        ((a0)[s22.2]?).bind fun x36 =>
        (m_ref14_number g x36).bind fun q43 =>
        if q43.2 = true then
          (Mir.push 8 s22.1 [q43.1]).bind fun x54 =>
          some (.inl (x54, s22.2 + 1))
        else
          some (.inr (.inr (([] : List Int), false)))
      else
        some (.inr (.inl s22.1))
  ) fun z2 =>
  some (z2, true)
noncomputable def m_ref14_made (g : Nat) (a0 : List (List UInt8)) : Option (Int × Int × Int × Int × List UInt8 × List Int × Bool) :=
  if ((a0.length : Nat) : Int) = 0 then
    some ((2 : Int), (0 : Int), (0 : Int), (0 : Int), ([] : List UInt8), ([] : List Int), false)
  else
    ((a0)[0]?).bind fun x6 =>
    (Mir.sub a0 1 ((a0.length : Nat) : Int)).bind fun x17 =>
    jx (J := Nat × List UInt8 × List (List UInt8)) (A := Int × Int × Int × Int × List UInt8 × List Int × Bool) (
      (
        if x6 = ([99, 111, 110] : List UInt8) then
          some (decide (x6 = ([99, 111, 110] : List UInt8)))
        else
          some (decide (x6 = ([99, 97, 108, 108] : List UInt8)))
      : Option Bool).bind fun (z29 : Bool) =>
      if z29 = true then
        (
          if ((x17.length : Nat) : Int) = 0 then
            some true
          else
            ((x17)[0]?).bind fun x39 =>
            (m_ref14_isRun g x39).bind fun q46 =>
            some (!q46)
        : Option Bool).bind fun (z34 : Bool) =>
        if z34 = true then
          some (.inr ((2 : Int), (0 : Int), (0 : Int), (0 : Int), ([] : List UInt8), ([] : List Int), false))
        else
          ((x17)[0]?).bind fun x52 =>
          (Mir.sub x17 1 ((x17.length : Nat) : Int)).bind fun x63 =>
          if x6 = ([99, 97, 108, 108] : List UInt8) then
            some (.inl ((3 : Nat), x52, x63))
          else
            some (.inl ((1 : Nat), x52, x63))
      else
        if x6 = ([105, 110, 116] : List UInt8) then
          if ((x17.length : Nat) : Int) = 1 then
            ((x17)[0]?).bind fun x73 =>
            (m_ref14_integer g x73).bind fun q80 =>
            some (.inr ((2 : Int), q80.1, (0 : Int), (2 : Int), ([] : List UInt8), ([] : List Int), q80.2))
          else
            some (.inr ((2 : Int), (0 : Int), (0 : Int), (0 : Int), ([] : List UInt8), ([] : List Int), false))
        else
          if x6 = ([97, 112, 112, 108, 121] : List UInt8) then
            some (.inl ((4 : Nat), ([] : List UInt8), x17))
          else
            if x6 = ([111, 114] : List UInt8) then
              some (.inl ((5 : Nat), ([] : List UInt8), x17))
            else
              if x6 = ([102, 97, 105, 108] : List UInt8) then
                some (.inr ((2 : Int), (0 : Int), (0 : Int), (7 : Int), ([] : List UInt8), ([] : List Int), decide (((x17.length : Nat) : Int) = 0)))
              else
                some (.inr ((2 : Int), (0 : Int), (0 : Int), (0 : Int), ([] : List UInt8), ([] : List Int), false))
    ) fun z20 =>
    (m_ref14_all g z20.2.2).bind fun q91 =>
    some ((2 : Int), (0 : Int), (0 : Int), ((z20.1 : Nat) : Int), z20.2.1, q91.1, q91.2)
noncomputable def m_bytealg_LastIndexByteString (g : Nat) (a0 : List UInt8) (a1 : Int) : Option Int :=
  jx (J := Unit) (A := Int) (
    (Mir.small a0).bind fun x4 =>
    Mir.Loop (S := Int) (Q := (Unit) ⊕ (Int)) (((a0.length : Nat) : Int) - 1) fun s7 =>
      if s7 ≥ 0 then
        (Mir.idx a0 s7).bind fun x12 =>
        if ((x12.toNat : Nat) : Int) = a1 then
          some (.inr (.inr s7))
        else
          some (.inl (Mir.w64 (s7 - 1)))
      else
        some (.inr (.inl ()))
  ) fun z1 =>
  some (-1)
noncomputable def m_strings_LastIndexByte (g : Nat) (a0 : List UInt8) (a1 : Int) : Option Int :=
  (m_bytealg_LastIndexByteString g a0 a1).bind fun q1 =>
  some q1
noncomputable def m_ref14_jump (g : Nat) (a0 : List UInt8) : Option (DJump × Bool) :=
  (m_strings_LastIndexByte g a0 58).bind fun q2 =>
  if q2 < 1 then
    some ((DJump.mk ([] : List UInt8) 0 0), false)
  else
    (Mir.sub a0 (Mir.w64 (q2 + 1)) ((a0.length : Nat) : Int)).bind fun x8 =>
    (m_ref14_number g x8).bind fun q10 =>
    if q10.2 = true then
      ((a0)[0]?).bind fun x16 =>
      (
        if ((x16.toNat : Nat) : Int) = 45 then
          some true
        else
          if ((x16.toNat : Nat) : Int) ≥ 48 then
            some (decide (((x16.toNat : Nat) : Int) ≤ 57))
          else
            some false
      : Option Bool).bind fun (z18 : Bool) =>
      if z18 = true then
        (Mir.sub a0 0 q2).bind fun x23 =>
        (m_ref14_integer g x23).bind fun q25 =>
        some ((DJump.mk ([] : List UInt8) q25.1 q10.1), q25.2)
      else
        (Mir.sub a0 0 q2).bind fun x30 =>
        (Mir.sub a0 0 q2).bind fun x32 =>
        (m_ref14_isRun g x32).bind fun q35 =>
        some ((DJump.mk x30 0 q10.1), q35)
    else
      some ((DJump.mk ([] : List UInt8) 0 0), false)
noncomputable def m_ref14_instr (g : Nat) (a0 : List (List UInt8)) : Option (DInstr × Bool) :=
  ((a0)[0]?).bind fun x3 =>
  if x3 = ([102, 114, 101, 101] : List UInt8) then
    some ((DInstr.mk 3 0 0 0 ([] : List UInt8) ([] : List Int) ([] : List DJump)), decide (((a0.length : Nat) : Int) = 1))
  else
    if x3 = ([115, 116, 111, 112] : List UInt8) then
      some ((DInstr.mk 5 0 0 0 ([] : List UInt8) ([] : List Int) ([] : List DJump)), decide (((a0.length : Nat) : Int) = 1))
    else
      if x3 = ([110, 111, 100, 101] : List UInt8) then
        (Mir.sub a0 1 ((a0.length : Nat) : Int)).bind fun x19 =>
        (m_ref14_made g x19).bind fun q22 =>
        some ((DInstr.mk q22.1 q22.2.1 q22.2.2.1 q22.2.2.2.1 q22.2.2.2.2.1 q22.2.2.2.2.2.1 ([] : List DJump)), q22.2.2.2.2.2.2)
      else
        if x3 = ([101, 110, 100] : List UInt8) then
          (Mir.sub a0 1 ((a0.length : Nat) : Int)).bind fun x36 =>
          (m_ref14_all g x36).bind fun q39 =>
          (
            if q39.2 = true then
              some (!decide (((q39.1.length : Nat) : Int) = 1))
            else
              some true
          : Option Bool).bind fun (z47 : Bool) =>
          if z47 = true then
            some ((DInstr.mk 0 0 0 0 ([] : List UInt8) ([] : List Int) ([] : List DJump)), false)
          else
            ((q39.1)[0]?).bind fun x54 =>
            some ((DInstr.mk 4 x54 0 0 ([] : List UInt8) ([] : List Int) ([] : List DJump)), true)
        else
          if x3 = ([109, 97, 116, 99, 104] : List UInt8) then
            if ((a0.length : Nat) : Int) < 3 then
              some ((DInstr.mk 0 0 0 0 ([] : List UInt8) ([] : List Int) ([] : List DJump)), false)
            else
              (Mir.sub a0 1 3).bind fun x69 =>
              (m_ref14_all g x69).bind fun q72 =>
              if q72.2 = true then
                ((q72.1)[0]?).bind fun x82 =>
                ((q72.1)[1]?).bind fun x89 =>
                jx (J := List DJump) (A := DInstr × Bool) (
                  Mir.Loop (S := List DJump × Nat) (Q := (List DJump) ⊕ (DInstr × Bool)) (([] : List DJump), (3 : Nat)) fun s119 =>
                    if ((s119.2 : Nat) : Int) < ((a0.length : Nat) : Int) then
                      ((a0)[s119.2]?).bind fun x133 =>
                      (m_ref14_jump g x133).bind fun q140 =>
                      if q140.2 = true then
                        (Mir.push 32 s119.1 [q140.1]).bind fun x152 =>
                        some (.inl (x152, s119.2 + 1))
                      else
                        some (.inr (.inr ((DInstr.mk 0 0 0 0 ([] : List UInt8) ([] : List Int) ([] : List DJump)), false)))
                    else
                      some (.inr (.inl s119.1))
                ) fun z99 =>
                some ((DInstr.mk 1 x82 x89 0 ([] : List UInt8) ([] : List Int) z99), true)
              else
                some ((DInstr.mk 0 0 0 0 ([] : List UInt8) ([] : List Int) ([] : List DJump)), false)
          else
            some ((DInstr.mk 0 0 0 0 ([] : List UInt8) ([] : List Int) ([] : List DJump)), false)
noncomputable def m_ref14_sizes (g : Nat) (a0 : List DCode) : Option Int :=
  if ((a0.length : Nat) : Int) > 120 then
    some (3 : Int)
  else
    jx (J := Unit) (A := Int) (
      Mir.Loop (S := Nat) (Q := (Unit) ⊕ (Int)) (0 : Nat) fun s8 =>
        if ((s8 : Nat) : Int) < ((a0.length : Nat) : Int) then
          ((a0)[s8]?).bind fun x13 =>
          if ((x13.L.length : Nat) : Int) > 400 then
            some (.inr (.inr (3 : Int)))
          else
            some (.inl (s8 + 1))
        else
          some (.inr (.inl ()))
    ) fun z4 =>
    some (0 : Int)
noncomputable def m_ref08_isSmall (g : Nat) (a0 : Int) : Option Bool :=
  (
    if a0 ≥ 97 then
      some (decide (a0 ≤ 122))
    else
      some false
  : Option Bool).bind fun (z1 : Bool) =>
  some z1
noncomputable def m_ref08_isGreat (g : Nat) (a0 : Int) : Option Bool :=
  (
    if a0 ≥ 65 then
      some (decide (a0 ≤ 90))
    else
      some false
  : Option Bool).bind fun (z1 : Bool) =>
  some z1
noncomputable def m_ref08_isDigit (g : Nat) (a0 : Int) : Option Bool :=
  (
    if a0 ≥ 48 then
      some (decide (a0 ≤ 57))
    else
      some false
  : Option Bool).bind fun (z1 : Bool) =>
  some z1
noncomputable def m_ref08_isWord (g : Nat) (a0 : Int) : Option Bool :=
  (
    (m_ref08_isSmall g a0).bind fun q5 =>
    if q5 = true then
      some true
    else
      (m_ref08_isGreat g a0).bind fun q12 =>
      if q12 = true then
        some true
      else
        (m_ref08_isDigit g a0).bind fun q19 =>
        if q19 = true then
          some true
        else
          some (decide (a0 = 95))
  : Option Bool).bind fun (z1 : Bool) =>
  some z1
noncomputable def m_ref08_rest (g : Nat) (a0 : List UInt8) (a1 : Int) : Option Bool :=
  jx (J := Unit) (A := Bool) (
    Mir.Loop (S := Int) (Q := (Unit) ⊕ (Bool)) a1 fun s8 =>
      if s8 < ((a0.length : Nat) : Int) then
        (Mir.idx a0 s8).bind fun x15 =>
        (m_ref08_isWord g ((x15.toNat : Nat) : Int)).bind fun q17 =>
        if q17 = true then
          some (.inl (Mir.w64 (s8 + 1)))
        else
          some (.inr (.inr false))
      else
        some (.inr (.inl ()))
  ) fun z1 =>
  some true
noncomputable def m_ref08_reserved (g : Nat) : Option (List (List UInt8)) :=
  some ([[100, 97, 116, 97], [99, 108, 97, 115, 115], [105, 110, 115, 116, 97, 110, 99, 101], [111, 112], [101, 110, 100], [119, 104, 101, 114, 101], [108, 101, 116], [105, 110], [102, 114, 101, 101], [99, 97, 115, 101], [114, 105, 103, 105, 100], [111, 102], [102, 97, 105, 108]] : List (List UInt8))
noncomputable def m_ref08_IsSmall (g : Nat) (a0 : List UInt8) : Option Bool :=
  (
    if ((a0.length : Nat) : Int) < 1 then
      some true
    else
      if ((a0.length : Nat) : Int) > 16 then
        some true
      else
        ((a0)[0]?).bind fun x7 =>
        (m_ref08_isSmall g ((x7.toNat : Nat) : Int)).bind fun q9 =>
        if q9 = true then
          (m_ref08_rest g a0 1).bind fun q15 =>
          some (!q15)
        else
          some true
  : Option Bool).bind fun (z1 : Bool) =>
  if z1 = true then
    some false
  else
    (m_ref08_reserved g).bind fun q22 =>
    jx (J := Unit) (A := Bool) (
      Mir.Loop (S := Nat) (Q := (Unit) ⊕ (Bool)) (0 : Nat) fun s34 =>
        if ((s34 : Nat) : Int) < ((q22.length : Nat) : Int) then
          ((q22)[s34]?).bind fun x39 =>
          if x39 = a0 then
            some (.inr (.inr false))
          else
            some (.inl (s34 + 1))
        else
          some (.inr (.inl ()))
    ) fun z30 =>
    some true
noncomputable def m_ref08_IsCore (g : Nat) (a0 : List UInt8) : Option Bool :=
  (
    (m_ref08_IsSmall g a0).bind fun q5 =>
    if q5 = true then
      some true
    else
      if ((a0.length : Nat) : Int) ≥ 2 then
        if ((a0.length : Nat) : Int) ≤ 16 then
          ((a0)[0]?).bind fun x14 =>
          if ((x14.toNat : Nat) : Int) = 95 then
            (m_ref08_rest g a0 1).bind fun q17 =>
            some q17
          else
            some false
        else
          some false
      else
        some false
  : Option Bool).bind fun (z1 : Bool) =>
  some z1
noncomputable def m_ref14_isNumber (g : Nat) (a0 : Int) : Option Bool :=
  (
    if a0 ≥ 0 then
      some (decide (a0 ≤ 400))
    else
      some false
  : Option Bool).bind fun (z1 : Bool) =>
  some z1
noncomputable def m_ref14_isInt (g : Nat) (a0 : Int) : Option Bool :=
  (
    if a0 ≥ (-1000000000) then
      some (decide (a0 ≤ 1000000000))
    else
      some false
  : Option Bool).bind fun (z1 : Bool) =>
  some z1
noncomputable def m_ref08_IsGreat (g : Nat) (a0 : List UInt8) : Option Bool :=
  (
    if ((a0.length : Nat) : Int) ≥ 1 then
      if ((a0.length : Nat) : Int) ≤ 16 then
        ((a0)[0]?).bind fun x7 =>
        (m_ref08_isGreat g ((x7.toNat : Nat) : Int)).bind fun q9 =>
        if q9 = true then
          (m_ref08_rest g a0 1).bind fun q15 =>
          some q15
        else
          some false
      else
        some false
    else
      some false
  : Option Bool).bind fun (z1 : Bool) =>
  some z1
noncomputable def m_ref14_areNumbers (g : Nat) (a0 : List Int) : Option Bool :=
  jx (J := Unit) (A := Bool) (
    Mir.Loop (S := Nat) (Q := (Unit) ⊕ (Bool)) (0 : Nat) fun s9 =>
      if ((s9 : Nat) : Int) < ((a0.length : Nat) : Int) then
        ((a0)[s9]?).bind fun x16 =>
        (m_ref14_isNumber g x16).bind fun q23 =>
        if q23 = true then
          some (.inl (s9 + 1))
        else
          some (.inr (.inr false))
      else
        some (.inr (.inl ()))
  ) fun z2 =>
  some true
noncomputable def m_ref14_isWritten (g : Nat) (a0 : DInstr) : Option Bool :=
  (
    if a0.N = 0 then
      if a0.Name = ([] : List UInt8) then
        some (decide (((a0.Args.length : Nat) : Int) = 0))
      else
        some false
    else
      some false
  : Option Bool).bind fun (z4 : Bool) =>
  jx (J := Unit) (A := Bool) (
    if a0.Op = 1 then
      jx (J := Unit) (A := (Unit) ⊕ (Bool)) (
        Mir.Loop (S := Nat) (Q := (Unit) ⊕ ((Unit) ⊕ (Bool))) (0 : Nat) fun s21 =>
          if ((s21 : Nat) : Int) < ((a0.Cases.length : Nat) : Int) then
            ((a0.Cases)[s21]?).bind fun x28 =>
            (
              if x28.Name = ([] : List UInt8) then
                (m_ref14_isInt g x28.N).bind fun q41 =>
                if q41 = true then
                  (m_ref14_isNumber g x28.To).bind fun q47 =>
                  some (!q47)
                else
                  some true
              else
                if x28.N = 0 then
                  (m_ref08_IsGreat g x28.Name).bind fun q53 =>
                  if q53 = true then
                    (m_ref14_isNumber g x28.To).bind fun q59 =>
                    some (!q59)
                  else
                    some true
                else
                  some true
            : Option Bool).bind fun (z36 : Bool) =>
            if z36 = true then
              some (.inr (.inr (.inr false)))
            else
              some (.inl (s21 + 1))
          else
            some (.inr (.inl ()))
      ) fun z14 =>
      (
        if z4 = true then
          (m_ref14_isNumber g a0.A).bind fun q73 =>
          if q73 = true then
            (m_ref14_isNumber g a0.B).bind fun q79 =>
            some q79
          else
            some false
        else
          some false
      : Option Bool).bind fun (z67 : Bool) =>
      some (.inr z67)
    else
      if a0.Op = 4 then
        (
          if z4 = true then
            (m_ref14_isNumber g a0.A).bind fun q93 =>
            if q93 = true then
              if a0.B = 0 then
                some (decide (((a0.Cases.length : Nat) : Int) = 0))
              else
                some false
            else
              some false
          else
            some false
        : Option Bool).bind fun (z87 : Bool) =>
        some (.inr z87)
      else
        (
          if a0.Op = 3 then
            some (decide (a0.Op = 3))
          else
            some (decide (a0.Op = 5))
        : Option Bool).bind fun (z103 : Bool) =>
        if z103 = true then
          (
            if z4 = true then
              if a0.A = 0 then
                if a0.B = 0 then
                  some (decide (((a0.Cases.length : Nat) : Int) = 0))
                else
                  some false
              else
                some false
            else
              some false
          : Option Bool).bind fun (z108 : Bool) =>
          some (.inr z108)
        else
          if a0.Op = 2 then
            (
              if a0.B = 0 then
                if ((a0.Cases.length : Nat) : Int) > 0 then
                  some true
                else
                  (m_ref14_areNumbers g a0.Args).bind fun q123 =>
                  if q123 = true then
                    if a0.N = 2 then
                      some false
                    else
                      some (!decide (a0.A = 0))
                  else
                    some true
              else
                some true
            : Option Bool).bind fun (z117 : Bool) =>
            if z117 = true then
              some (.inr false)
            else
              if a0.N = 1 then
                (m_ref08_IsGreat g a0.Name).bind fun q134 =>
                some (.inr q134)
              else
                if a0.N = 3 then
                  (m_ref08_IsCore g a0.Name).bind fun q140 =>
                  some (.inr q140)
                else
                  if a0.N = 2 then
                    (
                      if a0.Name = ([] : List UInt8) then
                        if ((a0.Args.length : Nat) : Int) = 0 then
                          (m_ref14_isInt g a0.A).bind fun q152 =>
                          some q152
                        else
                          some false
                      else
                        some false
                    : Option Bool).bind fun (z146 : Bool) =>
                    some (.inr z146)
                  else
                    (
                      if a0.N = 4 then
                        some (decide (a0.N = 4))
                      else
                        some (decide (a0.N = 5))
                    : Option Bool).bind fun (z157 : Bool) =>
                    if z157 = true then
                      some (.inr (decide (a0.Name = ([] : List UInt8))))
                    else
                      if a0.N = 7 then
                        (
                          if a0.Name = ([] : List UInt8) then
                            some (decide (((a0.Args.length : Nat) : Int) = 0))
                          else
                            some false
                        : Option Bool).bind fun (z164 : Bool) =>
                        some (.inr z164)
                      else
                        some (.inl ())
          else
            some (.inl ())
  ) fun z8 =>
  some false
noncomputable def m_ref14_isTold (g : Nat) (a0 : List DCode) : Option Bool :=
  jx (J := Unit) (A := Bool) (
    Mir.Loop (S := Nat) (Q := (Unit) ⊕ (Bool)) (0 : Nat) fun s9 =>
      if ((s9 : Nat) : Int) < ((a0.length : Nat) : Int) then
        jx (J := Unit) (A := (Nat) ⊕ ((Unit) ⊕ (Bool))) (
          (
            ((a0)[s9]?).bind fun x25 =>
            (m_ref08_IsCore g x25.Name).bind fun q36 =>
            if q36 = true then
              ((a0)[s9]?).bind fun x42 =>
              (m_ref14_isNumber g x42.Arity).bind fun q53 =>
              some (!q53)
            else
              some true
          : Option Bool).bind fun (z21 : Bool) =>
          if z21 = true then
            some (.inr (.inr (.inr false)))
          else
            Mir.Loop (S := Nat) (Q := (Unit) ⊕ ((Nat) ⊕ ((Unit) ⊕ (Bool)))) (0 : Nat) fun s62 =>
              ((a0)[s9]?).bind fun x68 =>
              if ((s62 : Nat) : Int) < ((x68.L.length : Nat) : Int) then
                ((a0)[s9]?).bind fun x80 =>
                ((x80.L)[s62]?).bind fun x91 =>
                (m_ref14_isWritten g x91).bind fun q106 =>
                if q106 = true then
                  some (.inl (s62 + 1))
                else
                  some (.inr (.inr (.inr (.inr false))))
              else
                some (.inr (.inl ()))
        ) fun z16 =>
        some (.inl (s9 + 1))
      else
        some (.inr (.inl ()))
  ) fun z2 =>
  some true
noncomputable def m_ref14_Parse (g : Nat) (a0 : List UInt8) : Option (List DCode × Int × Int) :=
  if ((a0.length : Nat) : Int) > 20000 then
    some (([] : List DCode), (0 : Int), (3 : Int))
  else
    if a0 = ([] : List UInt8) then
      some (([] : List DCode), (0 : Int), (0 : Int))
    else
      (
        (Mir.small a0).bind fun x7 =>
        (Mir.idx a0 (((a0.length : Nat) : Int) - 1)).bind fun x9 =>
        if ((x9.toNat : Nat) : Int) = 10 then
          (Mir.sub a0 0 (((a0.length : Nat) : Int) - 1)).bind fun x12 =>
          some x12
        else
          some a0
      : Option (List UInt8)).bind fun (z5 : List UInt8) =>
      (m_strings_Split g z5 [10]).bind fun q15 =>
      jx (J := List DCode) (A := List DCode × Int × Int) (
        Mir.Loop (S := List DCode × Nat) (Q := (List DCode) ⊕ (List DCode × Int × Int)) (([] : List DCode), (0 : Nat)) fun s53 =>
          if ((s53.2 : Nat) : Int) < ((q15.length : Nat) : Int) then
            jx (J := List DCode) (A := (List DCode × Nat) ⊕ ((List DCode) ⊕ (List DCode × Int × Int))) (
              ((q15)[s53.2]?).bind fun x89 =>
              (m_strings_Split g x89 [32]).bind fun q96 =>
              (m_ref14_areWords g q96).bind fun q104 =>
              if q104 = true then
                ((q96)[0]?).bind fun x110 =>
                if x110 = ([99, 111, 100, 101] : List UInt8) then
                  if ((q96.length : Nat) : Int) = 3 then
                    ((q96)[2]?).bind fun x120 =>
                    (m_ref14_number g x120).bind fun q127 =>
                    (
                      if q127.2 = true then
                        ((q96)[1]?).bind fun x137 =>
                        (m_ref14_isRun g x137).bind fun q144 =>
                        some (!q144)
                      else
                        some true
                    : Option Bool).bind fun (z131 : Bool) =>
                    if z131 = true then
                      some (.inr (.inr (.inr (([] : List DCode), ((s53.2 + 1 : Nat) : Int), (2 : Int)))))
                    else
                      ((q96)[1]?).bind fun x151 =>
                      (Mir.push 48 s53.1 [(DCode.mk x151 q127.1 ([] : List DInstr))]).bind fun x168 =>
                      some (.inl x168)
                  else
                    some (.inr (.inr (.inr (([] : List DCode), ((s53.2 + 1 : Nat) : Int), (2 : Int)))))
                else
                  (m_ref14_instr g q96).bind fun q173 =>
                  (
                    if q173.2 = true then
                      some (decide (((s53.1.length : Nat) : Int) = 0))
                    else
                      some true
                  : Option Bool).bind fun (z186 : Bool) =>
                  if z186 = true then
                    some (.inr (.inr (.inr (([] : List DCode), ((s53.2 + 1 : Nat) : Int), (2 : Int)))))
                  else
                    (Mir.idx s53.1 (((s53.1.length : Nat) : Int) - 1)).bind fun x193 =>
                    (Mir.push 96 (Mir.lastL DCode.L s53.1) [q173.1]).bind fun x206 =>
                    (Mir.idx s53.1 (((s53.1.length : Nat) : Int) - 1)).bind fun x209 =>
                    (Mir.setLast (fun (x : DCode) ys => DCode.mk x.Name x.Arity ys) s53.1 x206).bind fun x219 =>
                    some (.inl x219)
              else
                some (.inr (.inr (.inr (([] : List DCode), ((s53.2 + 1 : Nat) : Int), (2 : Int)))))
            ) fun z73 =>
            some (.inl (z73, s53.2 + 1))
          else
            some (.inr (.inl s53.1))
      ) fun z23 =>
      (m_ref14_sizes g z23).bind fun q226 =>
      if q226 = 0 then
        (m_ref14_isTold g z23).bind fun q232 =>
        if q232 = true then
          some (z23, (0 : Int), (0 : Int))
        else
          some (([] : List DCode), (0 : Int), (1 : Int))
      else
        some (([] : List DCode), (0 : Int), q226)
noncomputable def m_ref01_SameInts (g : Nat) (a0 : List Int) (a1 : List Int) : Option Bool :=
  if ((a0.length : Nat) : Int) = ((a1.length : Nat) : Int) then
    jx (J := Unit) (A := Bool) (
      Mir.Loop (S := Nat) (Q := (Unit) ⊕ (Bool)) (0 : Nat) fun s9 =>
        if ((s9 : Nat) : Int) < ((a0.length : Nat) : Int) then
          ((a0)[s9]?).bind fun x14 =>
          ((a1)[s9]?).bind fun x21 =>
          if x14 = x21 then
            some (.inl (s9 + 1))
          else
            some (.inr (.inr false))
        else
          some (.inr (.inl ()))
    ) fun z5 =>
    some true
  else
    some false
noncomputable def m_law14_same (g : Nat) (a0 : List DCode) (a1 : List DCode) : Option Bool :=
  if ((a0.length : Nat) : Int) = ((a1.length : Nat) : Int) then
    jx (J := Unit) (A := Bool) (
      Mir.Loop (S := Nat) (Q := (Unit) ⊕ (Bool)) (0 : Nat) fun s12 =>
        if ((s12 : Nat) : Int) < ((a0.length : Nat) : Int) then
          jx (J := Unit) (A := (Nat) ⊕ ((Unit) ⊕ (Bool))) (
            (
              ((a0)[s12]?).bind fun x26 =>
              ((a1)[s12]?).bind fun x37 =>
              if x26.Name = x37.Name then
                ((a0)[s12]?).bind fun x49 =>
                ((a1)[s12]?).bind fun x60 =>
                if x49.Arity = x60.Arity then
                  ((a0)[s12]?).bind fun x72 =>
                  ((a1)[s12]?).bind fun x83 =>
                  some (!decide (((x72.L.length : Nat) : Int) = ((x83.L.length : Nat) : Int)))
                else
                  some true
              else
                some true
            : Option Bool).bind fun (z24 : Bool) =>
            if z24 = true then
              some (.inr (.inr (.inr false)))
            else
              Mir.Loop (S := Nat) (Q := (Unit) ⊕ ((Nat) ⊕ ((Unit) ⊕ (Bool)))) (0 : Nat) fun s98 =>
                ((a0)[s12]?).bind fun x104 =>
                if ((s98 : Nat) : Int) < ((x104.L.length : Nat) : Int) then
                  jx (J := Unit) (A := (Nat) ⊕ ((Unit) ⊕ ((Nat) ⊕ ((Unit) ⊕ (Bool))))) (
                    (
                      ((a0)[s12]?).bind fun x141 =>
                      ((x141.L)[s98]?).bind fun x152 =>
                      ((a1)[s12]?).bind fun x167 =>
                      ((x167.L)[s98]?).bind fun x178 =>
                      some (x152.Op, x152.A, x152.B, x152.N, x152.Name, x152.Args, x152.Cases, x178.Op, x178.A, x178.B, x178.N, x178.Name, x178.Args, x178.Cases)
                    : Option (Int × Int × Int × Int × List UInt8 × List Int × List DJump × Int × Int × Int × Int × List UInt8 × List Int × List DJump)).bind fun (z121 : Int × Int × Int × Int × List UInt8 × List Int × List DJump × Int × Int × Int × Int × List UInt8 × List Int × List DJump) =>
                    (
                      if z121.1 = z121.2.2.2.2.2.2.2.1 then
                        if z121.2.1 = z121.2.2.2.2.2.2.2.2.1 then
                          if z121.2.2.1 = z121.2.2.2.2.2.2.2.2.2.1 then
                            if z121.2.2.2.1 = z121.2.2.2.2.2.2.2.2.2.2.1 then
                              if z121.2.2.2.2.1 = z121.2.2.2.2.2.2.2.2.2.2.2.1 then
                                (m_ref01_SameInts g z121.2.2.2.2.2.1 z121.2.2.2.2.2.2.2.2.2.2.2.2.1).bind fun q214 =>
                                if q214 = true then
                                  some (!decide (((z121.2.2.2.2.2.2.1.length : Nat) : Int) = ((z121.2.2.2.2.2.2.2.2.2.2.2.2.2.length : Nat) : Int)))
                                else
                                  some true
                              else
                                some true
                            else
                              some true
                          else
                            some true
                        else
                          some true
                      else
                        some true
                    : Option Bool).bind fun (z205 : Bool) =>
                    if z205 = true then
                      some (.inr (.inr (.inr (.inr (.inr false)))))
                    else
                      Mir.Loop (S := Nat) (Q := (Unit) ⊕ ((Nat) ⊕ ((Unit) ⊕ ((Nat) ⊕ ((Unit) ⊕ (Bool)))))) (0 : Nat) fun s224 =>
                        if ((s224 : Nat) : Int) < ((z121.2.2.2.2.2.2.1.length : Nat) : Int) then
                          ((z121.2.2.2.2.2.2.1)[s224]?).bind fun x229 =>
                          ((z121.2.2.2.2.2.2.2.2.2.2.2.2.2)[s224]?).bind fun x236 =>
                          if x229.Name = x236.Name ∧ x229.N = x236.N ∧ x229.To = x236.To then
                            some (.inl (s224 + 1))
                          else
                            some (.inr (.inr (.inr (.inr (.inr (.inr false))))))
                        else
                          some (.inr (.inl ()))
                  ) fun z116 =>
                  some (.inl (s98 + 1))
                else
                  some (.inr (.inl ()))
          ) fun z19 =>
          some (.inl (s12 + 1))
        else
          some (.inr (.inl ()))
    ) fun z5 =>
    some true
  else
    some false
noncomputable def m_code_words (g : Nat) (a0 : DInstr) : Option (List (List UInt8)) :=
  if a0.Op = 1 then
    (Mir.x_itoa g a0.A).bind fun q8 =>
    (Mir.x_itoa g a0.B).bind fun q13 =>
    (Mir.push 16 ([] : List (List UInt8)) [[109, 97, 116, 99, 104], q8, q13]).bind fun x24 =>
    (
      Mir.Loop (S := List (List UInt8) × Nat) (Q := List (List UInt8)) (x24, (0 : Nat)) fun s46 =>
        if ((s46.2 : Nat) : Int) < ((a0.Cases.length : Nat) : Int) then
          ((a0.Cases)[s46.2]?).bind fun x59 =>
          (
            if x59.Name = ([] : List UInt8) then
              (Mir.x_itoa g x59.N).bind fun q72 =>
              some q72
            else
              some x59.Name
          : Option (List UInt8)).bind fun (z67 : List UInt8) =>
          (Mir.cat z67 ([58] : List UInt8)).bind fun x77 =>
          (Mir.x_itoa g x59.To).bind fun q79 =>
          (Mir.cat x77 q79).bind fun x83 =>
          (Mir.push 16 s46.1 [x83]).bind fun x90 =>
          some (.inl (x90, s46.2 + 1))
        else
          some (.inr s46.1)
    : Option (List (List UInt8))).bind fun (z27 : List (List UInt8)) =>
    some z27
  else
    if a0.Op = 3 then
      (Mir.push 16 ([] : List (List UInt8)) [[102, 114, 101, 101]]).bind fun x104 =>
      some x104
    else
      if a0.Op = 5 then
        (Mir.push 16 ([] : List (List UInt8)) [[115, 116, 111, 112]]).bind fun x117 =>
        some x117
      else
        if a0.Op = 4 then
          (Mir.x_itoa g a0.A).bind fun q125 =>
          (Mir.push 16 ([] : List (List UInt8)) [[101, 110, 100], q125]).bind fun x134 =>
          some x134
        else
          (Mir.put ([] : List (Int × (List UInt8))) 1 [99, 111, 110]).bind fun x143 =>
          (Mir.put x143 3 [99, 97, 108, 108]).bind fun x148 =>
          (Mir.put x148 2 [105, 110, 116]).bind fun x153 =>
          (Mir.put x153 4 [97, 112, 112, 108, 121]).bind fun x158 =>
          (Mir.put x158 5 [111, 114]).bind fun x163 =>
          (Mir.put x163 7 [102, 97, 105, 108]).bind fun x168 =>
          (Mir.getD x168 a0.N ([] : List UInt8)).bind fun x173 =>
          (Mir.push 16 ([] : List (List UInt8)) [[110, 111, 100, 101], x173]).bind fun x186 =>
          (
            if a0.Name = ([] : List UInt8) then
              some x186
            else
              (Mir.push 16 x186 [a0.Name]).bind fun x203 =>
              some x203
          : Option (List (List UInt8))).bind fun (z189 : List (List UInt8)) =>
          (
            if a0.N = 2 then
              (Mir.x_itoa g a0.A).bind fun q218 =>
              (Mir.push 16 z189 [q218]).bind fun x227 =>
              some x227
            else
              some z189
          : Option (List (List UInt8))).bind fun (z207 : List (List UInt8)) =>
          (
            Mir.Loop (S := List (List UInt8) × Nat) (Q := List (List UInt8)) (z207, (0 : Nat)) fun s250 =>
              if ((s250.2 : Nat) : Int) < ((a0.Args.length : Nat) : Int) then
                ((a0.Args)[s250.2]?).bind fun x263 =>
                (Mir.x_itoa g x263).bind fun q270 =>
                (Mir.push 16 s250.1 [q270]).bind fun x279 =>
                some (.inl (x279, s250.2 + 1))
              else
                some (.inr s250.1)
          : Option (List (List UInt8))).bind fun (z231 : List (List UInt8)) =>
          some z231
noncomputable def m_code_Print (g : Nat) (a0 : List DCode) : Option (List UInt8 × Int) :=
  (m_code_printed g a0).bind fun q2 =>
  if q2 = 0 then
    (
      Mir.Loop (S := List UInt8 × Nat) (Q := List UInt8) (([] : List UInt8), (0 : Nat)) fun s16 =>
        if ((s16.2 : Nat) : Int) < ((a0.length : Nat) : Int) then
          (
            ((a0)[s16.2]?).bind fun x27 =>
            (Mir.cat ([99, 111, 100, 101, 32] : List UInt8) x27.Name).bind fun x39 =>
            (Mir.cat x39 ([32] : List UInt8)).bind fun x41 =>
            (Mir.x_itoa g x27.Arity).bind fun q44 =>
            (Mir.cat x41 q44).bind fun x48 =>
            (Mir.cat x48 ([10] : List UInt8)).bind fun x50 =>
            (Mir.x_bwrite g s16.1 x50).bind fun q53 =>
            Mir.Loop (S := List UInt8 × Nat) (Q := List UInt8) (q53, (0 : Nat)) fun s60 =>
              if ((s60.2 : Nat) : Int) < ((x27.L.length : Nat) : Int) then
                ((x27.L)[s60.2]?).bind fun x67 =>
                (m_code_words g x67).bind fun q83 =>
                (Mir.x_join g q83 [32]).bind fun q91 =>
                (Mir.cat q91 ([10] : List UInt8)).bind fun x95 =>
                (Mir.x_bwrite g s60.1 x95).bind fun q97 =>
                some (.inl (q97, s60.2 + 1))
              else
                some (.inr s60.1)
          : Option (List UInt8)).bind fun (z23 : List UInt8) =>
          some (.inl (z23, s16.2 + 1))
        else
          some (.inr s16.1)
    : Option (List UInt8)).bind fun (z9 : List UInt8) =>
    if ((z9.length : Nat) : Int) > 20000 then
      some (([] : List UInt8), (3 : Int))
    else
      (Mir.x_bstr g z9).bind fun q107 =>
      some (q107, (0 : Int))
  else
    some (([] : List UInt8), q2)
noncomputable def m_law14_known (g : Nat) : Option Bool :=
  (m_code_Parse g [99, 111, 100, 101, 32, 110, 111, 116, 32, 49, 10, 109, 97, 116, 99, 104, 32, 48, 32, 48, 32, 70, 97, 108, 115, 101, 58, 49, 32, 84, 114, 117, 101, 58, 51, 10, 110, 111, 100, 101, 32, 99, 111, 110, 32, 84, 114, 117, 101, 10, 101, 110, 100, 32, 49, 10, 110, 111, 100, 101, 32, 99, 111, 110, 32, 70, 97, 108, 115, 101, 10, 101, 110, 100, 32, 49, 10]).bind fun q1 =>
  (m_code_Print g q1.1).bind fun q9 =>
  (
    if q1.2.2 = 0 then
      if q1.2.1 = 0 then
        if q9.2 = 0 then
          if ([99, 111, 100, 101, 32, 110, 111, 116, 32, 49, 10, 109, 97, 116, 99, 104, 32, 48, 32, 48, 32, 70, 97, 108, 115, 101, 58, 49, 32, 84, 114, 117, 101, 58, 51, 10, 110, 111, 100, 101, 32, 99, 111, 110, 32, 84, 114, 117, 101, 10, 101, 110, 100, 32, 49, 10, 110, 111, 100, 101, 32, 99, 111, 110, 32, 70, 97, 108, 115, 101, 10, 101, 110, 100, 32, 49, 10] : List UInt8) = q9.1 then
            if ((q1.1.length : Nat) : Int) = 1 then
              ((q1.1)[0]?).bind fun x20 =>
              some (decide (((x20.L.length : Nat) : Int) = 5))
            else
              some false
          else
            some false
        else
          some false
      else
        some false
    else
      some false
  : Option Bool).bind fun (z13 : Bool) =>
  some z13
noncomputable def m_law14_CodeReads (g : Nat) (a0 : List UInt8) : Option Bool :=
  (m_code_Parse g a0).bind fun q1 =>
  (m_ref14_Parse g a0).bind fun q9 =>
  (
    (m_law14_same g q1.1 q9.1).bind fun q21 =>
    if q21 = true then
      if q1.2.1 = q9.2.1 then
        if q1.2.2 = q9.2.2 then
          (m_law14_known g).bind fun q29 =>
          some q29
        else
          some false
      else
        some false
    else
      some false
  : Option Bool).bind fun (z17 : Bool) =>
  some z17
end Go.Proofs.YtefclodjekeeiaaGreatDoor
