/- The functions that the law reaches, in plain words: what each gives for its arguments (none: not told). -/
import Derived.Test.YtchecaeeiejjjaaSyPl
namespace Go.Proofs.Ytchecaeeiejjjaa
open Go Go.Sy Go.RowKit
set_option linter.unusedVariables false
open Go.Mir
structure DValue where
  Op : Int
  Name : List UInt8
  N : Int
  Kids : List DValue
structure DToken where
  s : List UInt8
  f_at : Int
structure DAnswer where
  V : DValue
  B : List DValue
noncomputable def m_value_isWordByte (g : Nat) (a0 : Int) : Option Bool :=
  (
    if a0 ≥ 97 then
      if a0 ≤ 122 then
        some true
      else
        if a0 ≥ 65 then
          if a0 ≤ 90 then
            some true
          else
            if a0 ≥ 48 then
              if a0 ≤ 57 then
                some true
              else
                some (decide (a0 = 95))
            else
              some (decide (a0 = 95))
        else
          if a0 ≥ 48 then
            if a0 ≤ 57 then
              some true
            else
              some (decide (a0 = 95))
          else
            some (decide (a0 = 95))
    else
      if a0 ≥ 65 then
        if a0 ≤ 90 then
          some true
        else
          if a0 ≥ 48 then
            if a0 ≤ 57 then
              some true
            else
              some (decide (a0 = 95))
          else
            some (decide (a0 = 95))
      else
        if a0 ≥ 48 then
          if a0 ≤ 57 then
            some true
          else
            some (decide (a0 = 95))
        else
          some (decide (a0 = 95))
  : Option Bool).bind fun (z1 : Bool) =>
  some z1
noncomputable def m_value_reader_token (g : Nat) (a0 : List UInt8) (a1 : Int) (a2 : Int) : Option (List UInt8 × Int) :=
  (
    Mir.Loop (S := Int) (Q := Int) a1 fun s4 =>
      (
        if s4 < ((a0.length : Nat) : Int) then
          (Mir.idx a0 s4).bind fun x11 =>
          some (decide (((x11.toNat : Nat) : Int) = 32))
        else
          some false
      : Option Bool).bind fun (z8 : Bool) =>
      if z8 = true then
        some (.inl (Mir.w64 (s4 + 1)))
      else
        some (.inr s4)
  : Option Int).bind fun (z1 : Int) =>
  if z1 = ((a0.length : Nat) : Int) then
    some (([] : List UInt8), z1)
  else
    (
      (
        (Mir.idx a0 z1).bind fun x25 =>
        if ((x25.toNat : Nat) : Int) = 45 then
          if Mir.w64 (z1 + 1) < ((a0.length : Nat) : Int) then
            (Mir.idx a0 (Mir.w64 (z1 + 1))).bind fun x29 =>
            (m_value_isWordByte g ((x29.toNat : Nat) : Int)).bind fun q31 =>
            some q31
          else
            some false
        else
          (Mir.idx a0 z1).bind fun x35 =>
          if ((x35.toNat : Nat) : Int) = 39 then
            if Mir.w64 (z1 + 1) < ((a0.length : Nat) : Int) then
              (Mir.idx a0 (Mir.w64 (z1 + 1))).bind fun x39 =>
              (m_value_isWordByte g ((x39.toNat : Nat) : Int)).bind fun q41 =>
              some q41
            else
              some false
          else
            some false
      : Option Bool).bind fun (z21 : Bool) =>
      if z21 = true then
        some (Mir.w64 (z1 + 1))
      else
        some z1
    : Option Int).bind fun (z17 : Int) =>
    (
      Mir.Loop (S := Int) (Q := Int) z17 fun s53 =>
        (
          if s53 < ((a0.length : Nat) : Int) then
            (Mir.idx a0 s53).bind fun x64 =>
            (m_value_isWordByte g ((x64.toNat : Nat) : Int)).bind fun q66 =>
            some q66
          else
            some false
        : Option Bool).bind fun (z59 : Bool) =>
        if z59 = true then
          some (.inl (Mir.w64 (s53 + 1)))
        else
          some (.inr s53)
    : Option Int).bind fun (z47 : Int) =>
    (Mir.sub a0 z1 (if (Mir.w64 (z1 + 1)) > z47 then Mir.w64 (z1 + 1) else z47)).bind fun x72 =>
    some (x72, z1)
noncomputable def m_value_isName (g : Nat) (a0 : List UInt8) (a1 : Int) (a2 : Int) : Option Bool :=
  (
    if ((a0.length : Nat) : Int) < 1 then
      some true
    else
      if ((a0.length : Nat) : Int) > 16 then
        some true
      else
        ((a0)[0]?).bind fun x5 =>
        if ((x5.toNat : Nat) : Int) < a1 then
          some true
        else
          ((a0)[0]?).bind fun x8 =>
          some (decide (((x8.toNat : Nat) : Int) > a2))
  : Option Bool).bind fun (z1 : Bool) =>
  if z1 = true then
    some false
  else
    jx (J := Unit) (A := Bool) (
      Mir.Loop (S := Nat) (Q := (Unit) ⊕ (Bool)) (1 : Nat) fun s16 =>
        if ((s16 : Nat) : Int) < ((a0.length : Nat) : Int) then
          ((a0)[s16]?).bind fun x21 =>
          (
            if ((x21.toNat : Nat) : Int) ≥ 97 then
              if ((x21.toNat : Nat) : Int) ≤ 122 then
                some false
              else
                if ((x21.toNat : Nat) : Int) ≥ 65 then
                  if ((x21.toNat : Nat) : Int) ≤ 90 then
                    some false
                  else
                    if ((x21.toNat : Nat) : Int) ≥ 48 then
                      if ((x21.toNat : Nat) : Int) ≤ 57 then
                        some false
                      else
                        some (!(decide (((x21.toNat : Nat) : Int) = 95)))
                    else
                      some (!(decide (((x21.toNat : Nat) : Int) = 95)))
                else
                  if ((x21.toNat : Nat) : Int) ≥ 48 then
                    if ((x21.toNat : Nat) : Int) ≤ 57 then
                      some false
                    else
                      some (!(decide (((x21.toNat : Nat) : Int) = 95)))
                  else
                    some (!(decide (((x21.toNat : Nat) : Int) = 95)))
            else
              if ((x21.toNat : Nat) : Int) ≥ 65 then
                if ((x21.toNat : Nat) : Int) ≤ 90 then
                  some false
                else
                  if ((x21.toNat : Nat) : Int) ≥ 48 then
                    if ((x21.toNat : Nat) : Int) ≤ 57 then
                      some false
                    else
                      some (!(decide (((x21.toNat : Nat) : Int) = 95)))
                  else
                    some (!(decide (((x21.toNat : Nat) : Int) = 95)))
              else
                if ((x21.toNat : Nat) : Int) ≥ 48 then
                  if ((x21.toNat : Nat) : Int) ≤ 57 then
                    some false
                  else
                    some (!(decide (((x21.toNat : Nat) : Int) = 95)))
                else
                  some (!(decide (((x21.toNat : Nat) : Int) = 95)))
          : Option Bool).bind fun (z23 : Bool) =>
          if z23 = true then
            some (.inr (.inr false))
          else
            (Mir.small a0).bind fun x41 =>
            some (.inl (s16 + 1))
        else
          some (.inr (.inl ()))
    ) fun z12 =>
    some true
noncomputable def m_slices_Index_string_string (g : Nat) (a0 : List (List UInt8)) (a1 : List UInt8) : Option Int :=
  jx (J := Unit) (A := Int) (
    Mir.Loop (S := Nat) (Q := (Unit) ⊕ (Int)) (0 : Nat) fun s6 =>
      if ((s6 : Nat) : Int) < ((a0.length : Nat) : Int) then
        ((a0)[s6]?).bind fun x11 =>
        if a1 = x11 then
          some (.inr (.inr ((s6 : Nat) : Int)))
        else
          some (.inl (s6 + 1))
      else
        some (.inr (.inl ()))
  ) fun z2 =>
  some (-1)
noncomputable def m_slices_Contains_string_string (g : Nat) (a0 : List (List UInt8)) (a1 : List UInt8) : Option Bool :=
  (m_slices_Index_string_string g a0 a1).bind fun q2 =>
  some (decide (q2 ≥ 0))
noncomputable def m_value_isFunction (g : Nat) (a0 : List UInt8) : Option Bool :=
  (
    if ((a0.length : Nat) : Int) > 0 then
      ((a0)[0]?).bind fun x6 =>
      some (decide (((x6.toNat : Nat) : Int) = 95))
    else
      some false
  : Option Bool).bind fun (z3 : Bool) =>
  if z3 = true then
    (
      if ((a0.length : Nat) : Int) > 1 then
        if ((a0.length : Nat) : Int) ≤ 16 then
          (Mir.sub a0 1 ((a0.length : Nat) : Int)).bind fun x15 =>
          (Mir.cat ([97] : List UInt8) x15).bind fun x17 =>
          (m_value_isName g x17 97 97).bind fun q19 =>
          some q19
        else
          some false
      else
        some false
    : Option Bool).bind fun (z9 : Bool) =>
    some z9
  else
    (
      (m_value_isName g a0 97 122).bind fun q28 =>
      if q28 = true then
        (m_slices_Contains_string_string g ([[100, 97, 116, 97], [99, 108, 97, 115, 115], [105, 110, 115, 116, 97, 110, 99, 101], [111, 112], [101, 110, 100], [119, 104, 101, 114, 101], [108, 101, 116], [105, 110], [102, 114, 101, 101], [99, 97, 115, 101], [114, 105, 103, 105, 100], [111, 102], [102, 97, 105, 108]] : List (List UInt8)) a0).bind fun q34 =>
        some (!q34)
      else
        some false
    : Option Bool).bind fun (z24 : Bool) =>
    some z24
noncomputable def m_value_numeral (g : Nat) (a0 : List UInt8) : Option (Int × Bool) :=
  (
    if a0 = ([] : List UInt8) then
      some true
    else
      if ((a0.length : Nat) : Int) > 1 then
        ((a0)[0]?).bind fun x5 =>
        if ((x5.toNat : Nat) : Int) = 48 then
          some true
        else
          some (decide (((a0.length : Nat) : Int) > 10))
      else
        some (decide (((a0.length : Nat) : Int) > 10))
  : Option Bool).bind fun (z1 : Bool) =>
  if z1 = true then
    some ((0 : Int), false)
  else
    jx (J := Int) (A := Int × Bool) (
      Mir.Loop (S := Int × Nat) (Q := (Int) ⊕ (Int × Bool)) ((0 : Int), (0 : Nat)) fun s15 =>
        if ((s15.2 : Nat) : Int) < ((a0.length : Nat) : Int) then
          (
            ((a0)[s15.2]?).bind fun x22 =>
            if ((x22.toNat : Nat) : Int) < 48 then
              some true
            else
              ((a0)[s15.2]?).bind fun x25 =>
              some (decide (((x25.toNat : Nat) : Int) > 57))
          : Option Bool).bind fun (z20 : Bool) =>
          if z20 = true then
            some (.inr (.inr ((0 : Int), false)))
          else
            ((a0)[s15.2]?).bind fun x29 =>
            (Mir.small a0).bind fun x31 =>
            some (.inl (Mir.w64 ((Mir.w64 (s15.1 * 10)) + (Mir.w64 (IntKind.wrap .u8 (((x29.toNat : Nat) : Int) - 48)))), s15.2 + 1))
        else
          some (.inr (.inl s15.1))
    ) fun z10 =>
    some (z10, true)
noncomputable def m_value_atom (g : Nat) (a0 : List UInt8) : Option (Int × List UInt8 × Int × Bool) :=
  ((a0)[0]?).bind fun x2 =>
  (
    if ((x2.toNat : Nat) : Int) ≥ 65 then
      some (decide (((x2.toNat : Nat) : Int) ≤ 90))
    else
      some false
  : Option Bool).bind fun (z4 : Bool) =>
  if z4 = true then
    (m_value_isName g a0 65 90).bind fun q8 =>
    some ((1 : Int), a0, (0 : Int), q8)
  else
    if ((x2.toNat : Nat) : Int) = 39 then
      (Mir.sub a0 1 ((a0.length : Nat) : Int)).bind fun x14 =>
      (Mir.sub a0 1 ((a0.length : Nat) : Int)).bind fun x16 =>
      (m_value_isFunction g x16).bind fun q19 =>
      some ((4 : Int), x14, (0 : Int), q19)
    else
      if ((x2.toNat : Nat) : Int) = 95 then
        (Mir.sub a0 1 ((a0.length : Nat) : Int)).bind fun x26 =>
        (m_value_numeral g x26).bind fun q28 =>
        (
          if q28.2 = true then
            some (decide (q28.1 ≤ 300))
          else
            some false
        : Option Bool).bind fun (z32 : Bool) =>
        some ((3 : Int), ([] : List UInt8), q28.1, z32)
      else
        if ((x2.toNat : Nat) : Int) = 45 then
          (Mir.sub a0 1 ((a0.length : Nat) : Int)).bind fun x39 =>
          (m_value_numeral g x39).bind fun q41 =>
          (
            if q41.2 = true then
              if q41.1 > 0 then
                some (decide (q41.1 ≤ 1000000000))
              else
                some false
            else
              some false
          : Option Bool).bind fun (z45 : Bool) =>
          some ((2 : Int), ([] : List UInt8), Mir.w64 (-q41.1), z45)
        else
          (m_value_numeral g a0).bind fun q52 =>
          (
            if q52.2 = true then
              some (decide (q52.1 ≤ 1000000000))
            else
              some false
          : Option Bool).bind fun (z56 : Bool) =>
          some ((2 : Int), ([] : List UInt8), q52.1, z56)
noncomputable def m_value_isAtom (g : Nat) (a0 : List UInt8) : Option Bool :=
  (m_value_atom g a0).bind fun q1 =>
  some q1.2.2.2
noncomputable def m_value_reader_fail (g : Nat) (a0 : Int) (a1 : List UInt8) (a2 : Int) (a3 : Int) : Option Int :=
  if a3 < 0 then
    some a0
  else
    some a3
mutual
noncomputable def m_value_reader_group : Nat → Int → (List UInt8) → Int → Int → Option (DValue × Int × Int)
  | 0, _, _, _, _ => none
  | g + 1, a0, a1, a2, a3 =>
    (m_value_reader_token g a1 a2 a3).bind fun q2 =>
    (m_value_reader_any g a0 a1 (Mir.w64 (q2.2 + 1)) a3).bind fun q6 =>
    if q6.2.2 ≥ 0 then
      some (q6.1, q6.2.1, q6.2.2)
    else
      (m_value_reader_token g a1 q6.2.1 q6.2.2).bind fun q17 =>
      if q17.1 = ([41] : List UInt8) then
        some (q6.1, Mir.w64 (q17.2 + 1), q6.2.2)
      else
        (m_value_reader_fail g q17.2 a1 q6.2.1 q6.2.2).bind fun q22 =>
        some (q6.1, q6.2.1, q22)
noncomputable def m_value_reader_any : Nat → Int → (List UInt8) → Int → Int → Option (DValue × Int × Int)
  | 0, _, _, _, _ => none
  | g + 1, a0, a1, a2, a3 =>
    (m_value_reader_token g a1 a2 a3).bind fun q2 =>
    (
      if q2.1 = ([] : List UInt8) then
        some true
      else
        if q2.1 = ([40] : List UInt8) then
          some false
        else
          if q2.1 = ([41] : List UInt8) then
            some true
          else
            (m_value_isAtom g q2.1).bind fun q13 =>
            some (!q13)
    : Option Bool).bind fun (z6 : Bool) =>
    if z6 = true then
      (m_value_reader_fail g q2.2 a1 a2 a3).bind fun q18 =>
      some ((DValue.mk 0 ([] : List UInt8) 0 ([] : List DValue)), a2, q18)
    else
      if q2.1 = ([40] : List UInt8) then
        (m_value_reader_group g a0 a1 a2 a3).bind fun q24 =>
        some (q24.1, q24.2.1, q24.2.2)
      else
        (Mir.small q2.1).bind fun x33 =>
        (m_value_atom g q2.1).bind fun q35 =>
        (
          Mir.Loop (S := Int × Int × List DValue) (Q := Int × Int × List DValue) (Mir.w64 (q2.2 + ((q2.1.length : Nat) : Int)), a3, ([] : List DValue)) fun s60 =>
            (
              if s60.2.1 < 0 then
                if q35.1 = 1 then
                  some true
                else
                  some (decide (q35.1 = 4))
              else
                some false
            : Option Bool).bind fun (z73 : Bool) =>
            if z73 = true then
              (m_value_reader_token g a1 s60.1 s60.2.1).bind fun q78 =>
              (
                if q78.1 = ([] : List UInt8) then
                  some true
                else
                  some (decide (q78.1 = ([41] : List UInt8)))
              : Option Bool).bind fun (z82 : Bool) =>
              if z82 = true then
                some (.inr (s60.1, s60.2.1, s60.2.2))
              else
                if q78.1 = ([40] : List UInt8) then
                  (m_value_reader_group g a0 a1 s60.1 s60.2.1).bind fun q89 =>
                  (Mir.push 56 s60.2.2 [q89.1]).bind fun x104 =>
                  some (.inl (q89.2.1, q89.2.2, x104))
                else
                  (m_value_isAtom g q78.1).bind fun q109 =>
                  if q109 = true then
                    (m_value_atom g q78.1).bind fun q119 =>
                    (Mir.small q78.1).bind fun x124 =>
                    (Mir.push 56 s60.2.2 [(DValue.mk q119.1 q119.2.1 q119.2.2.1 ([] : List DValue))]).bind fun x131 =>
                    some (.inl (Mir.w64 (q78.2 + ((q78.1.length : Nat) : Int)), s60.2.1, x131))
                  else
                    (m_value_reader_fail g q78.2 a1 s60.1 s60.2.1).bind fun q114 =>
                    some (.inr (s60.1, q114, s60.2.2))
            else
              some (.inr (s60.1, s60.2.1, s60.2.2))
        : Option (Int × Int × List DValue)).bind fun (z40 : Int × Int × List DValue) =>
        some ((DValue.mk q35.1 q35.2.1 q35.2.2.1 z40.2.2), z40.1, z40.2.1)
end
mutual
noncomputable def m_value_deep_f1 : Nat → DValue → Int → Option Bool
  | 0, _, _ => none
  | g + 1, a0, a1 =>
    (m_value_deep g a0 (Mir.w64 (a1 - 1))).bind fun q3 =>
    some q3
noncomputable def m_api_Value_2 : Nat → (List DValue) → Int → Option Int
  | 0, _, _ => none
  | g + 1, a0, a1 =>
    jx (J := Unit) (A := Int) (
      Mir.Loop (S := Nat) (Q := (Unit) ⊕ (Int)) (0 : Nat) fun s9 =>
        if ((s9 : Nat) : Int) < ((a0.length : Nat) : Int) then
          ((a0)[s9]?).bind fun x16 =>
          (m_value_deep_f1 g x16 a1).bind fun q27 =>
          if q27 = true then
            some (.inr (.inr ((s9 : Nat) : Int)))
          else
            some (.inl (s9 + 1))
        else
          some (.inr (.inl ()))
    ) fun z2 =>
    some (-1)
noncomputable def m_api_Value : Nat → (List DValue) → Int → Option Bool
  | 0, _, _ => none
  | g + 1, a0, a1 =>
    (m_api_Value_2 g a0 a1).bind fun q2 =>
    some (decide (q2 ≥ 0))
noncomputable def m_value_deep : Nat → DValue → Int → Option Bool
  | 0, _, _ => none
  | g + 1, a0, a1 =>
    if a1 < 1 then
      some true
    else
      (m_api_Value g a0.Kids a1).bind fun q6 =>
      some q6
end
noncomputable def m_value_count : Nat → DValue → Option Int
  | 0, _ => none
  | g + 1, a0 =>
    (
      Mir.Loop (S := Int × Int) (Q := Int) ((1 : Int), (0 : Int)) fun s13 =>
        (
          if s13.2 < ((a0.Kids.length : Nat) : Int) then
            some (decide (s13.1 ≤ 300))
          else
            some false
        : Option Bool).bind fun (z19 : Bool) =>
        if z19 = true then
          (Mir.idx a0.Kids s13.2).bind fun x23 =>
          (m_value_count g x23).bind fun q34 =>
          some (.inl (Mir.w64 (s13.1 + q34), Mir.w64 (s13.2 + 1)))
        else
          some (.inr s13.1)
    : Option Int).bind fun (z3 : Int) =>
    some z3
mutual
noncomputable def m_value_isRight_f1 : Nat → DValue → Option Bool
  | 0, _ => none
  | g + 1, a0 =>
    (m_value_isRight g a0).bind fun q3 =>
    some (!q3)
noncomputable def m_api_Value_4 : Nat → (List DValue) → Option Int
  | 0, _ => none
  | g + 1, a0 =>
    jx (J := Unit) (A := Int) (
      Mir.Loop (S := Nat) (Q := (Unit) ⊕ (Int)) (0 : Nat) fun s9 =>
        if ((s9 : Nat) : Int) < ((a0.length : Nat) : Int) then
          ((a0)[s9]?).bind fun x16 =>
          (m_value_isRight_f1 g x16).bind fun q27 =>
          if q27 = true then
            some (.inr (.inr ((s9 : Nat) : Int)))
          else
            some (.inl (s9 + 1))
        else
          some (.inr (.inl ()))
    ) fun z2 =>
    some (-1)
noncomputable def m_api_Value_3 : Nat → (List DValue) → Option Bool
  | 0, _ => none
  | g + 1, a0 =>
    (m_api_Value_4 g a0).bind fun q2 =>
    some (decide (q2 ≥ 0))
noncomputable def m_value_isRight : Nat → DValue → Option Bool
  | 0, _ => none
  | g + 1, a0 =>
    (
      if a0.Op = 1 then
        (m_value_isName g a0.Name 65 90).bind fun q8 =>
        if q8 = true then
          if a0.N = 0 then
            some (decide (((a0.Kids.length : Nat) : Int) ≤ 8))
          else
            some false
        else
          some false
      else
        if a0.Op = 4 then
          (m_value_isFunction g a0.Name).bind fun q18 =>
          if q18 = true then
            if a0.N = 0 then
              some (decide (((a0.Kids.length : Nat) : Int) ≤ 8))
            else
              some false
          else
            some false
        else
          if a0.Op = 2 then
            if a0.Name = ([] : List UInt8) then
              if ((a0.Kids.length : Nat) : Int) = 0 then
                if a0.N ≥ (-1000000000) then
                  some (decide (a0.N ≤ 1000000000))
                else
                  some false
              else
                some false
            else
              some false
          else
            if a0.Op = 3 then
              if a0.Name = ([] : List UInt8) then
                if ((a0.Kids.length : Nat) : Int) = 0 then
                  if a0.N ≥ 0 then
                    some (decide (a0.N ≤ 300))
                  else
                    some false
                else
                  some false
              else
                some false
            else
              some false
    : Option Bool).bind fun (z3 : Bool) =>
    (
      if z3 = true then
        (m_api_Value_3 g a0.Kids).bind fun q43 =>
        some (!q43)
      else
        some false
    : Option Bool).bind fun (z37 : Bool) =>
    some z37
end
noncomputable def m_value_Validate (g : Nat) (a0 : DValue) : Option Int :=
  (
    (m_value_deep g a0 40).bind fun q7 =>
    if q7 = true then
      some true
    else
      (m_value_count g a0).bind fun q14 =>
      some (decide (q14 > 300))
  : Option Bool).bind fun (z3 : Bool) =>
  if z3 = true then
    some (3 : Int)
  else
    (m_value_isRight g a0).bind fun q20 =>
    if q20 = true then
      some (0 : Int)
    else
      some (1 : Int)
noncomputable def m_value_Parse (g : Nat) (a0 : List UInt8) : Option (DValue × Int × Int) :=
  if ((a0.length : Nat) : Int) > 20000 then
    some ((DValue.mk 0 ([] : List UInt8) 0 ([] : List DValue)), (0 : Int), (3 : Int))
  else
    (m_value_reader_any g 0 a0 0 (-1)).bind fun q5 =>
    (
      if q5.2.2 < 0 then
        (m_value_reader_token g a0 q5.2.1 q5.2.2).bind fun q19 =>
        if q19.1 = ([] : List UInt8) then
          some q5.2.2
        else
          (m_value_reader_fail g q19.2 a0 q5.2.1 q5.2.2).bind fun q24 =>
          some q24
      else
        some q5.2.2
    : Option Int).bind fun (z14 : Int) =>
    if z14 ≥ 0 then
      some ((DValue.mk 0 ([] : List UInt8) 0 ([] : List DValue)), z14, (2 : Int))
    else
      (m_value_Validate g q5.1).bind fun q33 =>
      if q33 = 0 then
        some (q5.1, (0 : Int), (0 : Int))
      else
        some ((DValue.mk 0 ([] : List UInt8) 0 ([] : List DValue)), (0 : Int), q33)
noncomputable def m_ref08_isSmall (g : Nat) (a0 : Int) : Option Bool :=
  (
    if a0 ≥ 97 then
      some (decide (a0 ≤ 122))
    else
      some false
  : Option Bool).bind fun (z1 : Bool) =>
  some z1
noncomputable def m_ref08_isGreat (g : Nat) (a0 : Int) : Option Bool :=
  (
    if a0 ≥ 65 then
      some (decide (a0 ≤ 90))
    else
      some false
  : Option Bool).bind fun (z1 : Bool) =>
  some z1
noncomputable def m_ref08_isDigit (g : Nat) (a0 : Int) : Option Bool :=
  (
    if a0 ≥ 48 then
      some (decide (a0 ≤ 57))
    else
      some false
  : Option Bool).bind fun (z1 : Bool) =>
  some z1
noncomputable def m_ref08_isWord (g : Nat) (a0 : Int) : Option Bool :=
  (
    (m_ref08_isSmall g a0).bind fun q5 =>
    if q5 = true then
      some true
    else
      (m_ref08_isGreat g a0).bind fun q12 =>
      if q12 = true then
        some true
      else
        (m_ref08_isDigit g a0).bind fun q19 =>
        if q19 = true then
          some true
        else
          some (decide (a0 = 95))
  : Option Bool).bind fun (z1 : Bool) =>
  some z1
noncomputable def m_ref08_tokens (g : Nat) (a0 : List UInt8) : Option (List DToken) :=
  (
    Mir.Loop (S := List DToken × Int) (Q := List DToken) (([] : List DToken), (0 : Int)) fun s20 =>
      if s20.2 < ((a0.length : Nat) : Int) then
        (Mir.idx a0 s20.2).bind fun x34 =>
        if ((x34.toNat : Nat) : Int) = 32 then
          some (.inl (s20.1, Mir.w64 (s20.2 + 1)))
        else
          (
            (Mir.idx a0 s20.2).bind fun x42 =>
            (m_ref08_isWord g ((x42.toNat : Nat) : Int)).bind fun q44 =>
            if q44 = true then
              some true
            else
              (Mir.idx a0 s20.2).bind fun x51 =>
              if ((x51.toNat : Nat) : Int) = 39 then
                some true
              else
                (Mir.idx a0 s20.2).bind fun x54 =>
                if ((x54.toNat : Nat) : Int) = 45 then
                  if Mir.w64 (s20.2 + 1) < ((a0.length : Nat) : Int) then
                    (Mir.idx a0 (Mir.w64 (s20.2 + 1))).bind fun x58 =>
                    (m_ref08_isDigit g ((x58.toNat : Nat) : Int)).bind fun q60 =>
                    some q60
                  else
                    some false
                else
                  some false
          : Option Bool).bind fun (z38 : Bool) =>
          (
            Mir.Loop (S := Int × Bool) (Q := Int) (Mir.w64 (s20.2 + 1), z38) fun s71 =>
              (
                if s71.2 = true then
                  if s71.1 < ((a0.length : Nat) : Int) then
                    (Mir.idx a0 s71.1).bind fun x84 =>
                    (m_ref08_isWord g ((x84.toNat : Nat) : Int)).bind fun q86 =>
                    some (true, q86)
                  else
                    some (true, false)
                else
                  some (false, false)
              : Option (Bool × Bool)).bind fun (z77 : Bool × Bool) =>
              if z77.2 = true then
                some (.inl (Mir.w64 (s71.1 + 1), z77.1))
              else
                some (.inr s71.1)
          : Option Int).bind fun (z64 : Int) =>
          (Mir.sub a0 s20.2 z64).bind fun x93 =>
          (Mir.push 24 s20.1 [(DToken.mk x93 s20.2)]).bind fun x100 =>
          some (.inl (x100, z64))
      else
        some (.inr s20.1)
  : Option (List DToken)).bind fun (z1 : List DToken) =>
  (Mir.push 24 z1 [(DToken.mk ([] : List UInt8) ((a0.length : Nat) : Int))]).bind fun x109 =>
  some x109
noncomputable def m_ref08_rest (g : Nat) (a0 : List UInt8) (a1 : Int) : Option Bool :=
  jx (J := Unit) (A := Bool) (
    Mir.Loop (S := Int) (Q := (Unit) ⊕ (Bool)) a1 fun s8 =>
      if s8 < ((a0.length : Nat) : Int) then
        (Mir.idx a0 s8).bind fun x15 =>
        (m_ref08_isWord g ((x15.toNat : Nat) : Int)).bind fun q17 =>
        if q17 = true then
          some (.inl (Mir.w64 (s8 + 1)))
        else
          some (.inr (.inr false))
      else
        some (.inr (.inl ()))
  ) fun z1 =>
  some true
noncomputable def m_ref08_IsGreat (g : Nat) (a0 : List UInt8) : Option Bool :=
  (
    if ((a0.length : Nat) : Int) ≥ 1 then
      if ((a0.length : Nat) : Int) ≤ 16 then
        ((a0)[0]?).bind fun x7 =>
        (m_ref08_isGreat g ((x7.toNat : Nat) : Int)).bind fun q9 =>
        if q9 = true then
          (m_ref08_rest g a0 1).bind fun q15 =>
          some q15
        else
          some false
      else
        some false
    else
      some false
  : Option Bool).bind fun (z1 : Bool) =>
  some z1
noncomputable def m_ref08_reserved (g : Nat) : Option (List (List UInt8)) :=
  some ([[100, 97, 116, 97], [99, 108, 97, 115, 115], [105, 110, 115, 116, 97, 110, 99, 101], [111, 112], [101, 110, 100], [119, 104, 101, 114, 101], [108, 101, 116], [105, 110], [102, 114, 101, 101], [99, 97, 115, 101], [114, 105, 103, 105, 100], [111, 102], [102, 97, 105, 108]] : List (List UInt8))
noncomputable def m_ref08_IsSmall (g : Nat) (a0 : List UInt8) : Option Bool :=
  (
    if ((a0.length : Nat) : Int) < 1 then
      some true
    else
      if ((a0.length : Nat) : Int) > 16 then
        some true
      else
        ((a0)[0]?).bind fun x7 =>
        (m_ref08_isSmall g ((x7.toNat : Nat) : Int)).bind fun q9 =>
        if q9 = true then
          (m_ref08_rest g a0 1).bind fun q15 =>
          some (!q15)
        else
          some true
  : Option Bool).bind fun (z1 : Bool) =>
  if z1 = true then
    some false
  else
    (m_ref08_reserved g).bind fun q22 =>
    jx (J := Unit) (A := Bool) (
      Mir.Loop (S := Nat) (Q := (Unit) ⊕ (Bool)) (0 : Nat) fun s34 =>
        if ((s34 : Nat) : Int) < ((q22.length : Nat) : Int) then
          ((q22)[s34]?).bind fun x39 =>
          if x39 = a0 then
            some (.inr (.inr false))
          else
            some (.inl (s34 + 1))
        else
          some (.inr (.inl ()))
    ) fun z30 =>
    some true
noncomputable def m_ref08_IsCore (g : Nat) (a0 : List UInt8) : Option Bool :=
  (
    (m_ref08_IsSmall g a0).bind fun q5 =>
    if q5 = true then
      some true
    else
      if ((a0.length : Nat) : Int) ≥ 2 then
        if ((a0.length : Nat) : Int) ≤ 16 then
          ((a0)[0]?).bind fun x14 =>
          if ((x14.toNat : Nat) : Int) = 95 then
            (m_ref08_rest g a0 1).bind fun q17 =>
            some q17
          else
            some false
        else
          some false
      else
        some false
  : Option Bool).bind fun (z1 : Bool) =>
  some z1
noncomputable def m_ref08_number (g : Nat) (a0 : List UInt8) (a1 : Int) : Option (Int × Bool) :=
  (
    if a0 = ([] : List UInt8) then
      some true
    else
      if ((a0.length : Nat) : Int) > 10 then
        some true
      else
        ((a0)[0]?).bind fun x5 =>
        if ((x5.toNat : Nat) : Int) = 48 then
          some (decide (((a0.length : Nat) : Int) > 1))
        else
          some false
  : Option Bool).bind fun (z1 : Bool) =>
  if z1 = true then
    some ((0 : Int), false)
  else
    jx (J := Int) (A := Int × Bool) (
      Mir.Loop (S := Int × Nat) (Q := (Int) ⊕ (Int × Bool)) ((0 : Int), (0 : Nat)) fun s18 =>
        if ((s18.2 : Nat) : Int) < ((a0.length : Nat) : Int) then
          ((a0)[s18.2]?).bind fun x25 =>
          (m_ref08_isDigit g ((x25.toNat : Nat) : Int)).bind fun q27 =>
          if q27 = true then
            ((a0)[s18.2]?).bind fun x33 =>
            (Mir.small a0).bind fun x35 =>
            some (.inl (Mir.w64 ((Mir.w64 (10 * s18.1)) + (Mir.w64 (IntKind.wrap .u8 (((x33.toNat : Nat) : Int) - 48)))), s18.2 + 1))
          else
            some (.inr (.inr ((0 : Int), false)))
        else
          some (.inr (.inl s18.1))
    ) fun z10 =>
    some (z10, decide (z10 ≤ a1))
noncomputable def m_ref08_leaf (g : Nat) (a0 : List UInt8) : Option (Int × List UInt8 × Int × Bool) :=
  if a0 = ([] : List UInt8) then
    some ((0 : Int), ([] : List UInt8), (0 : Int), false)
  else
    (m_ref08_IsGreat g a0).bind fun q4 =>
    if q4 = true then
      some ((1 : Int), a0, (0 : Int), true)
    else
      (
        ((a0)[0]?).bind fun x14 =>
        if ((x14.toNat : Nat) : Int) = 39 then
          (Mir.sub a0 1 ((a0.length : Nat) : Int)).bind fun x17 =>
          (m_ref08_IsCore g x17).bind fun q19 =>
          some q19
        else
          some false
      : Option Bool).bind fun (z10 : Bool) =>
      if z10 = true then
        (Mir.sub a0 1 ((a0.length : Nat) : Int)).bind fun x24 =>
        some ((4 : Int), x24, (0 : Int), true)
      else
        ((a0)[0]?).bind fun x27 =>
        if ((x27.toNat : Nat) : Int) = 95 then
          (Mir.sub a0 1 ((a0.length : Nat) : Int)).bind fun x30 =>
          (m_ref08_number g x30 300).bind fun q32 =>
          some ((3 : Int), ([] : List UInt8), q32.1, q32.2)
        else
          ((a0)[0]?).bind fun x37 =>
          if ((x37.toNat : Nat) : Int) = 45 then
            (Mir.sub a0 1 ((a0.length : Nat) : Int)).bind fun x40 =>
            (m_ref08_number g x40 1000000000).bind fun q42 =>
            (
              if q42.2 = true then
                some (decide (q42.1 > 0))
              else
                some false
            : Option Bool).bind fun (z46 : Bool) =>
            some ((2 : Int), ([] : List UInt8), Mir.w64 (-q42.1), z46)
          else
            (m_ref08_number g a0 1000000000).bind fun q52 =>
            some ((2 : Int), ([] : List UInt8), q52.1, q52.2)
noncomputable def m_ref08_value : Nat → (List DToken) → Int → Option (DValue × Int × Bool)
  | 0, _, _ => none
  | g + 1, a0, a1 =>
    (Mir.idx a0 a1).bind fun x3 =>
    if x3.s = ([40] : List UInt8) then
      (m_ref08_value g a0 (Mir.w64 (a1 + 1))).bind fun q11 =>
      (
        if q11.2.2 = true then
          (Mir.idx a0 q11.2.1).bind fun x24 =>
          some (!decide (x24.s = ([41] : List UInt8)))
        else
          some true
      : Option Bool).bind fun (z20 : Bool) =>
      if z20 = true then
        some (q11.1, q11.2.1, false)
      else
        some (q11.1, Mir.w64 (q11.2.1 + 1), true)
    else
      (Mir.idx a0 a1).bind fun x35 =>
      (m_ref08_leaf g x35.s).bind fun q42 =>
      if q42.2.2.2 = true then
        jx (J := Int × List DValue) (A := DValue × Int × Bool) (
          Mir.Loop (S := Int × List DValue) (Q := (Int × List DValue) ⊕ (DValue × Int × Bool)) (Mir.w64 (a1 + 1), ([] : List DValue)) fun s69 =>
            (
              if q42.1 = 1 then
                some true
              else
                some (decide (q42.1 = 4))
            : Option Bool).bind fun (z82 : Bool) =>
            if z82 = true then
              (Mir.idx a0 s69.1).bind fun x86 =>
              (m_ref08_leaf g x86.s).bind fun q93 =>
              jx (J := Int × List UInt8 × Int × List DValue × Bool × Int) (A := (Int × List DValue) ⊕ ((Int × List DValue) ⊕ (DValue × Int × Bool))) (
                (
                  if q93.2.2.2 = true then
                    some (true, false)
                  else
                    (Mir.idx a0 s69.1).bind fun x112 =>
                    some (false, decide (x112.s = ([40] : List UInt8)))
                : Option (Bool × Bool)).bind fun (z107 : Bool × Bool) =>
                if z107.2 = true then
                  (m_ref08_value g a0 s69.1).bind fun q120 =>
                  if q120.2.2 = true then
                    some (.inl (q120.1.Op, q120.1.Name, q120.1.N, q120.1.Kids, q120.2.2, q120.2.1))
                  else
                    some (.inr (.inr (.inr ((DValue.mk q42.1 q42.2.1 q42.2.2.1 s69.2), q120.2.1, false))))
                else
                  some (.inl (q93.1, q93.2.1, q93.2.2.1, ([] : List DValue), z107.1, Mir.w64 (s69.1 + 1)))
              ) fun z98 =>
              if z98.2.2.2.2.1 = true then
                (Mir.push 56 s69.2 [(DValue.mk z98.1 z98.2.1 z98.2.2.1 z98.2.2.2.1)]).bind fun x141 =>
                some (.inl (z98.2.2.2.2.2, x141))
              else
                some (.inr (.inl (s69.1, s69.2)))
            else
              some (.inr (.inl (s69.1, s69.2)))
        ) fun z49 =>
        some ((DValue.mk q42.1 q42.2.1 q42.2.2.1 z49.2), z49.1, true)
      else
        some ((DValue.mk q42.1 q42.2.1 q42.2.2.1 ([] : List DValue)), a1, false)
noncomputable def m_ref08_measure : Nat → DValue → Int → Int → Option (Int × Int)
  | 0, _, _, _ => none
  | g + 1, a0, a1, a2 =>
    (
      if a1 > 40 then
        some true
      else
        some (decide (Mir.w64 (a2 + 1) > 300))
    : Option Bool).bind fun (z3 : Bool) =>
    if z3 = true then
      some (a1, Mir.w64 (a2 + 1))
    else
      (
        Mir.Loop (S := Int × Int × Int) (Q := Int × Int) (Mir.w64 (a2 + 1), a1, (0 : Int)) fun s20 =>
          (
            if s20.2.2 < ((a0.Kids.length : Nat) : Int) then
              some (decide (s20.1 ≤ 300))
            else
              some false
          : Option Bool).bind fun (z26 : Bool) =>
          if z26 = true then
            (Mir.idx a0.Kids s20.2.2).bind fun x30 =>
            (m_ref08_measure g x30 (Mir.w64 (a1 + 1)) s20.1).bind fun q41 =>
            some (.inl (q41.2, if q41.1 > s20.2.1 then q41.1 else s20.2.1, Mir.w64 (s20.2.2 + 1)))
          else
            some (.inr (s20.1, s20.2.1))
      : Option (Int × Int)).bind fun (z8 : Int × Int) =>
      some (z8.2, z8.1)
noncomputable def m_ref08_isLarge (g : Nat) (a0 : DValue) : Option Bool :=
  (m_ref08_measure g a0 1 0).bind fun q3 =>
  (
    if q3.1 > 40 then
      some true
    else
      some (decide (q3.2 > 300))
  : Option Bool).bind fun (z7 : Bool) =>
  some z7
noncomputable def m_ref08_isNode (g : Nat) (a0 : DValue) : Option Bool :=
  if a0.Op = 1 then
    (
      (m_ref08_IsGreat g a0.Name).bind fun q8 =>
      if q8 = true then
        if a0.N = 0 then
          some (decide (((a0.Kids.length : Nat) : Int) ≤ 8))
        else
          some false
      else
        some false
    : Option Bool).bind fun (z4 : Bool) =>
    some z4
  else
    if a0.Op = 2 then
      (
        if a0.Name = ([] : List UInt8) then
          if ((a0.Kids.length : Nat) : Int) = 0 then
            if a0.N ≥ (-1000000000) then
              some (decide (a0.N ≤ 1000000000))
            else
              some false
          else
            some false
        else
          some false
      : Option Bool).bind fun (z18 : Bool) =>
      some z18
    else
      if a0.Op = 3 then
        (
          if a0.Name = ([] : List UInt8) then
            if ((a0.Kids.length : Nat) : Int) = 0 then
              if a0.N ≥ 0 then
                some (decide (a0.N ≤ 300))
              else
                some false
            else
              some false
          else
            some false
        : Option Bool).bind fun (z25 : Bool) =>
        some z25
      else
        if a0.Op = 4 then
          (
            (m_ref08_IsCore g a0.Name).bind fun q36 =>
            if q36 = true then
              if a0.N = 0 then
                some (decide (((a0.Kids.length : Nat) : Int) ≤ 8))
              else
                some false
            else
              some false
          : Option Bool).bind fun (z32 : Bool) =>
          some z32
        else
          some false
noncomputable def m_ref08_isValue : Nat → DValue → Option Bool
  | 0, _ => none
  | g + 1, a0 =>
    (m_ref08_isNode g a0).bind fun q3 =>
    if q3 = true then
      jx (J := Unit) (A := Bool) (
        Mir.Loop (S := Nat) (Q := (Unit) ⊕ (Bool)) (0 : Nat) fun s16 =>
          if ((s16 : Nat) : Int) < ((a0.Kids.length : Nat) : Int) then
            ((a0.Kids)[s16]?).bind fun x23 =>
            (m_ref08_isValue g x23).bind fun q34 =>
            if q34 = true then
              some (.inl (s16 + 1))
            else
              some (.inr (.inr false))
          else
            some (.inr (.inl ()))
      ) fun z9 =>
      some true
    else
      some false
noncomputable def m_ref08_Validate (g : Nat) (a0 : DValue) : Option Int :=
  (m_ref08_isLarge g a0).bind fun q3 =>
  if q3 = true then
    some (3 : Int)
  else
    (m_ref08_isValue g a0).bind fun q9 =>
    if q9 = true then
      some (0 : Int)
    else
      some (1 : Int)
noncomputable def m_ref08_Parse (g : Nat) (a0 : List UInt8) : Option (DValue × Int × Int) :=
  if ((a0.length : Nat) : Int) > 20000 then
    some ((DValue.mk 0 ([] : List UInt8) 0 ([] : List DValue)), (0 : Int), (3 : Int))
  else
    (m_ref08_tokens g a0).bind fun q4 =>
    (m_ref08_value g q4 0).bind fun q12 =>
    if q12.2.2 = true then
      (Mir.idx q4 q12.2.1).bind fun x31 =>
      if x31.s = ([] : List UInt8) then
        (m_ref08_Validate g q12.1).bind fun q48 =>
        if q48 = 0 then
          some (q12.1, (0 : Int), (0 : Int))
        else
          some ((DValue.mk 0 ([] : List UInt8) 0 ([] : List DValue)), (0 : Int), q48)
      else
        (Mir.idx q4 q12.2.1).bind fun x39 =>
        some ((DValue.mk 0 ([] : List UInt8) 0 ([] : List DValue)), x39.f_at, (2 : Int))
    else
      (Mir.idx q4 q12.2.1).bind fun x22 =>
      some ((DValue.mk 0 ([] : List UInt8) 0 ([] : List DValue)), x22.f_at, (2 : Int))
noncomputable def m_ref08_Exact : Nat → DValue → DValue → Option Bool
  | 0, _, _ => none
  | g + 1, a0, a1 =>
    (
      if a0.Op = a1.Op then
        if a0.Name = a1.Name then
          if a0.N = a1.N then
            some (!decide (((a0.Kids.length : Nat) : Int) = ((a1.Kids.length : Nat) : Int)))
          else
            some true
        else
          some true
      else
        some true
    : Option Bool).bind fun (z5 : Bool) =>
    if z5 = true then
      some false
    else
      jx (J := Unit) (A := Bool) (
        Mir.Loop (S := Nat) (Q := (Unit) ⊕ (Bool)) (0 : Nat) fun s19 =>
          if ((s19 : Nat) : Int) < ((a0.Kids.length : Nat) : Int) then
            ((a0.Kids)[s19]?).bind fun x26 =>
            ((a1.Kids)[s19]?).bind fun x37 =>
            (m_ref08_Exact g x26 x37).bind fun q49 =>
            if q49 = true then
              some (.inl (s19 + 1))
            else
              some (.inr (.inr false))
          else
            some (.inr (.inl ()))
      ) fun z12 =>
      some true
noncomputable def m_value_Answer (g : Nat) (a0 : DAnswer) : Option Int :=
  if ((a0.B.length : Nat) : Int) > 12 then
    some (3 : Int)
  else
    (Mir.push 56 ([a0.V] : List DValue) a0.B).bind fun x12 =>
    jx (J := Unit) (A := Int) (
      Mir.Loop (S := Nat) (Q := (Unit) ⊕ (Int)) (0 : Nat) fun s24 =>
        if ((s24 : Nat) : Int) < ((([3, 1] : List Int).length : Nat) : Int) then
          jx (J := Unit) (A := (Nat) ⊕ ((Unit) ⊕ (Int))) (
            ((([3, 1] : List Int))[s24]?).bind fun x36 =>
            Mir.Loop (S := Nat) (Q := (Unit) ⊕ ((Nat) ⊕ ((Unit) ⊕ (Int)))) (0 : Nat) fun s46 =>
              if ((s46 : Nat) : Int) < ((x12.length : Nat) : Int) then
                ((x12)[s46]?).bind fun x53 =>
                (m_value_Validate g x53).bind fun q66 =>
                if q66 = x36 then
                  some (.inr (.inr (.inr (.inr x36))))
                else
                  some (.inl (s46 + 1))
              else
                some (.inr (.inl ()))
          ) fun z31 =>
          some (.inl (s24 + 1))
        else
          some (.inr (.inl ()))
    ) fun z15 =>
    some (0 : Int)
noncomputable def m_value_renamed : Nat → DValue → (List (Int × Int)) → Option (DValue × (List (Int × Int)))
  | 0, _, _ => none
  | g + 1, a0, a1 =>
    (
      if a0.Op = 3 then
        (
          (Mir.getD a1 a0.N 0).bind fun x19 =>
          if (Mir.assoc a1 a0.N).isSome = true then
            some a1
          else
            (Mir.put a1 a0.N ((a1.length : Nat) : Int)).bind fun x28 =>
            some x28
        : Option (List (Int × Int))).bind fun (z13 : (List (Int × Int))) =>
        (Mir.getD z13 a0.N 0).bind fun x34 =>
        some (z13, x34)
      else
        some (a1, a0.N)
    : Option ((List (Int × Int)) × Int)).bind fun (z6 : (List (Int × Int)) × Int) =>
    (
      Mir.Loop (S := (List (Int × Int)) × List DValue × Nat) (Q := (List (Int × Int)) × List DValue) (z6.1, ([] : List DValue), (0 : Nat)) fun s71 =>
        if ((s71.2.2 : Nat) : Int) < ((a0.Kids.length : Nat) : Int) then
          ((a0.Kids)[s71.2.2]?).bind fun x89 =>
          (m_value_renamed g x89 s71.1).bind fun q102 =>
          (Mir.push 56 s71.2.1 [q102.1]).bind fun x120 =>
          some (.inl (q102.2, x120, s71.2.2 + 1))
        else
          some (.inr (s71.1, s71.2.1))
    : Option ((List (Int × Int)) × List DValue)).bind fun (z43 : (List (Int × Int)) × List DValue) =>
    some ((DValue.mk a0.Op a0.Name z6.2 z43.2), z43.1)
noncomputable def m_value_normal (g : Nat) (a0 : DAnswer) : Option (DAnswer × Int) :=
  (m_value_renamed g a0.V ([] : List (Int × Int))).bind fun q7 =>
  (
    Mir.Loop (S := (List (Int × Int)) × List DValue × Nat) (Q := (List (Int × Int)) × List DValue) (q7.2, ([] : List DValue), (0 : Nat)) fun s47 =>
      if ((s47.2.2 : Nat) : Int) < ((a0.B.length : Nat) : Int) then
        ((a0.B)[s47.2.2]?).bind fun x65 =>
        (m_value_renamed g x65 s47.1).bind fun q78 =>
        (Mir.push 56 s47.2.1 [q78.1]).bind fun x96 =>
        some (.inl (q78.2, x96, s47.2.2 + 1))
      else
        some (.inr (s47.1, s47.2.1))
  : Option ((List (Int × Int)) × List DValue)).bind fun (z19 : (List (Int × Int)) × List DValue) =>
  some ((DAnswer.mk q7.1 z19.2), ((z19.1.length : Nat) : Int))
noncomputable def m_value_Normal (g : Nat) (a0 : DAnswer) : Option (DAnswer × Int) :=
  (m_value_Answer g a0).bind fun q5 =>
  if q5 = 0 then
    (m_value_normal g a0).bind fun q11 =>
    if q11.2 > 300 then
      some ((DAnswer.mk (DValue.mk 0 ([] : List UInt8) 0 ([] : List DValue)) ([] : List DValue)), (3 : Int))
    else
      some (q11.1, (0 : Int))
  else
    some ((DAnswer.mk (DValue.mk 0 ([] : List UInt8) 0 ([] : List DValue)) ([] : List DValue)), q5)
noncomputable def m_law08_known (g : Nat) : Option Bool :=
  (m_value_Normal g (DAnswer.mk (DValue.mk 1 [80, 97, 105, 114] 0 ([(DValue.mk 3 ([] : List UInt8) 3 ([] : List DValue)), (DValue.mk 3 ([] : List UInt8) 3 ([] : List DValue))] : List DValue)) ([(DValue.mk 3 ([] : List UInt8) 3 ([] : List DValue)), (DValue.mk 3 ([] : List UInt8) 7 ([] : List DValue))] : List DValue))).bind fun q12 =>
  (
    if q12.2 = 0 then
      if ((q12.1.B.length : Nat) : Int) = 2 then
        ((q12.1.B)[0]?).bind fun x29 =>
        if x29.N = 0 then
          ((q12.1.B)[1]?).bind fun x41 =>
          if x41.N = 1 then
            if ((q12.1.V.Kids.length : Nat) : Int) = 2 then
              ((q12.1.V.Kids)[1]?).bind fun x54 =>
              some (decide (x54.N = 0))
            else
              some false
          else
            some false
        else
          some false
      else
        some false
    else
      some false
  : Option Bool).bind fun (z25 : Bool) =>
  some z25
noncomputable def m_law08_ValueReads (g : Nat) (a0 : List UInt8) : Option Bool :=
  (m_value_Parse g a0).bind fun q1 =>
  (m_ref08_Parse g a0).bind fun q10 =>
  (
    (m_ref08_Exact g q1.1 q10.1).bind fun q23 =>
    if q23 = true then
      if q1.2.1 = q10.2.1 then
        if q1.2.2 = q10.2.2 then
          (m_law08_known g).bind fun q31 =>
          some q31
        else
          some false
      else
        some false
    else
      some false
  : Option Bool).bind fun (z19 : Bool) =>
  some z19
end Go.Proofs.Ytchecaeeiejjjaa
