/- The functions that the law reaches, in plain words: what each gives for its arguments (none: not told). -/
import Derived.Test.YtopmcncaanjboaaSyPl
namespace Go.Proofs.Ytopmcncaanjboaa
open Go Go.Sy Go.RowKit
set_option linter.unusedVariables false
open Go.Mir
structure DLimit where
  Kind : Int
  Vars : List Int
  A : List Int
  B : Int
  Rows : List (List Int)
structure DProblem where
  Doms : List (List Int)
  Limits : List DLimit
structure DApart where
  mk ::
structure DTable where
  rows : List (List Int)
structure DSum where
  l : DLimit
inductive ILimit where
  | nil
  | c78 (x : DApart)
  | c80 (x : DTable)
  | c82 (x : DSum)
def ILimit.on {β : Type} (x : ILimit) (f0 : β) (f78 : DApart → β) (f80 : DTable → β) (f82 : DSum → β) : β := match x with
  | .nil => f0
  | .c78 y => f78 y
  | .c80 y => f80 y
  | .c82 y => f82 y
noncomputable def m_domain_isNumber (g : Nat) (a0 : Int) : Option Bool :=
  (
    if a0 ≥ (-1000000) then
      some (decide (a0 ≤ 1000000))
    else
      some false
  : Option Bool).bind fun (z1 : Bool) =>
  some z1
noncomputable def m_domain_rising (g : Nat) (a0 : List Int) : Option Bool :=
  jx (J := Unit) (A := Bool) (
    Mir.Loop (S := Nat) (Q := (Unit) ⊕ (Bool)) (1 : Nat) fun s6 =>
      if ((s6 : Nat) : Int) < ((a0.length : Nat) : Int) then
        (Mir.idx a0 (((s6 : Nat) : Int) - 1)).bind fun x11 =>
        ((a0)[s6]?).bind fun x18 =>
        if x11 ≥ x18 then
          some (.inr (.inr false))
        else
          some (.inl (s6 + 1))
      else
        some (.inr (.inl ()))
  ) fun z2 =>
  some true
noncomputable def m_domain_isLimit (g : Nat) (a0 : DProblem) (a1 : DLimit) : Option Bool :=
  (
    (m_domain_rising g a1.Vars).bind fun q12 =>
    if q12 = true then
      if a1.Kind < 0 then
        some true
      else
        if a1.Kind > 4 then
          some true
        else
          (m_domain_isNumber g a1.B).bind fun q20 =>
          some (!q20)
    else
      some true
  : Option Bool).bind fun (z8 : Bool) =>
  if z8 = true then
    some false
  else
    jx (J := Unit) (A := Bool) (
      Mir.Loop (S := Nat) (Q := (Unit) ⊕ (Bool)) (0 : Nat) fun s31 =>
        if ((s31 : Nat) : Int) < ((a1.Vars.length : Nat) : Int) then
          ((a1.Vars)[s31]?).bind fun x36 =>
          (
            if x36 < 0 then
              some true
            else
              some (decide (x36 ≥ ((a0.Doms.length : Nat) : Int)))
          : Option Bool).bind fun (z43 : Bool) =>
          if z43 = true then
            some (.inr (.inr false))
          else
            some (.inl (s31 + 1))
        else
          some (.inr (.inl ()))
    ) fun z27 =>
    (
      if a1.Kind ≤ 2 then
        if ((a1.A.length : Nat) : Int) = ((a1.Vars.length : Nat) : Int) then
          if a1.Kind = 4 then
            some false
          else
            some (decide (((a1.Rows.length : Nat) : Int) > 0))
        else
          some true
      else
        if ((a1.A.length : Nat) : Int) > 0 then
          some true
        else
          if a1.B = 0 then
            if a1.Kind = 4 then
              some false
            else
              some (decide (((a1.Rows.length : Nat) : Int) > 0))
          else
            some true
    : Option Bool).bind fun (z49 : Bool) =>
    if z49 = true then
      some false
    else
      jx (J := Unit) (A := Bool) (
        Mir.Loop (S := Nat) (Q := (Unit) ⊕ (Bool)) (0 : Nat) fun s68 =>
          if ((s68 : Nat) : Int) < ((a1.A.length : Nat) : Int) then
            ((a1.A)[s68]?).bind fun x75 =>
            (m_domain_isNumber g x75).bind fun q82 =>
            if q82 = true then
              some (.inl (s68 + 1))
            else
              some (.inr (.inr false))
          else
            some (.inr (.inl ()))
      ) fun z61 =>
      jx (J := Unit) (A := Bool) (
        Mir.Loop (S := Nat) (Q := (Unit) ⊕ (Bool)) (0 : Nat) fun s96 =>
          if ((s96 : Nat) : Int) < ((a1.Rows.length : Nat) : Int) then
            jx (J := Unit) (A := (Nat) ⊕ ((Unit) ⊕ (Bool))) (
              ((a1.Rows)[s96]?).bind fun x108 =>
              if ((x108.length : Nat) : Int) = ((a1.Vars.length : Nat) : Int) then
                Mir.Loop (S := Nat) (Q := (Unit) ⊕ ((Nat) ⊕ ((Unit) ⊕ (Bool)))) (0 : Nat) fun s123 =>
                  if ((s123 : Nat) : Int) < ((x108.length : Nat) : Int) then
                    ((x108)[s123]?).bind fun x130 =>
                    (m_domain_isNumber g x130).bind fun q137 =>
                    if q137 = true then
                      some (.inl (s123 + 1))
                    else
                      some (.inr (.inr (.inr (.inr false))))
                  else
                    some (.inr (.inl ()))
              else
                some (.inr (.inr (.inr false)))
            ) fun z103 =>
            some (.inl (s96 + 1))
          else
            some (.inr (.inl ()))
      ) fun z89 =>
      some true
noncomputable def m_domain_Validate (g : Nat) (a0 : DProblem) : Option Int :=
  (
    if ((a0.Doms.length : Nat) : Int) > 12 then
      some true
    else
      some (decide (((a0.Limits.length : Nat) : Int) > 24))
  : Option Bool).bind fun (z4 : Bool) =>
  if z4 = true then
    some (3 : Int)
  else
    jx (J := Unit) (A := Int) (
      Mir.Loop (S := Nat) (Q := (Unit) ⊕ (Int)) (0 : Nat) fun s13 =>
        if ((s13 : Nat) : Int) < ((a0.Doms.length : Nat) : Int) then
          ((a0.Doms)[s13]?).bind fun x18 =>
          if ((x18.length : Nat) : Int) > 30 then
            some (.inr (.inr (3 : Int)))
          else
            some (.inl (s13 + 1))
        else
          some (.inr (.inl ()))
    ) fun z9 =>
    jx (J := Unit) (A := Int) (
      Mir.Loop (S := Nat) (Q := (Unit) ⊕ (Int)) (0 : Nat) fun s36 =>
        if ((s36 : Nat) : Int) < ((a0.Limits.length : Nat) : Int) then
          ((a0.Limits)[s36]?).bind fun x41 =>
          (
            if ((x41.Vars.length : Nat) : Int) > 12 then
              some true
            else
              some (decide (((x41.Rows.length : Nat) : Int) > 64))
          : Option Bool).bind fun (z61 : Bool) =>
          if z61 = true then
            some (.inr (.inr (3 : Int)))
          else
            some (.inl (s36 + 1))
        else
          some (.inr (.inl ()))
    ) fun z32 =>
    jx (J := Unit) (A := Int) (
      Mir.Loop (S := Nat) (Q := (Unit) ⊕ (Int)) (0 : Nat) fun s74 =>
        if ((s74 : Nat) : Int) < ((a0.Doms.length : Nat) : Int) then
          ((a0.Doms)[s74]?).bind fun x81 =>
          jx (J := Unit) (A := (Nat) ⊕ ((Unit) ⊕ (Int))) (
            Mir.Loop (S := Nat) (Q := (Unit) ⊕ ((Nat) ⊕ ((Unit) ⊕ (Int)))) (0 : Nat) fun s99 =>
              if ((s99 : Nat) : Int) < ((x81.length : Nat) : Int) then
                ((x81)[s99]?).bind fun x106 =>
                (m_domain_isNumber g x106).bind fun q113 =>
                if q113 = true then
                  some (.inl (s99 + 1))
                else
                  some (.inr (.inr (.inr (.inr (1 : Int)))))
              else
                some (.inr (.inl ()))
          ) fun z92 =>
          (m_domain_rising g x81).bind fun q120 =>
          if q120 = true then
            some (.inl (s74 + 1))
          else
            some (.inr (.inr (1 : Int)))
        else
          some (.inr (.inl ()))
    ) fun z67 =>
    jx (J := Unit) (A := Int) (
      Mir.Loop (S := Nat) (Q := (Unit) ⊕ (Int)) (0 : Nat) fun s134 =>
        if ((s134 : Nat) : Int) < ((a0.Limits.length : Nat) : Int) then
          ((a0.Limits)[s134]?).bind fun x141 =>
          (m_domain_isLimit g a0 x141).bind fun q161 =>
          if q161 = true then
            some (.inl (s134 + 1))
          else
            some (.inr (.inr (1 : Int)))
        else
          some (.inr (.inl ()))
    ) fun z127 =>
    some (0 : Int)
noncomputable def m_ref11_isLarge (g : Nat) (a0 : DProblem) : Option Bool :=
  (
    if ((a0.Doms.length : Nat) : Int) > 12 then
      some true
    else
      some (decide (((a0.Limits.length : Nat) : Int) > 24))
  : Option Bool).bind fun (z4 : Bool) =>
  if z4 = true then
    some true
  else
    jx (J := Unit) (A := Bool) (
      Mir.Loop (S := Nat) (Q := (Unit) ⊕ (Bool)) (0 : Nat) fun s13 =>
        if ((s13 : Nat) : Int) < ((a0.Doms.length : Nat) : Int) then
          ((a0.Doms)[s13]?).bind fun x18 =>
          if ((x18.length : Nat) : Int) > 30 then
            some (.inr (.inr true))
          else
            some (.inl (s13 + 1))
        else
          some (.inr (.inl ()))
    ) fun z9 =>
    jx (J := Unit) (A := Bool) (
      Mir.Loop (S := Nat) (Q := (Unit) ⊕ (Bool)) (0 : Nat) fun s36 =>
        if ((s36 : Nat) : Int) < ((a0.Limits.length : Nat) : Int) then
          (
            ((a0.Limits)[s36]?).bind fun x43 =>
            if ((x43.Vars.length : Nat) : Int) > 12 then
              some true
            else
              ((a0.Limits)[s36]?).bind fun x63 =>
              some (decide (((x63.Rows.length : Nat) : Int) > 64))
          : Option Bool).bind fun (z41 : Bool) =>
          if z41 = true then
            some (.inr (.inr true))
          else
            some (.inl (s36 + 1))
        else
          some (.inr (.inl ()))
    ) fun z32 =>
    some false
noncomputable def m_ref11_isRow (g : Nat) (a0 : List Int) : Option Bool :=
  jx (J := Unit) (A := Bool) (
    Mir.Loop (S := Nat) (Q := (Unit) ⊕ (Bool)) (1 : Nat) fun s6 =>
      if ((s6 : Nat) : Int) < ((a0.length : Nat) : Int) then
        (Mir.idx a0 (((s6 : Nat) : Int) - 1)).bind fun x11 =>
        ((a0)[s6]?).bind fun x18 =>
        if x11 ≥ x18 then
          some (.inr (.inr false))
        else
          some (.inl (s6 + 1))
      else
        some (.inr (.inl ()))
  ) fun z2 =>
  some true
noncomputable def m_ref11_areNumbers (g : Nat) (a0 : List Int) : Option Bool :=
  jx (J := Unit) (A := Bool) (
    Mir.Loop (S := Nat) (Q := (Unit) ⊕ (Bool)) (0 : Nat) fun s6 =>
      if ((s6 : Nat) : Int) < ((a0.length : Nat) : Int) then
        (
          ((a0)[s6]?).bind fun x13 =>
          if x13 < (-1000000) then
            some true
          else
            ((a0)[s6]?).bind fun x21 =>
            some (decide (x21 > 1000000))
        : Option Bool).bind fun (z11 : Bool) =>
        if z11 = true then
          some (.inr (.inr false))
        else
          some (.inl (s6 + 1))
      else
        some (.inr (.inl ()))
  ) fun z2 =>
  some true
noncomputable def m_ref11_isLimit (g : Nat) (a0 : DLimit) (a1 : Int) : Option Bool :=
  (
    (m_ref11_isRow g a0.Vars).bind fun q9 =>
    if q9 = true then
      if a0.Kind < 0 then
        some true
      else
        if a0.Kind > 4 then
          some true
        else
          (m_ref11_areNumbers g a0.A).bind fun q17 =>
          if q17 = true then
            (m_ref11_areNumbers g ([a0.B] : List Int)).bind fun q25 =>
            some (!q25)
          else
            some true
    else
      some true
  : Option Bool).bind fun (z5 : Bool) =>
  if z5 = true then
    some false
  else
    jx (J := Unit) (A := Bool) (
      Mir.Loop (S := Nat) (Q := (Unit) ⊕ (Bool)) (0 : Nat) fun s37 =>
        if ((s37 : Nat) : Int) < ((a0.Vars.length : Nat) : Int) then
          (
            ((a0.Vars)[s37]?).bind fun x44 =>
            if x44 < 0 then
              some true
            else
              ((a0.Vars)[s37]?).bind fun x52 =>
              some (decide (x52 ≥ a1))
          : Option Bool).bind fun (z42 : Bool) =>
          if z42 = true then
            some (.inr (.inr false))
          else
            some (.inl (s37 + 1))
        else
          some (.inr (.inl ()))
    ) fun z33 =>
    jx (J := Unit) (A := Bool) (
      Mir.Loop (S := Nat) (Q := (Unit) ⊕ (Bool)) (0 : Nat) fun s69 =>
        if ((s69 : Nat) : Int) < ((a0.Rows.length : Nat) : Int) then
          (
            ((a0.Rows)[s69]?).bind fun x80 =>
            if ((x80.length : Nat) : Int) = ((a0.Vars.length : Nat) : Int) then
              ((a0.Rows)[s69]?).bind fun x92 =>
              (m_ref11_areNumbers g x92).bind fun q104 =>
              some (!q104)
            else
              some true
          : Option Bool).bind fun (z76 : Bool) =>
          if z76 = true then
            some (.inr (.inr false))
          else
            some (.inl (s69 + 1))
        else
          some (.inr (.inl ()))
    ) fun z62 =>
    if a0.Kind ≤ 2 then
      (
        if ((a0.A.length : Nat) : Int) = ((a0.Vars.length : Nat) : Int) then
          some (decide (((a0.Rows.length : Nat) : Int) = 0))
        else
          some false
      : Option Bool).bind fun (z113 : Bool) =>
      some z113
    else
      (
        if ((a0.A.length : Nat) : Int) = 0 then
          if a0.B = 0 then
            if a0.Kind = 4 then
              some true
            else
              some (decide (((a0.Rows.length : Nat) : Int) = 0))
          else
            some false
        else
          some false
      : Option Bool).bind fun (z117 : Bool) =>
      some z117
noncomputable def m_ref11_Validate (g : Nat) (a0 : DProblem) : Option Int :=
  (m_ref11_isLarge g a0).bind fun q4 =>
  if q4 = true then
    some (3 : Int)
  else
    jx (J := Unit) (A := Int) (
      Mir.Loop (S := Nat) (Q := (Unit) ⊕ (Int)) (0 : Nat) fun s17 =>
        if ((s17 : Nat) : Int) < ((a0.Doms.length : Nat) : Int) then
          (
            ((a0.Doms)[s17]?).bind fun x28 =>
            (m_ref11_isRow g x28).bind fun q39 =>
            if q39 = true then
              ((a0.Doms)[s17]?).bind fun x45 =>
              (m_ref11_areNumbers g x45).bind fun q56 =>
              some (!q56)
            else
              some true
          : Option Bool).bind fun (z24 : Bool) =>
          if z24 = true then
            some (.inr (.inr (1 : Int)))
          else
            some (.inl (s17 + 1))
        else
          some (.inr (.inl ()))
    ) fun z10 =>
    jx (J := Unit) (A := Int) (
      Mir.Loop (S := Nat) (Q := (Unit) ⊕ (Int)) (0 : Nat) fun s71 =>
        if ((s71 : Nat) : Int) < ((a0.Limits.length : Nat) : Int) then
          ((a0.Limits)[s71]?).bind fun x78 =>
          (m_ref11_isLimit g x78 ((a0.Doms.length : Nat) : Int)).bind fun q98 =>
          if q98 = true then
            some (.inl (s71 + 1))
          else
            some (.inr (.inr (1 : Int)))
        else
          some (.inr (.inl ()))
    ) fun z64 =>
    some (0 : Int)
noncomputable def m_ref11_among (g : Nat) (a0 : List (List Int)) (a1 : DLimit) : Option (List (List Int)) :=
  (
    Mir.Loop (S := List (List Int) × Nat) (Q := List (List Int)) (([] : List (List Int)), (0 : Nat)) fun s22 =>
      if ((s22.2 : Nat) : Int) < ((a1.Vars.length : Nat) : Int) then
        ((a1.Vars)[s22.2]?).bind fun x34 =>
        (Mir.idx a0 x34).bind fun x41 =>
        (Mir.push 24 s22.1 [x41]).bind fun x57 =>
        some (.inl (x57, s22.2 + 1))
      else
        some (.inr s22.1)
  : Option (List (List Int))).bind fun (z6 : List (List Int)) =>
  some z6
noncomputable def m_ref11_Combinations (g : Nat) (a0 : List (List Int)) : Option Int :=
  jx (J := Unit) (A := Int) (
    Mir.Loop (S := Nat) (Q := (Unit) ⊕ (Int)) (0 : Nat) fun s6 =>
      if ((s6 : Nat) : Int) < ((a0.length : Nat) : Int) then
        ((a0)[s6]?).bind fun x11 =>
        if ((x11.length : Nat) : Int) = 0 then
          some (.inr (.inr (0 : Int)))
        else
          some (.inl (s6 + 1))
      else
        some (.inr (.inl ()))
  ) fun z2 =>
  jx (J := Int) (A := Int) (
    Mir.Loop (S := Int × Nat) (Q := (Int) ⊕ (Int)) ((1 : Int), (0 : Nat)) fun s30 =>
      if ((s30.2 : Nat) : Int) < ((a0.length : Nat) : Int) then
        ((a0)[s30.2]?).bind fun x35 =>
        if Mir.w64 (s30.1 * ((x35.length : Nat) : Int)) > 20000 then
          some (.inr (.inr (20001 : Int)))
        else
          some (.inl (Mir.w64 (s30.1 * ((x35.length : Nat) : Int)), s30.2 + 1))
      else
        some (.inr (.inl s30.1))
  ) fun z25 =>
  some z25
noncomputable def m_ref11_IsCostly (g : Nat) (a0 : DProblem) : Option Bool :=
  jx (J := Unit) (A := Bool) (
    Mir.Loop (S := Nat) (Q := (Unit) ⊕ (Bool)) (0 : Nat) fun s11 =>
      if ((s11 : Nat) : Int) < ((a0.Limits.length : Nat) : Int) then
        (
          ((a0.Limits)[s11]?).bind fun x22 =>
          if ((x22.Vars.length : Nat) : Int) > 3 then
            ((a0.Limits)[s11]?).bind fun x42 =>
            (m_ref11_among g a0.Doms x42).bind fun q62 =>
            (m_ref11_Combinations g q62).bind fun q71 =>
            some (decide (q71 > 20000))
          else
            some false
        : Option Bool).bind fun (z18 : Bool) =>
        if z18 = true then
          some (.inr (.inr true))
        else
          some (.inl (s11 + 1))
      else
        some (.inr (.inl ()))
  ) fun z4 =>
  some false
noncomputable def m_law11_work (g : Nat) (a0 : DProblem) : Option Int :=
  (
    Mir.Loop (S := Int × Nat) (Q := Int) ((1 : Int), (0 : Nat)) fun s8 =>
      if ((s8.2 : Nat) : Int) < ((a0.Limits.length : Nat) : Int) then
        (
          Mir.Loop (S := Int × Nat) (Q := Int) ((1 : Int), (0 : Nat)) fun s17 =>
            ((a0.Limits)[s8.2]?).bind fun x21 =>
            if ((s17.2 : Nat) : Int) < ((x21.Vars.length : Nat) : Int) then
              (
                ((a0.Limits)[s8.2]?).bind fun x43 =>
                ((x43.Vars)[s17.2]?).bind fun x62 =>
                (
                  if x62 ≥ 0 then
                    if x62 < ((a0.Doms.length : Nat) : Int) then
                      some (decide (s17.1 < 1048576))
                    else
                      some false
                  else
                    some false
                : Option Bool).bind fun (z69 : Bool) =>
                if z69 = true then
                  (Mir.idx a0.Doms x62).bind fun x74 =>
                  some (Mir.w64 (s17.1 * ((x74.length + 1 : Nat) : Int)))
                else
                  some s17.1
              : Option Int).bind fun (z41 : Int) =>
              some (.inl (z41, s17.2 + 1))
            else
              some (.inr s17.1)
        : Option Int).bind fun (z13 : Int) =>
        some (.inl (Mir.w64 (s8.1 + z13), s8.2 + 1))
      else
        some (.inr s8.1)
  : Option Int).bind fun (z4 : Int) =>
  some z4
noncomputable def m_law11_isHeavy (g : Nat) (a0 : DProblem) : Option Bool :=
  (
    (m_ref11_Validate g a0).bind fun q8 =>
    if q8 = 0 then
      (m_ref11_IsCostly g a0).bind fun q13 =>
      if q13 = true then
        some false
      else
        (m_law11_work g a0).bind fun q20 =>
        some (decide (q20 > 60000))
    else
      some false
  : Option Bool).bind fun (z4 : Bool) =>
  some z4
noncomputable def m_domain_combinations (g : Nat) (a0 : List (List Int)) (a1 : List Int) : Option Int :=
  jx (J := Int) (A := Int) (
    Mir.Loop (S := Int × Nat) (Q := (Int) ⊕ (Int)) ((1 : Int), (0 : Nat)) fun s8 =>
      if ((s8.2 : Nat) : Int) < ((a1.length : Nat) : Int) then
        ((a1)[s8.2]?).bind fun x13 =>
        (Mir.idx a0 x13).bind fun x20 =>
        if Mir.w64 (s8.1 * ((x20.length : Nat) : Int)) > 20000 then
          some (.inr (.inr (20001 : Int)))
        else
          some (.inl (Mir.w64 (s8.1 * ((x20.length : Nat) : Int)), s8.2 + 1))
      else
        some (.inr (.inl s8.1))
  ) fun z3 =>
  some z3
noncomputable def m_domain_isCostly (g : Nat) (a0 : DProblem) : Option Bool :=
  jx (J := Unit) (A := Bool) (
    Mir.Loop (S := Nat) (Q := (Unit) ⊕ (Bool)) (0 : Nat) fun s11 =>
      if ((s11 : Nat) : Int) < ((a0.Limits.length : Nat) : Int) then
        ((a0.Limits)[s11]?).bind fun x18 =>
        (
          if ((x18.Vars.length : Nat) : Int) > 3 then
            (m_domain_combinations g a0.Doms x18.Vars).bind fun q43 =>
            some (decide (q43 > 20000))
          else
            some false
        : Option Bool).bind fun (z38 : Bool) =>
        if z38 = true then
          some (.inr (.inr true))
        else
          some (.inl (s11 + 1))
      else
        some (.inr (.inl ()))
  ) fun z4 =>
  some false
noncomputable def m_domain_of (g : Nat) (a0 : DLimit) : Option ILimit :=
  if a0.Kind = 3 then
    some (.c78 (DApart.mk))
  else
    if a0.Kind = 4 then
      some (.c80 (DTable.mk a0.Rows))
    else
      some (.c82 (DSum.mk a0))
noncomputable def m_domain_apart_holds (g : Nat) (a0 : DApart) (a1 : List Int) : Option Bool :=
  jx (J := Unit) (A := Bool) (
    Mir.Loop (S := Nat) (Q := (Unit) ⊕ (Bool)) (0 : Nat) fun s7 =>
      if ((s7 : Nat) : Int) < ((a1.length : Nat) : Int) then
        jx (J := Unit) (A := (Nat) ⊕ ((Unit) ⊕ (Bool))) (
          ((a1)[s7]?).bind fun x15 =>
          (Mir.sub a1 0 ((s7 : Nat) : Int)).bind fun x26 =>
          Mir.Loop (S := Nat) (Q := (Unit) ⊕ ((Nat) ⊕ ((Unit) ⊕ (Bool)))) (0 : Nat) fun s30 =>
            if ((s30 : Nat) : Int) < ((x26.length : Nat) : Int) then
              ((x26)[s30]?).bind fun x35 =>
              if x15 = x35 then
                some (.inr (.inr (.inr (.inr false))))
              else
                some (.inl (s30 + 1))
            else
              some (.inr (.inl ()))
        ) fun z12 =>
        some (.inl (s7 + 1))
      else
        some (.inr (.inl ()))
  ) fun z3 =>
  some true
noncomputable def m_domain_table_holds (g : Nat) (a0 : DTable) (a1 : List Int) : Option Bool :=
  jx (J := Unit) (A := Bool) (
    Mir.Loop (S := Nat) (Q := (Unit) ⊕ (Bool)) (0 : Nat) fun s8 =>
      if ((s8 : Nat) : Int) < ((a0.rows.length : Nat) : Int) then
        ((a0.rows)[s8]?).bind fun x13 =>
        (
          Mir.Loop (S := Bool × Nat) (Q := Bool) (true, (0 : Nat)) fun s28 =>
            if ((s28.2 : Nat) : Int) < ((a1.length : Nat) : Int) then
              (
                ((a1)[s28.2]?).bind fun x35 =>
                if s28.1 = true then
                  ((x13)[s28.2]?).bind fun x44 =>
                  some (decide (x44 = x35))
                else
                  some false
              : Option Bool).bind fun (z33 : Bool) =>
              some (.inl (z33, s28.2 + 1))
            else
              some (.inr s28.1)
        : Option Bool).bind fun (z24 : Bool) =>
        if z24 = true then
          some (.inr (.inr true))
        else
          some (.inl (s8 + 1))
      else
        some (.inr (.inl ()))
  ) fun z4 =>
  some false
noncomputable def m_domain_sum_holds (g : Nat) (a0 : DSum) (a1 : List Int) : Option Bool :=
  (
    Mir.Loop (S := Int × Nat) (Q := Int) ((0 : Int), (0 : Nat)) fun s10 =>
      if ((s10.2 : Nat) : Int) < ((a1.length : Nat) : Int) then
        ((a1)[s10.2]?).bind fun x15 =>
        ((a0.l.A)[s10.2]?).bind fun x22 =>
        some (.inl (Mir.w64 (s10.1 + (Mir.w64 (x22 * x15))), s10.2 + 1))
      else
        some (.inr s10.1)
  : Option Int).bind fun (z6 : Int) =>
  if a0.l.Kind = 0 then
    some (decide (z6 ≤ a0.l.B))
  else
    if a0.l.Kind = 1 then
      some (decide (z6 = a0.l.B))
    else
      some (!decide (z6 = a0.l.B))
noncomputable def m_domain_isEmpty (g : Nat) (a0 : ILimit) : Option Bool :=
  jx (J := Unit) (A := Bool) (
    ILimit.on a0
      (
        some (.inl ())
      )
      (fun y5 =>
        some (.inl ())
      )
      (fun y6 =>
        some (.inr (decide (((y6.rows.length : Nat) : Int) = 0)))
      )
      (fun y7 =>
        some (.inl ())
      )
  ) fun z1 =>
  some false
noncomputable def m_domain_support (g : Nat) (a0 : List (List Int)) (a1 : DLimit) : Option (List (List Bool)) :=
  (Mir.made 30 ((a1.Vars.length : Nat) : Int) (List.replicate 30 false)).bind fun x6 =>
  (Mir.made 8 ((a1.Vars.length : Nat) : Int) (0 : Int)).bind fun x14 =>
  (Mir.made 8 ((a1.Vars.length : Nat) : Int) (0 : Int)).bind fun x22 =>
  (m_domain_of g a1).bind fun q30 =>
  (m_domain_isEmpty g q30).bind fun q36 =>
  if q36 = true then
    some x6
  else
    Mir.Loop (S := List (List Bool) × List Int × List Int × ILimit) (Q := List (List Bool)) (x6, x14, x22, q30) fun s70 =>
      jx (J := List Int) (A := (List (List Bool) × List Int × List Int × ILimit) ⊕ (List (List Bool))) (
        Mir.Loop (S := List Int × Nat) (Q := (List Int) ⊕ ((List (List Bool) × List Int × List Int × ILimit) ⊕ (List (List Bool)))) (s70.2.2.1, (0 : Nat)) fun s113 =>
          if ((s113.2 : Nat) : Int) < ((a1.Vars.length : Nat) : Int) then
            ((a1.Vars)[s113.2]?).bind fun x124 =>
            ((s70.2.1)[s113.2]?).bind fun x131 =>
            (Mir.idx a0 x124).bind fun x139 =>
            if x131 ≥ ((x139.length : Nat) : Int) then
              some (.inr (.inr (.inr s70.1)))
            else
              (Mir.idx a0 x124).bind fun x156 =>
              ((s70.2.1)[s113.2]?).bind fun x167 =>
              (Mir.idx x156 x167).bind fun x174 =>
              ((s113.1)[s113.2]?).bind fun x181 =>
              (Mir.upd s113.1 (s113.2 : Int) x174).bind fun x192 =>
              some (.inl (x192, s113.2 + 1))
          else
            some (.inr (.inl s113.1))
      ) fun z96 =>
      ILimit.on s70.2.2.2
        (
          none
        )
        (fun y196 =>
          (m_domain_apart_holds g (DApart.mk) z96).bind fun q203 =>
          (
            if q203 = true then
              Mir.Loop (S := List (List Bool) × Nat) (Q := List (List Bool)) (s70.1, (0 : Nat)) fun s224 =>
                if ((s224.2 : Nat) : Int) < ((s70.2.1.length : Nat) : Int) then
                  ((s70.2.1)[s224.2]?).bind fun x235 =>
                  ((s224.1)[s224.2]?).bind fun x243 =>
                  (Mir.idx x243 x235).bind fun x253 =>
                  (Mir.upd x243 x235 true).bind fun x258 =>
                  (Mir.upd s224.1 (s224.2 : Int) x258).bind fun x260 =>
                  some (.inl (x260, s224.2 + 1))
                else
                  some (.inr s224.1)
            else
              some s70.1
          : Option (List (List Bool))).bind fun (z207 : List (List Bool)) =>
          (
            Mir.Loop (S := List Int × Int) (Q := List Int × Int) (s70.2.1, ((s70.2.1.length : Nat) : Int) - 1) fun s282 =>
              if s282.2 ≥ 0 then
                (Mir.idx s282.1 s282.2).bind fun x293 =>
                (Mir.idx s282.1 s282.2).bind fun x301 =>
                (Mir.upd s282.1 s282.2 (Mir.w64 (x293 + 1))).bind fun x310 =>
                (Mir.idx x310 s282.2).bind fun x312 =>
                (Mir.idx a1.Vars s282.2).bind fun x319 =>
                (Mir.idx a0 x319).bind fun x326 =>
                if x312 < ((x326.length : Nat) : Int) then
                  some (.inr (x310, s282.2))
                else
                  (Mir.idx x310 s282.2).bind fun x340 =>
                  (Mir.upd x310 s282.2 0).bind fun x349 =>
                  some (.inl (x349, Mir.w64 (s282.2 - 1)))
              else
                some (.inr (s282.1, s282.2))
          : Option (List Int × Int)).bind fun (z266 : List Int × Int) =>
          if z266.2 < 0 then
            some (.inr z207)
          else
            some (.inl (z207, z266.1, z96, (.c78 (DApart.mk))))
        )
        (fun y197 =>
          (m_domain_table_holds g y197 z96).bind fun q364 =>
          (
            if q364 = true then
              Mir.Loop (S := List (List Bool) × Nat) (Q := List (List Bool)) (s70.1, (0 : Nat)) fun s385 =>
                if ((s385.2 : Nat) : Int) < ((s70.2.1.length : Nat) : Int) then
                  ((s70.2.1)[s385.2]?).bind fun x396 =>
                  ((s385.1)[s385.2]?).bind fun x404 =>
                  (Mir.idx x404 x396).bind fun x414 =>
                  (Mir.upd x404 x396 true).bind fun x419 =>
                  (Mir.upd s385.1 (s385.2 : Int) x419).bind fun x421 =>
                  some (.inl (x421, s385.2 + 1))
                else
                  some (.inr s385.1)
            else
              some s70.1
          : Option (List (List Bool))).bind fun (z368 : List (List Bool)) =>
          (
            Mir.Loop (S := List Int × Int) (Q := List Int × Int) (s70.2.1, ((s70.2.1.length : Nat) : Int) - 1) fun s443 =>
              if s443.2 ≥ 0 then
                (Mir.idx s443.1 s443.2).bind fun x454 =>
                (Mir.idx s443.1 s443.2).bind fun x462 =>
                (Mir.upd s443.1 s443.2 (Mir.w64 (x454 + 1))).bind fun x471 =>
                (Mir.idx x471 s443.2).bind fun x473 =>
                (Mir.idx a1.Vars s443.2).bind fun x480 =>
                (Mir.idx a0 x480).bind fun x487 =>
                if x473 < ((x487.length : Nat) : Int) then
                  some (.inr (x471, s443.2))
                else
                  (Mir.idx x471 s443.2).bind fun x501 =>
                  (Mir.upd x471 s443.2 0).bind fun x510 =>
                  some (.inl (x510, Mir.w64 (s443.2 - 1)))
              else
                some (.inr (s443.1, s443.2))
          : Option (List Int × Int)).bind fun (z427 : List Int × Int) =>
          if z427.2 < 0 then
            some (.inr z368)
          else
            some (.inl (z368, z427.1, z96, (.c80 y197)))
        )
        (fun y198 =>
          (m_domain_sum_holds g y198 z96).bind fun q533 =>
          (
            if q533 = true then
              Mir.Loop (S := List (List Bool) × Nat) (Q := List (List Bool)) (s70.1, (0 : Nat)) fun s554 =>
                if ((s554.2 : Nat) : Int) < ((s70.2.1.length : Nat) : Int) then
                  ((s70.2.1)[s554.2]?).bind fun x565 =>
                  ((s554.1)[s554.2]?).bind fun x573 =>
                  (Mir.idx x573 x565).bind fun x583 =>
                  (Mir.upd x573 x565 true).bind fun x588 =>
                  (Mir.upd s554.1 (s554.2 : Int) x588).bind fun x590 =>
                  some (.inl (x590, s554.2 + 1))
                else
                  some (.inr s554.1)
            else
              some s70.1
          : Option (List (List Bool))).bind fun (z537 : List (List Bool)) =>
          (
            Mir.Loop (S := List Int × Int) (Q := List Int × Int) (s70.2.1, ((s70.2.1.length : Nat) : Int) - 1) fun s612 =>
              if s612.2 ≥ 0 then
                (Mir.idx s612.1 s612.2).bind fun x623 =>
                (Mir.idx s612.1 s612.2).bind fun x631 =>
                (Mir.upd s612.1 s612.2 (Mir.w64 (x623 + 1))).bind fun x640 =>
                (Mir.idx x640 s612.2).bind fun x642 =>
                (Mir.idx a1.Vars s612.2).bind fun x649 =>
                (Mir.idx a0 x649).bind fun x656 =>
                if x642 < ((x656.length : Nat) : Int) then
                  some (.inr (x640, s612.2))
                else
                  (Mir.idx x640 s612.2).bind fun x670 =>
                  (Mir.upd x640 s612.2 0).bind fun x679 =>
                  some (.inl (x679, Mir.w64 (s612.2 - 1)))
              else
                some (.inr (s612.1, s612.2))
          : Option (List Int × Int)).bind fun (z596 : List Int × Int) =>
          if z596.2 < 0 then
            some (.inr z537)
          else
            some (.inl (z537, z596.1, z96, (.c82 y198)))
        )
noncomputable def m_domain_narrow (g : Nat) (a0 : List (List Int)) (a1 : List DLimit) : Option (List (List Int) × Bool) :=
  (Mir.made 24 ((a0.length : Nat) : Int) ([] : List Int)).bind fun x3 =>
  jx (J := List (List Int)) (A := List (List Int) × Bool) (
    Mir.Loop (S := List (List Int) × Nat) (Q := (List (List Int)) ⊕ (List (List Int) × Bool)) (x3, (0 : Nat)) fun s31 =>
      if ((s31.2 : Nat) : Int) < ((a0.length : Nat) : Int) then
        ((a0)[s31.2]?).bind fun x44 =>
        (Mir.push 8 ([] : List Int) x44).bind fun x60 =>
        ((s31.1)[s31.2]?).bind fun x63 =>
        (Mir.upd s31.1 (s31.2 : Int) x60).bind fun x80 =>
        if ((x44.length : Nat) : Int) = 0 then
          some (.inr (.inr (([] : List (List Int)), false)))
        else
          some (.inl (x80, s31.2 + 1))
      else
        some (.inr (.inl s31.1))
  ) fun z11 =>
  jx (J := List (List Int)) (A := List (List Int) × Bool) (
    Mir.Loop (S := List (List Int) × Bool) (Q := (List (List Int)) ⊕ (List (List Int) × Bool)) (z11, true) fun s105 =>
      if s105.2 = true then
        Mir.Loop (S := List (List Int) × Bool × Nat) (Q := (List (List Int) × Bool) ⊕ ((List (List Int)) ⊕ (List (List Int) × Bool))) (s105.1, false, (0 : Nat)) fun s128 =>
          if ((s128.2.2 : Nat) : Int) < ((a1.length : Nat) : Int) then
            jx (J := List (List Int) × Bool) (A := (List (List Int) × Bool × Nat) ⊕ ((List (List Int) × Bool) ⊕ ((List (List Int)) ⊕ (List (List Int) × Bool)))) (
              ((a1)[s128.2.2]?).bind fun x152 =>
              if ((x152.Vars.length : Nat) : Int) = 0 then
                jx (J := Unit) (A := (List (List Int) × Bool) ⊕ ((List (List Int) × Bool × Nat) ⊕ ((List (List Int) × Bool) ⊕ ((List (List Int)) ⊕ (List (List Int) × Bool))))) (
                  (m_domain_of g x152).bind fun q178 =>
                  ILimit.on q178
                    (
                      none
                    )
                    (fun y185 =>
                      (m_domain_apart_holds g (DApart.mk) ([] : List Int)).bind fun q192 =>
                      if q192 = true then
                        some (.inl ())
                      else
                        some (.inr (.inr (.inr (.inr (.inr (([] : List (List Int)), false))))))
                    )
                    (fun y186 =>
                      (m_domain_table_holds g y186 ([] : List Int)).bind fun q205 =>
                      if q205 = true then
                        some (.inl ())
                      else
                        some (.inr (.inr (.inr (.inr (.inr (([] : List (List Int)), false))))))
                    )
                    (fun y187 =>
                      (m_domain_sum_holds g y187 ([] : List Int)).bind fun q226 =>
                      if q226 = true then
                        some (.inl ())
                      else
                        some (.inr (.inr (.inr (.inr (.inr (([] : List (List Int)), false))))))
                    )
                ) fun z173 =>
                some (.inl (s128.1, s128.2.1))
              else
                (m_domain_support g s128.1 x152).bind fun q233 =>
                Mir.Loop (S := List (List Int) × Bool × Nat) (Q := (List (List Int) × Bool) ⊕ ((List (List Int) × Bool × Nat) ⊕ ((List (List Int) × Bool) ⊕ ((List (List Int)) ⊕ (List (List Int) × Bool))))) (s128.1, s128.2.1, (0 : Nat)) fun s251 =>
                  if ((s251.2.2 : Nat) : Int) < ((q233.length : Nat) : Int) then
                    ((q233)[s251.2.2]?).bind fun x264 =>
                    ((x152.Vars)[s251.2.2]?).bind fun x275 =>
                    (
                      (Mir.idx s251.1 x275).bind fun x290 =>
                      Mir.Loop (S := List Int × Nat) (Q := List Int) (([] : List Int), (0 : Nat)) fun s310 =>
                        if ((s310.2 : Nat) : Int) < ((x290.length : Nat) : Int) then
                          (
                            ((x290)[s310.2]?).bind fun x330 =>
                            ((x264)[s310.2]?).bind fun x337 =>
                            if x337 = true then
                              (Mir.push 8 s310.1 [x330]).bind fun x350 =>
                              some x350
                            else
                              some s310.1
                          : Option (List Int)).bind fun (z322 : List Int) =>
                          some (.inl (z322, s310.2 + 1))
                        else
                          some (.inr s310.1)
                    : Option (List Int)).bind fun (z282 : List Int) =>
                    if ((z282.length : Nat) : Int) = 0 then
                      some (.inr (.inr (.inr (.inr (.inr (([] : List (List Int)), false))))))
                    else
                      (
                        if s251.2.1 = true then
                          some true
                        else
                          (Mir.idx s251.1 x275).bind fun x362 =>
                          some (decide (((z282.length : Nat) : Int) < ((x362.length : Nat) : Int)))
                      : Option Bool).bind fun (z357 : Bool) =>
                      (Mir.idx s251.1 x275).bind fun x374 =>
                      (Mir.upd s251.1 x275 z282).bind fun x391 =>
                      some (.inl (x391, z357, s251.2.2 + 1))
                  else
                    some (.inr (.inl (s251.1, s251.2.1)))
            ) fun z141 =>
            some (.inl (z141.1, z141.2, s128.2.2 + 1))
          else
            some (.inr (.inl (s128.1, s128.2.1)))
      else
        some (.inr (.inl s105.1))
  ) fun z85 =>
  some (z85, true)
noncomputable def m_domain_Narrow (g : Nat) (a0 : DProblem) : Option (List (List Int) × Bool × Int) :=
  (m_domain_Validate g a0).bind fun q4 =>
  if q4 = 0 then
    (m_domain_isCostly g a0).bind fun q10 =>
    if q10 = true then
      some (([] : List (List Int)), false, (3 : Int))
    else
      (m_domain_narrow g a0.Doms a0.Limits).bind fun q16 =>
      some (q16.1, q16.2, (0 : Int))
  else
    some (([] : List (List Int)), false, q4)
noncomputable def m_ref01_SameInts (g : Nat) (a0 : List Int) (a1 : List Int) : Option Bool :=
  if ((a0.length : Nat) : Int) = ((a1.length : Nat) : Int) then
    jx (J := Unit) (A := Bool) (
      Mir.Loop (S := Nat) (Q := (Unit) ⊕ (Bool)) (0 : Nat) fun s9 =>
        if ((s9 : Nat) : Int) < ((a0.length : Nat) : Int) then
          ((a0)[s9]?).bind fun x14 =>
          ((a1)[s9]?).bind fun x21 =>
          if x14 = x21 then
            some (.inl (s9 + 1))
          else
            some (.inr (.inr false))
        else
          some (.inr (.inl ()))
    ) fun z5 =>
    some true
  else
    some false
noncomputable def m_ref01_SameRows (g : Nat) (a0 : List (List Int)) (a1 : List (List Int)) : Option Bool :=
  if ((a0.length : Nat) : Int) = ((a1.length : Nat) : Int) then
    jx (J := Unit) (A := Bool) (
      Mir.Loop (S := Nat) (Q := (Unit) ⊕ (Bool)) (0 : Nat) fun s12 =>
        if ((s12 : Nat) : Int) < ((a0.length : Nat) : Int) then
          ((a0)[s12]?).bind fun x19 =>
          ((a1)[s12]?).bind fun x30 =>
          (m_ref01_SameInts g x19 x30).bind fun q42 =>
          if q42 = true then
            some (.inl (s12 + 1))
          else
            some (.inr (.inr false))
        else
          some (.inr (.inl ()))
    ) fun z5 =>
    some true
  else
    some false
noncomputable def m_law11_known (g : Nat) : Option Bool :=
  (m_domain_Narrow g (DProblem.mk ([([1, 2, 3] : List Int), ([1, 2, 3] : List Int)] : List (List Int)) ([(DLimit.mk 0 ([0, 1] : List Int) ([1, 1] : List Int) 3 ([] : List (List Int)))] : List DLimit))).bind fun q32 =>
  (
    if q32.2.2 = 0 then
      if q32.2.1 = true then
        (m_ref01_SameRows g q32.1 ([([1, 2] : List Int), ([1, 2] : List Int)] : List (List Int))).bind fun q59 =>
        some q59
      else
        some false
    else
      some false
  : Option Bool).bind fun (z40 : Bool) =>
  some z40
noncomputable def m_law11_in (g : Nat) (a0 : List Int) (a1 : Int) : Option Bool :=
  jx (J := Unit) (A := Bool) (
    Mir.Loop (S := Nat) (Q := (Unit) ⊕ (Bool)) (0 : Nat) fun s6 =>
      if ((s6 : Nat) : Int) < ((a0.length : Nat) : Int) then
        ((a0)[s6]?).bind fun x11 =>
        if x11 = a1 then
          some (.inr (.inr true))
        else
          some (.inl (s6 + 1))
      else
        some (.inr (.inl ()))
  ) fun z2 =>
  some false
noncomputable def m_law11_DomainLess (g : Nat) (a0 : DProblem) (a1 : DLimit) : Option Bool :=
  (Mir.push 88 ([] : List DLimit) [a1]).bind fun x15 =>
  (
    Mir.Loop (S := List DLimit × Int) (Q := List DLimit) (x15, ((a0.Limits.length : Nat) : Int) - 1) fun s34 =>
      if s34.2 ≥ 0 then
        (Mir.idx a0.Limits s34.2).bind fun x45 =>
        (Mir.push 88 s34.1 [x45]).bind fun x71 =>
        some (.inl (x71, Mir.w64 (s34.2 - 1)))
      else
        some (.inr s34.1)
  : Option (List DLimit)).bind fun (z18 : List DLimit) =>
  (
    (m_domain_Validate g a0).bind fun q84 =>
    if q84 = 0 then
      (m_domain_Validate g (DProblem.mk a0.Doms z18)).bind fun q92 =>
      if q92 = 0 then
        (m_law11_isHeavy g (DProblem.mk a0.Doms z18)).bind fun q97 =>
        if q97 = true then
          some (z18, true)
        else
          (m_law11_isHeavy g a0).bind fun q104 =>
          some (z18, q104)
      else
        some (z18, true)
    else
      some (z18, true)
  : Option (List DLimit × Bool)).bind fun (z76 : List DLimit × Bool) =>
  if z76.2 = true then
    (m_law11_known g).bind fun q112 =>
    some q112
  else
    (m_domain_Narrow g a0).bind fun q117 =>
    (m_domain_Narrow g (DProblem.mk a0.Doms z76.1)).bind fun q125 =>
    (
      if q117.2.2 = 0 then
        some (!decide (q125.2.2 = 0))
      else
        some true
    : Option Bool).bind fun (z133 : Bool) =>
    if z133 = true then
      (m_law11_known g).bind fun q137 =>
      some q137
    else
      if q117.2.1 = true then
        (m_domain_Narrow g (DProblem.mk q117.1 a0.Limits)).bind fun q155 =>
        (
          if q155.2.2 = 0 then
            if q155.2.1 = true then
              (m_ref01_SameRows g q155.1 q117.1).bind fun q170 =>
              some (!q170)
            else
              some true
          else
            some true
        : Option Bool).bind fun (z163 : Bool) =>
        if z163 = true then
          some false
        else
          (Mir.sub z76.1 1 ((z76.1.length : Nat) : Int)).bind fun x181 =>
          (m_domain_Narrow g (DProblem.mk a0.Doms x181)).bind fun q187 =>
          (
            if q187.2.2 = 0 then
              if q187.2.1 = true then
                (m_ref01_SameRows g q187.1 q117.1).bind fun q202 =>
                some (!q202)
              else
                some true
            else
              some true
          : Option Bool).bind fun (z195 : Bool) =>
          if z195 = true then
            some false
          else
            if q125.2.1 = true then
              if ((q125.1.length : Nat) : Int) = ((q117.1.length : Nat) : Int) then
                jx (J := Unit) (A := Bool) (
                  Mir.Loop (S := Nat) (Q := (Unit) ⊕ (Bool)) (0 : Nat) fun s224 =>
                    if ((s224 : Nat) : Int) < ((q125.1.length : Nat) : Int) then
                      jx (J := Unit) (A := (Nat) ⊕ ((Unit) ⊕ (Bool))) (
                        Mir.Loop (S := Nat) (Q := (Unit) ⊕ ((Nat) ⊕ ((Unit) ⊕ (Bool)))) (0 : Nat) fun s238 =>
                          ((q125.1)[s224]?).bind fun x244 =>
                          if ((s238 : Nat) : Int) < ((x244.length : Nat) : Int) then
                            ((q117.1)[s224]?).bind fun x256 =>
                            ((q125.1)[s224]?).bind fun x267 =>
                            ((x267)[s238]?).bind fun x278 =>
                            (m_law11_in g x256 x278).bind fun q286 =>
                            if q286 = true then
                              some (.inl (s238 + 1))
                            else
                              some (.inr (.inr (.inr (.inr false))))
                          else
                            some (.inr (.inl ()))
                      ) fun z231 =>
                      some (.inl (s224 + 1))
                    else
                      some (.inr (.inl ()))
                ) fun z217 =>
                (m_law11_known g).bind fun q294 =>
                some q294
              else
                some false
            else
              (m_law11_known g).bind fun q210 =>
              some q210
      else
        (
          if q125.2.1 = true then
            some false
          else
            (m_law11_known g).bind fun q150 =>
            some q150
        : Option Bool).bind fun (z143 : Bool) =>
        some z143
end Go.Proofs.Ytopmcncaanjboaa
