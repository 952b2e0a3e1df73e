/- The functions that the law reaches, in plain words: what each gives for its arguments (none: not told). -/
import Derived.Test.YtopmcncaanjboaaSyPl
namespace Go.Proofs.Ytopmcncaanjboaa
open Go Go.Sy Go.RowKit
set_option linter.unusedVariables false
open Go.Mir
structure DLimit where
  Kind : Int
  Vars : List Int
  A : List Int
  B : Int
  Rows : List (List Int)
structure DProblem where
  Doms : List (List Int)
  Limits : List DLimit
structure DApart where
  mk ::
structure DTable where
  rows : List (List Int)
structure DSum where
  l : DLimit
inductive ILimit where
  | nil
  | c78 (x : DApart)
  | c80 (x : DTable)
  | c82 (x : DSum)
def ILimit.on {β : Type} (x : ILimit) (f0 : β) (f78 : DApart → β) (f80 : DTable → β) (f82 : DSum → β) : β := match x with
  | .nil => f0
  | .c78 y => f78 y
  | .c80 y => f80 y
  | .c82 y => f82 y
noncomputable def m_domain_isNumber (g : Nat) (a0 : Int) : Option Bool :=
  (
    if a0 ≥ (-1000000) then
      some (decide (a0 ≤ 1000000))
    else
      some false
  : Option Bool).bind fun (z1 : Bool) =>
  some z1
noncomputable def m_domain_rising (g : Nat) (a0 : List Int) : Option Bool :=
  jx (J := Unit) (A := Bool) (
    Mir.Loop (S := Nat) (Q := (Unit) ⊕ (Bool)) (1 : Nat) fun s6 =>
      if ((s6 : Nat) : Int) < ((a0.length : Nat) : Int) then
        (Mir.idx a0 (((s6 : Nat) : Int) - 1)).bind fun x11 =>
        ((a0)[s6]?).bind fun x18 =>
        if x11 ≥ x18 then
          some (.inr (.inr false))
        else
          some (.inl (s6 + 1))
      else
        some (.inr (.inl ()))
  ) fun z2 =>
  some true
noncomputable def m_domain_isLimit (g : Nat) (a0 : DProblem) (a1 : DLimit) : Option Bool :=
  (
    (m_domain_rising g a1.Vars).bind fun q12 =>
    if q12 = true then
      if a1.Kind < 0 then
        some true
      else
        if a1.Kind > 4 then
          some true
        else
          (m_domain_isNumber g a1.B).bind fun q20 =>
          some (!q20)
    else
      some true
  : Option Bool).bind fun (z8 : Bool) =>
  if z8 = true then
    some false
  else
    jx (J := Unit) (A := Bool) (
      Mir.Loop (S := Nat) (Q := (Unit) ⊕ (Bool)) (0 : Nat) fun s31 =>
        if ((s31 : Nat) : Int) < ((a1.Vars.length : Nat) : Int) then
          ((a1.Vars)[s31]?).bind fun x36 =>
          (
            if x36 < 0 then
              some true
            else
              some (decide (x36 ≥ ((a0.Doms.length : Nat) : Int)))
          : Option Bool).bind fun (z43 : Bool) =>
          if z43 = true then
            some (.inr (.inr false))
          else
            some (.inl (s31 + 1))
        else
          some (.inr (.inl ()))
    ) fun z27 =>
    (
      if a1.Kind ≤ 2 then
        if ((a1.A.length : Nat) : Int) = ((a1.Vars.length : Nat) : Int) then
          if a1.Kind = 4 then
            some false
          else
            some (decide (((a1.Rows.length : Nat) : Int) > 0))
        else
          some true
      else
        if ((a1.A.length : Nat) : Int) > 0 then
          some true
        else
          if a1.B = 0 then
            if a1.Kind = 4 then
              some false
            else
              some (decide (((a1.Rows.length : Nat) : Int) > 0))
          else
            some true
    : Option Bool).bind fun (z49 : Bool) =>
    if z49 = true then
      some false
    else
      jx (J := Unit) (A := Bool) (
        Mir.Loop (S := Nat) (Q := (Unit) ⊕ (Bool)) (0 : Nat) fun s68 =>
          if ((s68 : Nat) : Int) < ((a1.A.length : Nat) : Int) then
            ((a1.A)[s68]?).bind fun x75 =>
            (m_domain_isNumber g x75).bind fun q82 =>
            if q82 = true then
              some (.inl (s68 + 1))
            else
              some (.inr (.inr false))
          else
            some (.inr (.inl ()))
      ) fun z61 =>
      jx (J := Unit) (A := Bool) (
        Mir.Loop (S := Nat) (Q := (Unit) ⊕ (Bool)) (0 : Nat) fun s96 =>
          if ((s96 : Nat) : Int) < ((a1.Rows.length : Nat) : Int) then
            jx (J := Unit) (A := (Nat) ⊕ ((Unit) ⊕ (Bool))) (
              ((a1.Rows)[s96]?).bind fun x108 =>
              if ((x108.length : Nat) : Int) = ((a1.Vars.length : Nat) : Int) then
                Mir.Loop (S := Nat) (Q := (Unit) ⊕ ((Nat) ⊕ ((Unit) ⊕ (Bool)))) (0 : Nat) fun s123 =>
                  if ((s123 : Nat) : Int) < ((x108.length : Nat) : Int) then
                    ((x108)[s123]?).bind fun x130 =>
                    (m_domain_isNumber g x130).bind fun q137 =>
                    if q137 = true then
                      some (.inl (s123 + 1))
                    else
                      some (.inr (.inr (.inr (.inr false))))
                  else
                    some (.inr (.inl ()))
              else
                some (.inr (.inr (.inr false)))
            ) fun z103 =>
            some (.inl (s96 + 1))
          else
            some (.inr (.inl ()))
      ) fun z89 =>
      some true
noncomputable def m_domain_Validate (g : Nat) (a0 : DProblem) : Option Int :=
  (
    if ((a0.Doms.length : Nat) : Int) > 12 then
      some true
    else
      some (decide (((a0.Limits.length : Nat) : Int) > 24))
  : Option Bool).bind fun (z4 : Bool) =>
  if z4 = true then
    some (3 : Int)
  else
    jx (J := Unit) (A := Int) (
      Mir.Loop (S := Nat) (Q := (Unit) ⊕ (Int)) (0 : Nat) fun s13 =>
        if ((s13 : Nat) : Int) < ((a0.Doms.length : Nat) : Int) then
          ((a0.Doms)[s13]?).bind fun x18 =>
          if ((x18.length : Nat) : Int) > 30 then
            some (.inr (.inr (3 : Int)))
          else
            some (.inl (s13 + 1))
        else
          some (.inr (.inl ()))
    ) fun z9 =>
    jx (J := Unit) (A := Int) (
      Mir.Loop (S := Nat) (Q := (Unit) ⊕ (Int)) (0 : Nat) fun s36 =>
        if ((s36 : Nat) : Int) < ((a0.Limits.length : Nat) : Int) then
          ((a0.Limits)[s36]?).bind fun x41 =>
          (
            if ((x41.Vars.length : Nat) : Int) > 12 then
              some true
            else
              some (decide (((x41.Rows.length : Nat) : Int) > 64))
          : Option Bool).bind fun (z61 : Bool) =>
          if z61 = true then
            some (.inr (.inr (3 : Int)))
          else
            some (.inl (s36 + 1))
        else
          some (.inr (.inl ()))
    ) fun z32 =>
    jx (J := Unit) (A := Int) (
      Mir.Loop (S := Nat) (Q := (Unit) ⊕ (Int)) (0 : Nat) fun s74 =>
        if ((s74 : Nat) : Int) < ((a0.Doms.length : Nat) : Int) then
          ((a0.Doms)[s74]?).bind fun x81 =>
          jx (J := Unit) (A := (Nat) ⊕ ((Unit) ⊕ (Int))) (
            Mir.Loop (S := Nat) (Q := (Unit) ⊕ ((Nat) ⊕ ((Unit) ⊕ (Int)))) (0 : Nat) fun s99 =>
              if ((s99 : Nat) : Int) < ((x81.length : Nat) : Int) then
                ((x81)[s99]?).bind fun x106 =>
                (m_domain_isNumber g x106).bind fun q113 =>
                if q113 = true then
                  some (.inl (s99 + 1))
                else
                  some (.inr (.inr (.inr (.inr (1 : Int)))))
              else
                some (.inr (.inl ()))
          ) fun z92 =>
          (m_domain_rising g x81).bind fun q120 =>
          if q120 = true then
            some (.inl (s74 + 1))
          else
            some (.inr (.inr (1 : Int)))
        else
          some (.inr (.inl ()))
    ) fun z67 =>
    jx (J := Unit) (A := Int) (
      Mir.Loop (S := Nat) (Q := (Unit) ⊕ (Int)) (0 : Nat) fun s134 =>
        if ((s134 : Nat) : Int) < ((a0.Limits.length : Nat) : Int) then
          ((a0.Limits)[s134]?).bind fun x141 =>
          (m_domain_isLimit g a0 x141).bind fun q161 =>
          if q161 = true then
            some (.inl (s134 + 1))
          else
            some (.inr (.inr (1 : Int)))
        else
          some (.inr (.inl ()))
    ) fun z127 =>
    some (0 : Int)
noncomputable def m_ref11_isLarge (g : Nat) (a0 : DProblem) : Option Bool :=
  (
    if ((a0.Doms.length : Nat) : Int) > 12 then
      some true
    else
      some (decide (((a0.Limits.length : Nat) : Int) > 24))
  : Option Bool).bind fun (z4 : Bool) =>
  if z4 = true then
    some true
  else
    jx (J := Unit) (A := Bool) (
      Mir.Loop (S := Nat) (Q := (Unit) ⊕ (Bool)) (0 : Nat) fun s13 =>
        if ((s13 : Nat) : Int) < ((a0.Doms.length : Nat) : Int) then
          ((a0.Doms)[s13]?).bind fun x18 =>
          if ((x18.length : Nat) : Int) > 30 then
            some (.inr (.inr true))
          else
            some (.inl (s13 + 1))
        else
          some (.inr (.inl ()))
    ) fun z9 =>
    jx (J := Unit) (A := Bool) (
      Mir.Loop (S := Nat) (Q := (Unit) ⊕ (Bool)) (0 : Nat) fun s36 =>
        if ((s36 : Nat) : Int) < ((a0.Limits.length : Nat) : Int) then
          (
            ((a0.Limits)[s36]?).bind fun x43 =>
            if ((x43.Vars.length : Nat) : Int) > 12 then
              some true
            else
              ((a0.Limits)[s36]?).bind fun x63 =>
              some (decide (((x63.Rows.length : Nat) : Int) > 64))
          : Option Bool).bind fun (z41 : Bool) =>
          if z41 = true then
            some (.inr (.inr true))
          else
            some (.inl (s36 + 1))
        else
          some (.inr (.inl ()))
    ) fun z32 =>
    some false
noncomputable def m_ref11_isRow (g : Nat) (a0 : List Int) : Option Bool :=
  jx (J := Unit) (A := Bool) (
    Mir.Loop (S := Nat) (Q := (Unit) ⊕ (Bool)) (1 : Nat) fun s6 =>
      if ((s6 : Nat) : Int) < ((a0.length : Nat) : Int) then
        (Mir.idx a0 (((s6 : Nat) : Int) - 1)).bind fun x11 =>
        ((a0)[s6]?).bind fun x18 =>
        if x11 ≥ x18 then
          some (.inr (.inr false))
        else
          some (.inl (s6 + 1))
      else
        some (.inr (.inl ()))
  ) fun z2 =>
  some true
noncomputable def m_ref11_areNumbers (g : Nat) (a0 : List Int) : Option Bool :=
  jx (J := Unit) (A := Bool) (
    Mir.Loop (S := Nat) (Q := (Unit) ⊕ (Bool)) (0 : Nat) fun s6 =>
      if ((s6 : Nat) : Int) < ((a0.length : Nat) : Int) then
        (
          ((a0)[s6]?).bind fun x13 =>
          if x13 < (-1000000) then
            some true
          else
            ((a0)[s6]?).bind fun x21 =>
            some (decide (x21 > 1000000))
        : Option Bool).bind fun (z11 : Bool) =>
        if z11 = true then
          some (.inr (.inr false))
        else
          some (.inl (s6 + 1))
      else
        some (.inr (.inl ()))
  ) fun z2 =>
  some true
noncomputable def m_ref11_isLimit (g : Nat) (a0 : DLimit) (a1 : Int) : Option Bool :=
  (
    (m_ref11_isRow g a0.Vars).bind fun q9 =>
    if q9 = true then
      if a0.Kind < 0 then
        some true
      else
        if a0.Kind > 4 then
          some true
        else
          (m_ref11_areNumbers g a0.A).bind fun q17 =>
          if q17 = true then
            (m_ref11_areNumbers g ([a0.B] : List Int)).bind fun q25 =>
            some (!q25)
          else
            some true
    else
      some true
  : Option Bool).bind fun (z5 : Bool) =>
  if z5 = true then
    some false
  else
    jx (J := Unit) (A := Bool) (
      Mir.Loop (S := Nat) (Q := (Unit) ⊕ (Bool)) (0 : Nat) fun s37 =>
        if ((s37 : Nat) : Int) < ((a0.Vars.length : Nat) : Int) then
          (
            ((a0.Vars)[s37]?).bind fun x44 =>
            if x44 < 0 then
              some true
            else
              ((a0.Vars)[s37]?).bind fun x52 =>
              some (decide (x52 ≥ a1))
          : Option Bool).bind fun (z42 : Bool) =>
          if z42 = true then
            some (.inr (.inr false))
          else
            some (.inl (s37 + 1))
        else
          some (.inr (.inl ()))
    ) fun z33 =>
    jx (J := Unit) (A := Bool) (
      Mir.Loop (S := Nat) (Q := (Unit) ⊕ (Bool)) (0 : Nat) fun s69 =>
        if ((s69 : Nat) : Int) < ((a0.Rows.length : Nat) : Int) then
          (
            ((a0.Rows)[s69]?).bind fun x80 =>
            if ((x80.length : Nat) : Int) = ((a0.Vars.length : Nat) : Int) then
              ((a0.Rows)[s69]?).bind fun x92 =>
              (m_ref11_areNumbers g x92).bind fun q104 =>
              some (!q104)
            else
              some true
          : Option Bool).bind fun (z76 : Bool) =>
          if z76 = true then
            some (.inr (.inr false))
          else
            some (.inl (s69 + 1))
        else
          some (.inr (.inl ()))
    ) fun z62 =>
    if a0.Kind ≤ 2 then
      (
        if ((a0.A.length : Nat) : Int) = ((a0.Vars.length : Nat) : Int) then
          some (decide (((a0.Rows.length : Nat) : Int) = 0))
        else
          some false
      : Option Bool).bind fun (z113 : Bool) =>
      some z113
    else
      (
        if ((a0.A.length : Nat) : Int) = 0 then
          if a0.B = 0 then
            if a0.Kind = 4 then
              some true
            else
              some (decide (((a0.Rows.length : Nat) : Int) = 0))
          else
            some false
        else
          some false
      : Option Bool).bind fun (z117 : Bool) =>
      some z117
noncomputable def m_ref11_Validate (g : Nat) (a0 : DProblem) : Option Int :=
  (m_ref11_isLarge g a0).bind fun q4 =>
  if q4 = true then
    some (3 : Int)
  else
    jx (J := Unit) (A := Int) (
      Mir.Loop (S := Nat) (Q := (Unit) ⊕ (Int)) (0 : Nat) fun s17 =>
        if ((s17 : Nat) : Int) < ((a0.Doms.length : Nat) : Int) then
          (
            ((a0.Doms)[s17]?).bind fun x28 =>
            (m_ref11_isRow g x28).bind fun q39 =>
            if q39 = true then
              ((a0.Doms)[s17]?).bind fun x45 =>
              (m_ref11_areNumbers g x45).bind fun q56 =>
              some (!q56)
            else
              some true
          : Option Bool).bind fun (z24 : Bool) =>
          if z24 = true then
            some (.inr (.inr (1 : Int)))
          else
            some (.inl (s17 + 1))
        else
          some (.inr (.inl ()))
    ) fun z10 =>
    jx (J := Unit) (A := Int) (
      Mir.Loop (S := Nat) (Q := (Unit) ⊕ (Int)) (0 : Nat) fun s71 =>
        if ((s71 : Nat) : Int) < ((a0.Limits.length : Nat) : Int) then
          ((a0.Limits)[s71]?).bind fun x78 =>
          (m_ref11_isLimit g x78 ((a0.Doms.length : Nat) : Int)).bind fun q98 =>
          if q98 = true then
            some (.inl (s71 + 1))
          else
            some (.inr (.inr (1 : Int)))
        else
          some (.inr (.inl ()))
    ) fun z64 =>
    some (0 : Int)
noncomputable def m_ref11_among (g : Nat) (a0 : List (List Int)) (a1 : DLimit) : Option (List (List Int)) :=
  (
    Mir.Loop (S := List (List Int) × Nat) (Q := List (List Int)) (([] : List (List Int)), (0 : Nat)) fun s22 =>
      if ((s22.2 : Nat) : Int) < ((a1.Vars.length : Nat) : Int) then
        ((a1.Vars)[s22.2]?).bind fun x34 =>
        (Mir.idx a0 x34).bind fun x41 =>
        (Mir.push 24 s22.1 [x41]).bind fun x57 =>
        some (.inl (x57, s22.2 + 1))
      else
        some (.inr s22.1)
  : Option (List (List Int))).bind fun (z6 : List (List Int)) =>
  some z6
noncomputable def m_ref11_Combinations (g : Nat) (a0 : List (List Int)) : Option Int :=
  jx (J := Unit) (A := Int) (
    Mir.Loop (S := Nat) (Q := (Unit) ⊕ (Int)) (0 : Nat) fun s6 =>
      if ((s6 : Nat) : Int) < ((a0.length : Nat) : Int) then
        ((a0)[s6]?).bind fun x11 =>
        if ((x11.length : Nat) : Int) = 0 then
          some (.inr (.inr (0 : Int)))
        else
          some (.inl (s6 + 1))
      else
        some (.inr (.inl ()))
  ) fun z2 =>
  jx (J := Int) (A := Int) (
    Mir.Loop (S := Int × Nat) (Q := (Int) ⊕ (Int)) ((1 : Int), (0 : Nat)) fun s30 =>
      if ((s30.2 : Nat) : Int) < ((a0.length : Nat) : Int) then
        ((a0)[s30.2]?).bind fun x35 =>
        if Mir.w64 (s30.1 * ((x35.length : Nat) : Int)) > 20000 then
          some (.inr (.inr (20001 : Int)))
        else
          some (.inl (Mir.w64 (s30.1 * ((x35.length : Nat) : Int)), s30.2 + 1))
      else
        some (.inr (.inl s30.1))
  ) fun z25 =>
  some z25
noncomputable def m_ref11_IsCostly (g : Nat) (a0 : DProblem) : Option Bool :=
  jx (J := Unit) (A := Bool) (
    Mir.Loop (S := Nat) (Q := (Unit) ⊕ (Bool)) (0 : Nat) fun s11 =>
      if ((s11 : Nat) : Int) < ((a0.Limits.length : Nat) : Int) then
        (
          ((a0.Limits)[s11]?).bind fun x22 =>
          if ((x22.Vars.length : Nat) : Int) > 3 then
            ((a0.Limits)[s11]?).bind fun x42 =>
            (m_ref11_among g a0.Doms x42).bind fun q62 =>
            (m_ref11_Combinations g q62).bind fun q71 =>
            some (decide (q71 > 20000))
          else
            some false
        : Option Bool).bind fun (z18 : Bool) =>
        if z18 = true then
          some (.inr (.inr true))
        else
          some (.inl (s11 + 1))
      else
        some (.inr (.inl ()))
  ) fun z4 =>
  some false
noncomputable def m_law11_work (g : Nat) (a0 : DProblem) : Option Int :=
  (
    Mir.Loop (S := Int × Nat) (Q := Int) ((1 : Int), (0 : Nat)) fun s8 =>
      if ((s8.2 : Nat) : Int) < ((a0.Limits.length : Nat) : Int) then
        (
          Mir.Loop (S := Int × Nat) (Q := Int) ((1 : Int), (0 : Nat)) fun s17 =>
            ((a0.Limits)[s8.2]?).bind fun x21 =>
            if ((s17.2 : Nat) : Int) < ((x21.Vars.length : Nat) : Int) then
              (
                ((a0.Limits)[s8.2]?).bind fun x43 =>
                ((x43.Vars)[s17.2]?).bind fun x62 =>
                (
                  if x62 ≥ 0 then
                    if x62 < ((a0.Doms.length : Nat) : Int) then
                      some (decide (s17.1 < 1048576))
                    else
                      some false
                  else
                    some false
                : Option Bool).bind fun (z69 : Bool) =>
                if z69 = true then
                  (Mir.idx a0.Doms x62).bind fun x74 =>
                  some (Mir.w64 (s17.1 * ((x74.length + 1 : Nat) : Int)))
                else
                  some s17.1
              : Option Int).bind fun (z41 : Int) =>
              some (.inl (z41, s17.2 + 1))
            else
              some (.inr s17.1)
        : Option Int).bind fun (z13 : Int) =>
        some (.inl (Mir.w64 (s8.1 + z13), s8.2 + 1))
      else
        some (.inr s8.1)
  : Option Int).bind fun (z4 : Int) =>
  some z4
noncomputable def m_law11_isHeavy (g : Nat) (a0 : DProblem) : Option Bool :=
  (
    (m_ref11_Validate g a0).bind fun q8 =>
    if q8 = 0 then
      (m_ref11_IsCostly g a0).bind fun q13 =>
      if q13 = true then
        some false
      else
        (m_law11_work g a0).bind fun q20 =>
        some (decide (q20 > 60000))
    else
      some false
  : Option Bool).bind fun (z4 : Bool) =>
  some z4
noncomputable def m_law11_tuples (g : Nat) (a0 : DProblem) : Option Int :=
  (m_ref11_Combinations g a0.Doms).bind fun q4 =>
  some q4
noncomputable def m_domain_combinations (g : Nat) (a0 : List (List Int)) (a1 : List Int) : Option Int :=
  jx (J := Int) (A := Int) (
    Mir.Loop (S := Int × Nat) (Q := (Int) ⊕ (Int)) ((1 : Int), (0 : Nat)) fun s8 =>
      if ((s8.2 : Nat) : Int) < ((a1.length : Nat) : Int) then
        ((a1)[s8.2]?).bind fun x13 =>
        (Mir.idx a0 x13).bind fun x20 =>
        if Mir.w64 (s8.1 * ((x20.length : Nat) : Int)) > 20000 then
          some (.inr (.inr (20001 : Int)))
        else
          some (.inl (Mir.w64 (s8.1 * ((x20.length : Nat) : Int)), s8.2 + 1))
      else
        some (.inr (.inl s8.1))
  ) fun z3 =>
  some z3
noncomputable def m_domain_isCostly (g : Nat) (a0 : DProblem) : Option Bool :=
  jx (J := Unit) (A := Bool) (
    Mir.Loop (S := Nat) (Q := (Unit) ⊕ (Bool)) (0 : Nat) fun s11 =>
      if ((s11 : Nat) : Int) < ((a0.Limits.length : Nat) : Int) then
        ((a0.Limits)[s11]?).bind fun x18 =>
        (
          if ((x18.Vars.length : Nat) : Int) > 3 then
            (m_domain_combinations g a0.Doms x18.Vars).bind fun q43 =>
            some (decide (q43 > 20000))
          else
            some false
        : Option Bool).bind fun (z38 : Bool) =>
        if z38 = true then
          some (.inr (.inr true))
        else
          some (.inl (s11 + 1))
      else
        some (.inr (.inl ()))
  ) fun z4 =>
  some false
noncomputable def m_domain_of (g : Nat) (a0 : DLimit) : Option ILimit :=
  if a0.Kind = 3 then
    some (.c78 (DApart.mk))
  else
    if a0.Kind = 4 then
      some (.c80 (DTable.mk a0.Rows))
    else
      some (.c82 (DSum.mk a0))
noncomputable def m_domain_apart_holds (g : Nat) (a0 : DApart) (a1 : List Int) : Option Bool :=
  jx (J := Unit) (A := Bool) (
    Mir.Loop (S := Nat) (Q := (Unit) ⊕ (Bool)) (0 : Nat) fun s7 =>
      if ((s7 : Nat) : Int) < ((a1.length : Nat) : Int) then
        jx (J := Unit) (A := (Nat) ⊕ ((Unit) ⊕ (Bool))) (
          ((a1)[s7]?).bind fun x15 =>
          (Mir.sub a1 0 ((s7 : Nat) : Int)).bind fun x26 =>
          Mir.Loop (S := Nat) (Q := (Unit) ⊕ ((Nat) ⊕ ((Unit) ⊕ (Bool)))) (0 : Nat) fun s30 =>
            if ((s30 : Nat) : Int) < ((x26.length : Nat) : Int) then
              ((x26)[s30]?).bind fun x35 =>
              if x15 = x35 then
                some (.inr (.inr (.inr (.inr false))))
              else
                some (.inl (s30 + 1))
            else
              some (.inr (.inl ()))
        ) fun z12 =>
        some (.inl (s7 + 1))
      else
        some (.inr (.inl ()))
  ) fun z3 =>
  some true
noncomputable def m_domain_table_holds (g : Nat) (a0 : DTable) (a1 : List Int) : Option Bool :=
  jx (J := Unit) (A := Bool) (
    Mir.Loop (S := Nat) (Q := (Unit) ⊕ (Bool)) (0 : Nat) fun s8 =>
      if ((s8 : Nat) : Int) < ((a0.rows.length : Nat) : Int) then
        ((a0.rows)[s8]?).bind fun x13 =>
        (
          Mir.Loop (S := Bool × Nat) (Q := Bool) (true, (0 : Nat)) fun s28 =>
            if ((s28.2 : Nat) : Int) < ((a1.length : Nat) : Int) then
              (
                ((a1)[s28.2]?).bind fun x35 =>
                if s28.1 = true then
                  ((x13)[s28.2]?).bind fun x44 =>
                  some (decide (x44 = x35))
                else
                  some false
              : Option Bool).bind fun (z33 : Bool) =>
              some (.inl (z33, s28.2 + 1))
            else
              some (.inr s28.1)
        : Option Bool).bind fun (z24 : Bool) =>
        if z24 = true then
          some (.inr (.inr true))
        else
          some (.inl (s8 + 1))
      else
        some (.inr (.inl ()))
  ) fun z4 =>
  some false
noncomputable def m_domain_sum_holds (g : Nat) (a0 : DSum) (a1 : List Int) : Option Bool :=
  (
    Mir.Loop (S := Int × Nat) (Q := Int) ((0 : Int), (0 : Nat)) fun s10 =>
      if ((s10.2 : Nat) : Int) < ((a1.length : Nat) : Int) then
        ((a1)[s10.2]?).bind fun x15 =>
        ((a0.l.A)[s10.2]?).bind fun x22 =>
        some (.inl (Mir.w64 (s10.1 + (Mir.w64 (x22 * x15))), s10.2 + 1))
      else
        some (.inr s10.1)
  : Option Int).bind fun (z6 : Int) =>
  if a0.l.Kind = 0 then
    some (decide (z6 ≤ a0.l.B))
  else
    if a0.l.Kind = 1 then
      some (decide (z6 = a0.l.B))
    else
      some (!decide (z6 = a0.l.B))
noncomputable def m_domain_isEmpty (g : Nat) (a0 : ILimit) : Option Bool :=
  jx (J := Unit) (A := Bool) (
    ILimit.on a0
      (
        some (.inl ())
      )
      (fun y5 =>
        some (.inl ())
      )
      (fun y6 =>
        some (.inr (decide (((y6.rows.length : Nat) : Int) = 0)))
      )
      (fun y7 =>
        some (.inl ())
      )
  ) fun z1 =>
  some false
noncomputable def m_domain_support (g : Nat) (a0 : List (List Int)) (a1 : DLimit) : Option (List (List Bool)) :=
  (Mir.made 30 ((a1.Vars.length : Nat) : Int) (List.replicate 30 false)).bind fun x6 =>
  (Mir.made 8 ((a1.Vars.length : Nat) : Int) (0 : Int)).bind fun x14 =>
  (Mir.made 8 ((a1.Vars.length : Nat) : Int) (0 : Int)).bind fun x22 =>
  (m_domain_of g a1).bind fun q30 =>
  (m_domain_isEmpty g q30).bind fun q36 =>
  if q36 = true then
    some x6
  else
    Mir.Loop (S := List (List Bool) × List Int × List Int × ILimit) (Q := List (List Bool)) (x6, x14, x22, q30) fun s70 =>
      jx (J := List Int) (A := (List (List Bool) × List Int × List Int × ILimit) ⊕ (List (List Bool))) (
        Mir.Loop (S := List Int × Nat) (Q := (List Int) ⊕ ((List (List Bool) × List Int × List Int × ILimit) ⊕ (List (List Bool)))) (s70.2.2.1, (0 : Nat)) fun s113 =>
          if ((s113.2 : Nat) : Int) < ((a1.Vars.length : Nat) : Int) then
            ((a1.Vars)[s113.2]?).bind fun x124 =>
            ((s70.2.1)[s113.2]?).bind fun x131 =>
            (Mir.idx a0 x124).bind fun x139 =>
            if x131 ≥ ((x139.length : Nat) : Int) then
              some (.inr (.inr (.inr s70.1)))
            else
              (Mir.idx a0 x124).bind fun x156 =>
              ((s70.2.1)[s113.2]?).bind fun x167 =>
              (Mir.idx x156 x167).bind fun x174 =>
              ((s113.1)[s113.2]?).bind fun x181 =>
              (Mir.upd s113.1 (s113.2 : Int) x174).bind fun x192 =>
              some (.inl (x192, s113.2 + 1))
          else
            some (.inr (.inl s113.1))
      ) fun z96 =>
      ILimit.on s70.2.2.2
        (
          none
        )
        (fun y196 =>
          (m_domain_apart_holds g (DApart.mk) z96).bind fun q203 =>
          (
            if q203 = true then
              Mir.Loop (S := List (List Bool) × Nat) (Q := List (List Bool)) (s70.1, (0 : Nat)) fun s224 =>
                if ((s224.2 : Nat) : Int) < ((s70.2.1.length : Nat) : Int) then
                  ((s70.2.1)[s224.2]?).bind fun x235 =>
                  ((s224.1)[s224.2]?).bind fun x243 =>
                  (Mir.idx x243 x235).bind fun x253 =>
                  (Mir.upd x243 x235 true).bind fun x258 =>
                  (Mir.upd s224.1 (s224.2 : Int) x258).bind fun x260 =>
                  some (.inl (x260, s224.2 + 1))
                else
                  some (.inr s224.1)
            else
              some s70.1
          : Option (List (List Bool))).bind fun (z207 : List (List Bool)) =>
          (
            Mir.Loop (S := List Int × Int) (Q := List Int × Int) (s70.2.1, ((s70.2.1.length : Nat) : Int) - 1) fun s282 =>
              if s282.2 ≥ 0 then
                (Mir.idx s282.1 s282.2).bind fun x293 =>
                (Mir.idx s282.1 s282.2).bind fun x301 =>
                (Mir.upd s282.1 s282.2 (Mir.w64 (x293 + 1))).bind fun x310 =>
                (Mir.idx x310 s282.2).bind fun x312 =>
                (Mir.idx a1.Vars s282.2).bind fun x319 =>
                (Mir.idx a0 x319).bind fun x326 =>
                if x312 < ((x326.length : Nat) : Int) then
                  some (.inr (x310, s282.2))
                else
                  (Mir.idx x310 s282.2).bind fun x340 =>
                  (Mir.upd x310 s282.2 0).bind fun x349 =>
                  some (.inl (x349, Mir.w64 (s282.2 - 1)))
              else
                some (.inr (s282.1, s282.2))
          : Option (List Int × Int)).bind fun (z266 : List Int × Int) =>
          if z266.2 < 0 then
            some (.inr z207)
          else
            some (.inl (z207, z266.1, z96, (.c78 (DApart.mk))))
        )
        (fun y197 =>
          (m_domain_table_holds g y197 z96).bind fun q364 =>
          (
            if q364 = true then
              Mir.Loop (S := List (List Bool) × Nat) (Q := List (List Bool)) (s70.1, (0 : Nat)) fun s385 =>
                if ((s385.2 : Nat) : Int) < ((s70.2.1.length : Nat) : Int) then
                  ((s70.2.1)[s385.2]?).bind fun x396 =>
                  ((s385.1)[s385.2]?).bind fun x404 =>
                  (Mir.idx x404 x396).bind fun x414 =>
                  (Mir.upd x404 x396 true).bind fun x419 =>
                  (Mir.upd s385.1 (s385.2 : Int) x419).bind fun x421 =>
                  some (.inl (x421, s385.2 + 1))
                else
                  some (.inr s385.1)
            else
              some s70.1
          : Option (List (List Bool))).bind fun (z368 : List (List Bool)) =>
          (
            Mir.Loop (S := List Int × Int) (Q := List Int × Int) (s70.2.1, ((s70.2.1.length : Nat) : Int) - 1) fun s443 =>
              if s443.2 ≥ 0 then
                (Mir.idx s443.1 s443.2).bind fun x454 =>
                (Mir.idx s443.1 s443.2).bind fun x462 =>
                (Mir.upd s443.1 s443.2 (Mir.w64 (x454 + 1))).bind fun x471 =>
                (Mir.idx x471 s443.2).bind fun x473 =>
                (Mir.idx a1.Vars s443.2).bind fun x480 =>
                (Mir.idx a0 x480).bind fun x487 =>
                if x473 < ((x487.length : Nat) : Int) then
                  some (.inr (x471, s443.2))
                else
                  (Mir.idx x471 s443.2).bind fun x501 =>
                  (Mir.upd x471 s443.2 0).bind fun x510 =>
                  some (.inl (x510, Mir.w64 (s443.2 - 1)))
              else
                some (.inr (s443.1, s443.2))
          : Option (List Int × Int)).bind fun (z427 : List Int × Int) =>
          if z427.2 < 0 then
            some (.inr z368)
          else
            some (.inl (z368, z427.1, z96, (.c80 y197)))
        )
        (fun y198 =>
          (m_domain_sum_holds g y198 z96).bind fun q533 =>
          (
            if q533 = true then
              Mir.Loop (S := List (List Bool) × Nat) (Q := List (List Bool)) (s70.1, (0 : Nat)) fun s554 =>
                if ((s554.2 : Nat) : Int) < ((s70.2.1.length : Nat) : Int) then
                  ((s70.2.1)[s554.2]?).bind fun x565 =>
                  ((s554.1)[s554.2]?).bind fun x573 =>
                  (Mir.idx x573 x565).bind fun x583 =>
                  (Mir.upd x573 x565 true).bind fun x588 =>
                  (Mir.upd s554.1 (s554.2 : Int) x588).bind fun x590 =>
                  some (.inl (x590, s554.2 + 1))
                else
                  some (.inr s554.1)
            else
              some s70.1
          : Option (List (List Bool))).bind fun (z537 : List (List Bool)) =>
          (
            Mir.Loop (S := List Int × Int) (Q := List Int × Int) (s70.2.1, ((s70.2.1.length : Nat) : Int) - 1) fun s612 =>
              if s612.2 ≥ 0 then
                (Mir.idx s612.1 s612.2).bind fun x623 =>
                (Mir.idx s612.1 s612.2).bind fun x631 =>
                (Mir.upd s612.1 s612.2 (Mir.w64 (x623 + 1))).bind fun x640 =>
                (Mir.idx x640 s612.2).bind fun x642 =>
                (Mir.idx a1.Vars s612.2).bind fun x649 =>
                (Mir.idx a0 x649).bind fun x656 =>
                if x642 < ((x656.length : Nat) : Int) then
                  some (.inr (x640, s612.2))
                else
                  (Mir.idx x640 s612.2).bind fun x670 =>
                  (Mir.upd x640 s612.2 0).bind fun x679 =>
                  some (.inl (x679, Mir.w64 (s612.2 - 1)))
              else
                some (.inr (s612.1, s612.2))
          : Option (List Int × Int)).bind fun (z596 : List Int × Int) =>
          if z596.2 < 0 then
            some (.inr z537)
          else
            some (.inl (z537, z596.1, z96, (.c82 y198)))
        )
noncomputable def m_domain_narrow (g : Nat) (a0 : List (List Int)) (a1 : List DLimit) : Option (List (List Int) × Bool) :=
  (Mir.made 24 ((a0.length : Nat) : Int) ([] : List Int)).bind fun x3 =>
  jx (J := List (List Int)) (A := List (List Int) × Bool) (
    Mir.Loop (S := List (List Int) × Nat) (Q := (List (List Int)) ⊕ (List (List Int) × Bool)) (x3, (0 : Nat)) fun s31 =>
      if ((s31.2 : Nat) : Int) < ((a0.length : Nat) : Int) then
        ((a0)[s31.2]?).bind fun x44 =>
        (Mir.push 8 ([] : List Int) x44).bind fun x60 =>
        ((s31.1)[s31.2]?).bind fun x63 =>
        (Mir.upd s31.1 (s31.2 : Int) x60).bind fun x80 =>
        if ((x44.length : Nat) : Int) = 0 then
          some (.inr (.inr (([] : List (List Int)), false)))
        else
          some (.inl (x80, s31.2 + 1))
      else
        some (.inr (.inl s31.1))
  ) fun z11 =>
  jx (J := List (List Int)) (A := List (List Int) × Bool) (
    Mir.Loop (S := List (List Int) × Bool) (Q := (List (List Int)) ⊕ (List (List Int) × Bool)) (z11, true) fun s105 =>
      if s105.2 = true then
        Mir.Loop (S := List (List Int) × Bool × Nat) (Q := (List (List Int) × Bool) ⊕ ((List (List Int)) ⊕ (List (List Int) × Bool))) (s105.1, false, (0 : Nat)) fun s128 =>
          if ((s128.2.2 : Nat) : Int) < ((a1.length : Nat) : Int) then
            jx (J := List (List Int) × Bool) (A := (List (List Int) × Bool × Nat) ⊕ ((List (List Int) × Bool) ⊕ ((List (List Int)) ⊕ (List (List Int) × Bool)))) (
              ((a1)[s128.2.2]?).bind fun x152 =>
              if ((x152.Vars.length : Nat) : Int) = 0 then
                jx (J := Unit) (A := (List (List Int) × Bool) ⊕ ((List (List Int) × Bool × Nat) ⊕ ((List (List Int) × Bool) ⊕ ((List (List Int)) ⊕ (List (List Int) × Bool))))) (
                  (m_domain_of g x152).bind fun q178 =>
                  ILimit.on q178
                    (
                      none
                    )
                    (fun y185 =>
                      (m_domain_apart_holds g (DApart.mk) ([] : List Int)).bind fun q192 =>
                      if q192 = true then
                        some (.inl ())
                      else
                        some (.inr (.inr (.inr (.inr (.inr (([] : List (List Int)), false))))))
                    )
                    (fun y186 =>
                      (m_domain_table_holds g y186 ([] : List Int)).bind fun q205 =>
                      if q205 = true then
                        some (.inl ())
                      else
                        some (.inr (.inr (.inr (.inr (.inr (([] : List (List Int)), false))))))
                    )
                    (fun y187 =>
                      (m_domain_sum_holds g y187 ([] : List Int)).bind fun q226 =>
                      if q226 = true then
                        some (.inl ())
                      else
                        some (.inr (.inr (.inr (.inr (.inr (([] : List (List Int)), false))))))
                    )
                ) fun z173 =>
                some (.inl (s128.1, s128.2.1))
              else
                (m_domain_support g s128.1 x152).bind fun q233 =>
                Mir.Loop (S := List (List Int) × Bool × Nat) (Q := (List (List Int) × Bool) ⊕ ((List (List Int) × Bool × Nat) ⊕ ((List (List Int) × Bool) ⊕ ((List (List Int)) ⊕ (List (List Int) × Bool))))) (s128.1, s128.2.1, (0 : Nat)) fun s251 =>
                  if ((s251.2.2 : Nat) : Int) < ((q233.length : Nat) : Int) then
                    ((q233)[s251.2.2]?).bind fun x264 =>
                    ((x152.Vars)[s251.2.2]?).bind fun x275 =>
                    (
                      (Mir.idx s251.1 x275).bind fun x290 =>
                      Mir.Loop (S := List Int × Nat) (Q := List Int) (([] : List Int), (0 : Nat)) fun s310 =>
                        if ((s310.2 : Nat) : Int) < ((x290.length : Nat) : Int) then
                          (
                            ((x290)[s310.2]?).bind fun x330 =>
                            ((x264)[s310.2]?).bind fun x337 =>
                            if x337 = true then
                              (Mir.push 8 s310.1 [x330]).bind fun x350 =>
                              some x350
                            else
                              some s310.1
                          : Option (List Int)).bind fun (z322 : List Int) =>
                          some (.inl (z322, s310.2 + 1))
                        else
                          some (.inr s310.1)
                    : Option (List Int)).bind fun (z282 : List Int) =>
                    if ((z282.length : Nat) : Int) = 0 then
                      some (.inr (.inr (.inr (.inr (.inr (([] : List (List Int)), false))))))
                    else
                      (
                        if s251.2.1 = true then
                          some true
                        else
                          (Mir.idx s251.1 x275).bind fun x362 =>
                          some (decide (((z282.length : Nat) : Int) < ((x362.length : Nat) : Int)))
                      : Option Bool).bind fun (z357 : Bool) =>
                      (Mir.idx s251.1 x275).bind fun x374 =>
                      (Mir.upd s251.1 x275 z282).bind fun x391 =>
                      some (.inl (x391, z357, s251.2.2 + 1))
                  else
                    some (.inr (.inl (s251.1, s251.2.1)))
            ) fun z141 =>
            some (.inl (z141.1, z141.2, s128.2.2 + 1))
          else
            some (.inr (.inl (s128.1, s128.2.1)))
      else
        some (.inr (.inl s105.1))
  ) fun z85 =>
  some (z85, true)
noncomputable def m_domain_Narrow (g : Nat) (a0 : DProblem) : Option (List (List Int) × Bool × Int) :=
  (m_domain_Validate g a0).bind fun q4 =>
  if q4 = 0 then
    (m_domain_isCostly g a0).bind fun q10 =>
    if q10 = true then
      some (([] : List (List Int)), false, (3 : Int))
    else
      (m_domain_narrow g a0.Doms a0.Limits).bind fun q16 =>
      some (q16.1, q16.2, (0 : Int))
  else
    some (([] : List (List Int)), false, q4)
noncomputable def m_ref01_SameInts (g : Nat) (a0 : List Int) (a1 : List Int) : Option Bool :=
  if ((a0.length : Nat) : Int) = ((a1.length : Nat) : Int) then
    jx (J := Unit) (A := Bool) (
      Mir.Loop (S := Nat) (Q := (Unit) ⊕ (Bool)) (0 : Nat) fun s9 =>
        if ((s9 : Nat) : Int) < ((a0.length : Nat) : Int) then
          ((a0)[s9]?).bind fun x14 =>
          ((a1)[s9]?).bind fun x21 =>
          if x14 = x21 then
            some (.inl (s9 + 1))
          else
            some (.inr (.inr false))
        else
          some (.inr (.inl ()))
    ) fun z5 =>
    some true
  else
    some false
noncomputable def m_ref01_SameRows (g : Nat) (a0 : List (List Int)) (a1 : List (List Int)) : Option Bool :=
  if ((a0.length : Nat) : Int) = ((a1.length : Nat) : Int) then
    jx (J := Unit) (A := Bool) (
      Mir.Loop (S := Nat) (Q := (Unit) ⊕ (Bool)) (0 : Nat) fun s12 =>
        if ((s12 : Nat) : Int) < ((a0.length : Nat) : Int) then
          ((a0)[s12]?).bind fun x19 =>
          ((a1)[s12]?).bind fun x30 =>
          (m_ref01_SameInts g x19 x30).bind fun q42 =>
          if q42 = true then
            some (.inl (s12 + 1))
          else
            some (.inr (.inr false))
        else
          some (.inr (.inl ()))
    ) fun z5 =>
    some true
  else
    some false
noncomputable def m_law11_known (g : Nat) : Option Bool :=
  (m_domain_Narrow g (DProblem.mk ([([1, 2, 3] : List Int), ([1, 2, 3] : List Int)] : List (List Int)) ([(DLimit.mk 0 ([0, 1] : List Int) ([1, 1] : List Int) 3 ([] : List (List Int)))] : List DLimit))).bind fun q32 =>
  (
    if q32.2.2 = 0 then
      if q32.2.1 = true then
        (m_ref01_SameRows g q32.1 ([([1, 2] : List Int), ([1, 2] : List Int)] : List (List Int))).bind fun q59 =>
        some q59
      else
        some false
    else
      some false
  : Option Bool).bind fun (z40 : Bool) =>
  some z40
noncomputable def m_ref11_of (g : Nat) (a0 : DLimit) (a1 : List Int) : Option (List Int) :=
  (
    Mir.Loop (S := List Int × Nat) (Q := List Int) (([] : List Int), (0 : Nat)) fun s22 =>
      if ((s22.2 : Nat) : Int) < ((a0.Vars.length : Nat) : Int) then
        ((a0.Vars)[s22.2]?).bind fun x34 =>
        (Mir.idx a1 x34).bind fun x41 =>
        (Mir.push 8 s22.1 [x41]).bind fun x53 =>
        some (.inl (x53, s22.2 + 1))
      else
        some (.inr s22.1)
  : Option (List Int)).bind fun (z6 : List Int) =>
  some z6
noncomputable def m_ref11_Meets (g : Nat) (a0 : DLimit) (a1 : List Int) : Option Bool :=
  if a0.Kind = 3 then
    jx (J := Unit) (A := Bool) (
      Mir.Loop (S := Nat) (Q := (Unit) ⊕ (Bool)) (0 : Nat) fun s11 =>
        if ((s11 : Nat) : Int) < ((a1.length : Nat) : Int) then
          jx (J := Unit) (A := (Nat) ⊕ ((Unit) ⊕ (Bool))) (
            Mir.Loop (S := Nat) (Q := (Unit) ⊕ ((Nat) ⊕ ((Unit) ⊕ (Bool)))) (0 : Nat) fun s20 =>
              if ((s20 : Nat) : Int) < ((s11 : Nat) : Int) then
                ((a1)[s11]?).bind fun x25 =>
                ((a1)[s20]?).bind fun x32 =>
                if x25 = x32 then
                  some (.inr (.inr (.inr (.inr false))))
                else
                  some (.inl (s20 + 1))
              else
                some (.inr (.inl ()))
          ) fun z16 =>
          some (.inl (s11 + 1))
        else
          some (.inr (.inl ()))
    ) fun z7 =>
    some true
  else
    if a0.Kind = 4 then
      jx (J := Unit) (A := Bool) (
        Mir.Loop (S := Nat) (Q := (Unit) ⊕ (Bool)) (0 : Nat) fun s49 =>
          if ((s49 : Nat) : Int) < ((a0.Rows.length : Nat) : Int) then
            (
              Mir.Loop (S := Bool × Nat) (Q := Bool) (true, (0 : Nat)) fun s58 =>
                if ((s58.2 : Nat) : Int) < ((a1.length : Nat) : Int) then
                  (
                    ((a0.Rows)[s49]?).bind fun x65 =>
                    ((x65)[s58.2]?).bind fun x76 =>
                    ((a1)[s58.2]?).bind fun x83 =>
                    if x76 = x83 then
                      some s58.1
                    else
                      some false
                  : Option Bool).bind fun (z63 : Bool) =>
                  some (.inl (z63, s58.2 + 1))
                else
                  some (.inr s58.1)
            : Option Bool).bind fun (z54 : Bool) =>
            if z54 = true then
              some (.inr (.inr true))
            else
              some (.inl (s49 + 1))
          else
            some (.inr (.inl ()))
      ) fun z45 =>
      some false
    else
      (
        Mir.Loop (S := Int × Nat) (Q := Int) ((0 : Int), (0 : Nat)) fun s101 =>
          if ((s101.2 : Nat) : Int) < ((a1.length : Nat) : Int) then
            ((a0.A)[s101.2]?).bind fun x106 =>
            ((a1)[s101.2]?).bind fun x113 =>
            some (.inl (Mir.w64 (s101.1 + (Mir.w64 (x106 * x113))), s101.2 + 1))
          else
            some (.inr s101.1)
      : Option Int).bind fun (z97 : Int) =>
      if a0.Kind = 0 then
        some (decide (z97 ≤ a0.B))
      else
        some (decide ((decide (z97 = a0.B)) = (decide (a0.Kind = 1))))
noncomputable def m_ref11_Tuples (g : Nat) (a0 : DProblem) : Option (List (List Int)) :=
  jx (J := Unit) (A := List (List Int)) (
    Mir.Loop (S := Nat) (Q := (Unit) ⊕ (List (List Int))) (0 : Nat) fun s8 =>
      if ((s8 : Nat) : Int) < ((a0.Doms.length : Nat) : Int) then
        ((a0.Doms)[s8]?).bind fun x13 =>
        if ((x13.length : Nat) : Int) = 0 then
          some (.inr (.inr ([] : List (List Int))))
        else
          some (.inl (s8 + 1))
      else
        some (.inr (.inl ()))
  ) fun z4 =>
  (Mir.made 8 ((a0.Doms.length : Nat) : Int) (0 : Int)).bind fun x27 =>
  Mir.Loop (S := List (List Int) × List Int) (Q := List (List Int)) (([] : List (List Int)), x27) fun s50 =>
    (
      Mir.Loop (S := List Int × Nat) (Q := List Int) (([] : List Int), (0 : Nat)) fun s85 =>
        if ((s85.2 : Nat) : Int) < ((s50.2.length : Nat) : Int) then
          ((a0.Doms)[s85.2]?).bind fun x97 =>
          ((s50.2)[s85.2]?).bind fun x108 =>
          (Mir.idx x97 x108).bind fun x116 =>
          (Mir.push 8 s85.1 [x116]).bind fun x130 =>
          some (.inl (x130, s85.2 + 1))
        else
          some (.inr s85.1)
    : Option (List Int)).bind fun (z69 : List Int) =>
    (
      Mir.Loop (S := List Int × Bool × Int) (Q := List Int × Bool) (z69, true, (0 : Int)) fun s158 =>
        (
          if s158.2.2 < ((a0.Limits.length : Nat) : Int) then
            some s158.2.1
          else
            some false
        : Option Bool).bind fun (z171 : Bool) =>
        if z171 = true then
          (Mir.idx a0.Limits s158.2.2).bind fun x175 =>
          (Mir.idx a0.Limits s158.2.2).bind fun x194 =>
          (m_ref11_of g x194 s158.1).bind fun q214 =>
          (m_ref11_Meets g x175 q214).bind fun q223 =>
          some (.inl (s158.1, q223, Mir.w64 (s158.2.2 + 1)))
        else
          some (.inr (s158.1, s158.2.1))
    : Option (List Int × Bool)).bind fun (z134 : List Int × Bool) =>
    (
      if z134.2 = true then
        (Mir.push 24 s50.1 [z134.1]).bind fun x242 =>
        some x242
      else
        some s50.1
    : Option (List (List Int))).bind fun (z228 : List (List Int)) =>
    (
      Mir.Loop (S := List Int × Int) (Q := List Int × Int) (s50.2, ((s50.2.length : Nat) : Int) - 1) fun s262 =>
        (
          if s262.2 ≥ 0 then
            (Mir.idx s262.1 s262.2).bind fun x275 =>
            (Mir.idx a0.Doms s262.2).bind fun x283 =>
            some (decide (x275 = ((x283.length : Nat) : Int) - 1))
          else
            some false
        : Option Bool).bind fun (z272 : Bool) =>
        if z272 = true then
          (Mir.idx s262.1 s262.2).bind fun x295 =>
          (Mir.upd s262.1 s262.2 0).bind fun x305 =>
          some (.inl (x305, Mir.w64 (s262.2 - 1)))
        else
          some (.inr (s262.1, s262.2))
    : Option (List Int × Int)).bind fun (z246 : List Int × Int) =>
    if z246.2 < 0 then
      some (.inr z228)
    else
      (Mir.idx z246.1 z246.2).bind fun x313 =>
      (Mir.idx z246.1 z246.2).bind fun x321 =>
      (Mir.upd z246.1 z246.2 (Mir.w64 (x313 + 1))).bind fun x330 =>
      some (.inl (z228, x330))
noncomputable def m_domain_has (g : Nat) (a0 : List Int) (a1 : Int) : Option Bool :=
  jx (J := Unit) (A := Bool) (
    Mir.Loop (S := Nat) (Q := (Unit) ⊕ (Bool)) (0 : Nat) fun s6 =>
      if ((s6 : Nat) : Int) < ((a0.length : Nat) : Int) then
        ((a0)[s6]?).bind fun x11 =>
        if x11 = a1 then
          some (.inr (.inr true))
        else
          some (.inl (s6 + 1))
      else
        some (.inr (.inl ()))
  ) fun z2 =>
  some false
noncomputable def m_domain_chosen (g : Nat) (a0 : DLimit) (a1 : List Int) : Option (List Int) :=
  (
    Mir.Loop (S := List Int × Nat) (Q := List Int) (([] : List Int), (0 : Nat)) fun s22 =>
      if ((s22.2 : Nat) : Int) < ((a0.Vars.length : Nat) : Int) then
        ((a0.Vars)[s22.2]?).bind fun x34 =>
        (Mir.idx a1 x34).bind fun x41 =>
        (Mir.push 8 s22.1 [x41]).bind fun x53 =>
        some (.inl (x53, s22.2 + 1))
      else
        some (.inr s22.1)
  : Option (List Int)).bind fun (z6 : List Int) =>
  some z6
noncomputable def m_domain_Holds (g : Nat) (a0 : DProblem) (a1 : List Int) : Option (Bool × Int × Int) :=
  (m_domain_Validate g a0).bind fun q5 =>
  if q5 = 0 then
    if ((a1.length : Nat) : Int) = ((a0.Doms.length : Nat) : Int) then
      jx (J := Unit) (A := Bool × Int × Int) (
        Mir.Loop (S := Nat) (Q := (Unit) ⊕ (Bool × Int × Int)) (0 : Nat) fun s20 =>
          if ((s20 : Nat) : Int) < ((a1.length : Nat) : Int) then
            ((a1)[s20]?).bind fun x27 =>
            ((a0.Doms)[s20]?).bind fun x34 =>
            (m_domain_has g x34 x27).bind fun q45 =>
            if q45 = true then
              some (.inl (s20 + 1))
            else
              some (.inr (.inr (false, (-1), (0 : Int))))
          else
            some (.inr (.inl ()))
      ) fun z13 =>
      jx (J := Unit) (A := Bool × Int × Int) (
        Mir.Loop (S := Nat) (Q := (Unit) ⊕ (Bool × Int × Int)) (0 : Nat) fun s59 =>
          if ((s59 : Nat) : Int) < ((a0.Limits.length : Nat) : Int) then
            ((a0.Limits)[s59]?).bind fun x66 =>
            (
              (m_domain_of g x66).bind fun q91 =>
              ILimit.on q91
                (
                  none
                )
                (fun y98 =>
                  (m_domain_chosen g x66 a1).bind fun q106 =>
                  (m_domain_apart_holds g (DApart.mk) q106).bind fun q115 =>
                  some (!q115)
                )
                (fun y99 =>
                  (m_domain_chosen g x66 a1).bind fun q127 =>
                  (m_domain_table_holds g y99 q127).bind fun q136 =>
                  some (!q136)
                )
                (fun y100 =>
                  (m_domain_chosen g x66 a1).bind fun q156 =>
                  (m_domain_sum_holds g y100 q156).bind fun q165 =>
                  some (!q165)
                )
            : Option Bool).bind fun (z86 : Bool) =>
            if z86 = true then
              some (.inr (.inr (false, ((s59 : Nat) : Int), (0 : Int))))
            else
              some (.inl (s59 + 1))
          else
            some (.inr (.inl ()))
      ) fun z52 =>
      some (true, (0 : Int), (0 : Int))
    else
      some (false, (0 : Int), (8 : Int))
  else
    some (false, (0 : Int), q5)
noncomputable def m_law11_in (g : Nat) (a0 : List Int) (a1 : Int) : Option Bool :=
  jx (J := Unit) (A := Bool) (
    Mir.Loop (S := Nat) (Q := (Unit) ⊕ (Bool)) (0 : Nat) fun s6 =>
      if ((s6 : Nat) : Int) < ((a0.length : Nat) : Int) then
        ((a0)[s6]?).bind fun x11 =>
        if x11 = a1 then
          some (.inr (.inr true))
        else
          some (.inl (s6 + 1))
      else
        some (.inr (.inl ()))
  ) fun z2 =>
  some false
noncomputable def m_domain_solver_next (g : Nat) (a0 : List (List Int)) (a1 : List (List Int)) (a2 : List DLimit) (a3 : Int) (a4 : Int) (a5 : List (List Int)) (a6 : Int) : Option Int :=
  (
    Mir.Loop (S := Int × Nat) (Q := Int) ((-1), (0 : Nat)) fun s9 =>
      if ((s9.2 : Nat) : Int) < ((a0.length : Nat) : Int) then
        (
          ((a0)[s9.2]?).bind fun x16 =>
          if ((x16.length : Nat) : Int) < 2 then
            some s9.1
          else
            (
              if s9.1 < 0 then
                some (decide (s9.1 < 0))
              else
                if a3 = 2 then
                  some (decide (a3 = 2))
                else
                  if a3 = 1 then
                    (Mir.idx a0 s9.1).bind fun x36 =>
                    some (decide (((x16.length : Nat) : Int) < ((x36.length : Nat) : Int)))
                  else
                    some false
            : Option Bool).bind fun (z29 : Bool) =>
            if z29 = true then
              some ((s9.2 : Nat) : Int)
            else
              some s9.1
        : Option Int).bind fun (z14 : Int) =>
        some (.inl (z14, s9.2 + 1))
      else
        some (.inr s9.1)
  : Option Int).bind fun (z5 : Int) =>
  some z5
noncomputable def m_domain_narrow_2 (g : Nat) (a0 : List (List Int)) (a1 : List DLimit) : Option (List (List Int) × Bool) :=
  (Mir.made 24 ((a0.length : Nat) : Int) ([] : List Int)).bind fun x3 =>
  jx (J := List (List Int)) (A := List (List Int) × Bool) (
    Mir.Loop (S := List (List Int) × Nat) (Q := (List (List Int)) ⊕ (List (List Int) × Bool)) (x3, (0 : Nat)) fun s31 =>
      if ((s31.2 : Nat) : Int) < ((a0.length : Nat) : Int) then
        ((a0)[s31.2]?).bind fun x44 =>
        (Mir.push 8 ([] : List Int) x44).bind fun x61 =>
        ((s31.1)[s31.2]?).bind fun x64 =>
        (Mir.upd s31.1 (s31.2 : Int) x61).bind fun x81 =>
        if ((x44.length : Nat) : Int) = 0 then
          some (.inr (.inr (([] : List (List Int)), false)))
        else
          some (.inl (x81, s31.2 + 1))
      else
        some (.inr (.inl s31.1))
  ) fun z11 =>
  jx (J := List (List Int)) (A := List (List Int) × Bool) (
    Mir.Loop (S := List (List Int) × Bool) (Q := (List (List Int)) ⊕ (List (List Int) × Bool)) (z11, true) fun s107 =>
      if s107.2 = true then
        Mir.Loop (S := List (List Int) × Bool × Nat) (Q := (List (List Int) × Bool) ⊕ ((List (List Int)) ⊕ (List (List Int) × Bool))) (s107.1, false, (0 : Nat)) fun s130 =>
          if ((s130.2.2 : Nat) : Int) < ((a1.length : Nat) : Int) then
            jx (J := List (List Int) × Bool) (A := (List (List Int) × Bool × Nat) ⊕ ((List (List Int) × Bool) ⊕ ((List (List Int)) ⊕ (List (List Int) × Bool)))) (
              ((a1)[s130.2.2]?).bind fun x154 =>
              if ((x154.Vars.length : Nat) : Int) = 0 then
                jx (J := Unit) (A := (List (List Int) × Bool) ⊕ ((List (List Int) × Bool × Nat) ⊕ ((List (List Int) × Bool) ⊕ ((List (List Int)) ⊕ (List (List Int) × Bool))))) (
                  (m_domain_of g x154).bind fun q180 =>
                  ILimit.on q180
                    (
                      none
                    )
                    (fun y187 =>
                      (m_domain_apart_holds g (DApart.mk) ([] : List Int)).bind fun q194 =>
                      if q194 = true then
                        some (.inl ())
                      else
                        some (.inr (.inr (.inr (.inr (.inr (([] : List (List Int)), false))))))
                    )
                    (fun y188 =>
                      (m_domain_table_holds g y188 ([] : List Int)).bind fun q208 =>
                      if q208 = true then
                        some (.inl ())
                      else
                        some (.inr (.inr (.inr (.inr (.inr (([] : List (List Int)), false))))))
                    )
                    (fun y189 =>
                      (m_domain_sum_holds g y189 ([] : List Int)).bind fun q230 =>
                      if q230 = true then
                        some (.inl ())
                      else
                        some (.inr (.inr (.inr (.inr (.inr (([] : List (List Int)), false))))))
                    )
                ) fun z175 =>
                some (.inl (s130.1, s130.2.1))
              else
                (m_domain_support g s130.1 x154).bind fun q238 =>
                Mir.Loop (S := List (List Int) × Bool × Nat) (Q := (List (List Int) × Bool) ⊕ ((List (List Int) × Bool × Nat) ⊕ ((List (List Int) × Bool) ⊕ ((List (List Int)) ⊕ (List (List Int) × Bool))))) (s130.1, s130.2.1, (0 : Nat)) fun s256 =>
                  if ((s256.2.2 : Nat) : Int) < ((q238.length : Nat) : Int) then
                    ((q238)[s256.2.2]?).bind fun x269 =>
                    ((x154.Vars)[s256.2.2]?).bind fun x280 =>
                    (
                      (Mir.idx s256.1 x280).bind fun x295 =>
                      Mir.Loop (S := List Int × Nat) (Q := List Int) (([] : List Int), (0 : Nat)) fun s315 =>
                        if ((s315.2 : Nat) : Int) < ((x295.length : Nat) : Int) then
                          (
                            ((x295)[s315.2]?).bind fun x335 =>
                            ((x269)[s315.2]?).bind fun x342 =>
                            if x342 = true then
                              (Mir.push 8 s315.1 [x335]).bind fun x355 =>
                              some x355
                            else
                              some s315.1
                          : Option (List Int)).bind fun (z327 : List Int) =>
                          some (.inl (z327, s315.2 + 1))
                        else
                          some (.inr s315.1)
                    : Option (List Int)).bind fun (z287 : List Int) =>
                    if ((z287.length : Nat) : Int) = 0 then
                      some (.inr (.inr (.inr (.inr (.inr (([] : List (List Int)), false))))))
                    else
                      (
                        if s256.2.1 = true then
                          some true
                        else
                          (Mir.idx s256.1 x280).bind fun x368 =>
                          some (decide (((z287.length : Nat) : Int) < ((x368.length : Nat) : Int)))
                      : Option Bool).bind fun (z363 : Bool) =>
                      (Mir.idx s256.1 x280).bind fun x380 =>
                      (Mir.upd s256.1 x280 z287).bind fun x397 =>
                      some (.inl (x397, z363, s256.2.2 + 1))
                  else
                    some (.inr (.inl (s256.1, s256.2.1)))
            ) fun z143 =>
            some (.inl (z143.1, z143.2, s130.2.2 + 1))
          else
            some (.inr (.inl (s130.1, s130.2.1)))
      else
        some (.inr (.inl s107.1))
  ) fun z87 =>
  some (z87, true)
noncomputable def m_domain_solver_from : Nat → (List (List Int)) → (List (List Int)) → (List DLimit) → Int → Int → (List (List Int)) → Int → Option (List (List Int) × Int)
  | 0, _, _, _, _, _, _, _ => none
  | g + 1, a0, a1, a2, a3, a4, a5, a6 =>
    if ((a5.length : Nat) : Int) > a4 then
      some (a5, a6)
    else
      (m_domain_solver_next g a0 a1 a2 a3 a4 a5 a6).bind fun q7 =>
      if q7 < 0 then
        (
          Mir.Loop (S := List Int × Nat) (Q := List Int) (([] : List Int), (0 : Nat)) fun s28 =>
            if ((s28.2 : Nat) : Int) < ((a0.length : Nat) : Int) then
              ((a0)[s28.2]?).bind fun x40 =>
              ((x40)[0]?).bind fun x51 =>
              (Mir.push 8 s28.1 [x51]).bind fun x63 =>
              some (.inl (x63, s28.2 + 1))
            else
              some (.inr s28.1)
        : Option (List Int)).bind fun (z12 : List Int) =>
        (Mir.push 24 a5 [z12]).bind fun x75 =>
        some (x75, a6)
      else
        (Mir.idx a0 q7).bind fun x79 =>
        Mir.Loop (S := List (List Int) × Int × Nat) (Q := List (List Int) × Int) (a5, Mir.w64 (a6 + 1), (0 : Nat)) fun s100 =>
          if ((s100.2.2 : Nat) : Int) < ((x79.length : Nat) : Int) then
            jx (J := List (List Int) × Int) (A := (List (List Int) × Int × Nat) ⊕ (List (List Int) × Int)) (
              ((x79)[s100.2.2]?).bind fun x124 =>
              if ((s100.1.length : Nat) : Int) > a4 then
                some (.inr (.inr (s100.1, s100.2.1)))
              else
                (Mir.push 24 ([] : List (List Int)) a0).bind fun x138 =>
                (Mir.idx x138 q7).bind fun x143 =>
                (Mir.upd x138 q7 ([x124] : List Int)).bind fun x160 =>
                (m_domain_narrow_2 g x160 a2).bind fun q162 =>
                if q162.2 = true then
                  (m_domain_solver_from g q162.1 a1 a2 a3 a4 s100.1 s100.2.1).bind fun q176 =>
                  some (.inl (q176.1, q176.2))
                else
                  some (.inl (s100.1, s100.2.1))
            ) fun z113 =>
            some (.inl (z113.1, z113.2, s100.2.2 + 1))
          else
            some (.inr (s100.1, s100.2.1))
noncomputable def m_domain_Solve (g : Nat) (a0 : DProblem) (a1 : Int) (a2 : Int) : Option (List (List Int) × Bool × Int × Int) :=
  (m_domain_Validate g a0).bind fun q4 =>
  if q4 = 0 then
    (
      if a1 < 0 then
        some true
      else
        if a1 > 2 then
          some true
        else
          if a2 < 1 then
            some true
          else
            some (decide (a2 > 2000))
    : Option Bool).bind fun (z10 : Bool) =>
    if z10 = true then
      some (([] : List (List Int)), false, (0 : Int), (1 : Int))
    else
      (m_domain_isCostly g a0).bind fun q17 =>
      if q17 = true then
        some (([] : List (List Int)), false, (0 : Int), (3 : Int))
      else
        (
          (m_domain_narrow g a0.Doms a0.Limits).bind fun q34 =>
          if q34.2 = true then
            (m_domain_solver_from g q34.1 a0.Doms a0.Limits a1 a2 ([] : List (List Int)) 0).bind fun q44 =>
            some (q44.1, q44.2)
          else
            some (([] : List (List Int)), (0 : Int))
        : Option (List (List Int) × Int)).bind fun (z24 : List (List Int) × Int) =>
        if ((z24.1.length : Nat) : Int) > a2 then
          (Mir.sub z24.1 0 a2).bind fun x57 =>
          some (x57, true, z24.2, (0 : Int))
        else
          some (z24.1, false, z24.2, (0 : Int))
  else
    some (([] : List (List Int)), false, (0 : Int), q4)
noncomputable def m_law11_has (g : Nat) (a0 : List (List Int)) (a1 : List Int) : Option Bool :=
  jx (J := Unit) (A := Bool) (
    Mir.Loop (S := Nat) (Q := (Unit) ⊕ (Bool)) (0 : Nat) fun s10 =>
      if ((s10 : Nat) : Int) < ((a0.length : Nat) : Int) then
        ((a0)[s10]?).bind fun x17 =>
        (m_ref01_SameInts g x17 a1).bind fun q28 =>
        if q28 = true then
          some (.inr (.inr true))
        else
          some (.inl (s10 + 1))
      else
        some (.inr (.inl ()))
  ) fun z3 =>
  some false
noncomputable def m_law11_DomainFinds (g : Nat) (a0 : DProblem) : Option Bool :=
  (
    (m_domain_Validate g a0).bind fun q8 =>
    if q8 = 0 then
      (m_law11_isHeavy g a0).bind fun q13 =>
      if q13 = true then
        some true
      else
        (m_law11_tuples g a0).bind fun q20 =>
        some (decide (q20 > 1500))
    else
      some true
  : Option Bool).bind fun (z4 : Bool) =>
  if z4 = true then
    (m_law11_known g).bind fun q25 =>
    some q25
  else
    (m_domain_Narrow g a0).bind fun q30 =>
    if q30.2.2 = 0 then
      (m_ref11_Tuples g (DProblem.mk a0.Doms ([] : List DLimit))).bind fun q44 =>
      jx (J := List (List Int)) (A := Bool) (
        Mir.Loop (S := Bool × List (List Int) × Nat) (Q := (List (List Int)) ⊕ (Bool)) (q30.2.1, ([] : List (List Int)), (0 : Nat)) fun s73 =>
          if ((s73.2.2 : Nat) : Int) < ((q44.length : Nat) : Int) then
            jx (J := Bool × List (List Int)) (A := (Bool × List (List Int) × Nat) ⊕ ((List (List Int)) ⊕ (Bool))) (
              ((q44)[s73.2.2]?).bind fun x98 =>
              (m_domain_Holds g a0 x98).bind fun q110 =>
              if q110.2.2 = 0 then
                if q110.1 = true then
                  ((q44)[s73.2.2]?).bind fun x118 =>
                  (Mir.push 24 s73.2.1 [x118]).bind fun x134 =>
                  (
                    if s73.1 = true then
                      ((q44)[s73.2.2]?).bind fun x141 =>
                      some (true, !decide (((q30.1.length : Nat) : Int) = ((x141.length : Nat) : Int)))
                    else
                      some (false, true)
                  : Option (Bool × Bool)).bind fun (z137 : Bool × Bool) =>
                  if z137.2 = true then
                    some (.inr (.inr (.inr false)))
                  else
                    Mir.Loop (S := Nat) (Q := (Bool × List (List Int)) ⊕ ((Bool × List (List Int) × Nat) ⊕ ((List (List Int)) ⊕ (Bool)))) (0 : Nat) fun s157 =>
                      if ((s157 : Nat) : Int) < ((q30.1.length : Nat) : Int) then
                        ((q30.1)[s157]?).bind fun x164 =>
                        ((q44)[s73.2.2]?).bind fun x175 =>
                        ((x175)[s157]?).bind fun x186 =>
                        (m_law11_in g x164 x186).bind fun q194 =>
                        if q194 = true then
                          some (.inl (s157 + 1))
                        else
                          some (.inr (.inr (.inr (.inr false))))
                      else
                        some (.inr (.inl (z137.1, x134)))
                else
                  some (.inl (s73.1, s73.2.1))
              else
                some (.inr (.inr (.inr false)))
            ) fun z87 =>
            some (.inl (z87.1, z87.2, s73.2.2 + 1))
          else
            some (.inr (.inl s73.2.1))
      ) fun z52 =>
      jx (J := Unit) (A := Bool) (
        Mir.Loop (S := Nat) (Q := (Unit) ⊕ (Bool)) (0 : Nat) fun s209 =>
          if ((s209 : Nat) : Int) < 3 then
            jx (J := Unit) (A := (Nat) ⊕ ((Unit) ⊕ (Bool))) (
              (m_domain_Solve g a0 ((s209 : Nat) : Int) 2000).bind fun q221 =>
              (
                if q221.2.2.2 = 0 then
                  if q221.2.1 = true then
                    some true
                  else
                    some (!decide (((q221.1.length : Nat) : Int) = ((z52.length : Nat) : Int)))
                else
                  some true
              : Option Bool).bind fun (z229 : Bool) =>
              if z229 = true then
                some (.inr (.inr (.inr false)))
              else
                Mir.Loop (S := Nat) (Q := (Unit) ⊕ ((Nat) ⊕ ((Unit) ⊕ (Bool)))) (0 : Nat) fun s239 =>
                  if ((s239 : Nat) : Int) < ((q221.1.length : Nat) : Int) then
                    (
                      ((q221.1)[s239]?).bind fun x250 =>
                      (m_law11_has g z52 x250).bind fun q262 =>
                      if q262 = true then
                        (Mir.sub q221.1 0 ((s239 : Nat) : Int)).bind fun x272 =>
                        ((q221.1)[s239]?).bind fun x275 =>
                        (m_law11_has g x272 x275).bind fun q287 =>
                        some q287
                      else
                        some true
                    : Option Bool).bind fun (z246 : Bool) =>
                    if z246 = true then
                      some (.inr (.inr (.inr (.inr false))))
                    else
                      some (.inl (s239 + 1))
                  else
                    some (.inr (.inl ()))
            ) fun z216 =>
            some (.inl (s209 + 1))
          else
            some (.inr (.inl ()))
      ) fun z202 =>
      (m_law11_known g).bind fun q297 =>
      some q297
    else
      (m_law11_known g).bind fun q39 =>
      some q39
end Go.Proofs.Ytopmcncaanjboaa
