/- The functions that the law reaches, in plain words: what each gives for its arguments (none: not told). -/
import Derived.Test.YtjjmdiddgcllkaaSyPl
namespace Go.Proofs.Ytjjmdiddgcllkaa
open Go Go.Sy Go.RowKit
set_option linter.unusedVariables false
open Go.Mir
structure DSTree where
  N : Int
  Kids : List DSTree
structure DPlace where
  l : List Int
  rank : Int
  x : DSTree
noncomputable def m_search_Validate_f1 : Nat → DSTree → Int → Int → Option (Bool × Int)
  | 0, _, _, _ => none
  | g + 1, a0, a1, a2 =>
    (
      if Mir.w64 (a2 + 1) > 400 then
        some true
      else
        if a1 < 1 then
          some true
        else
          some (decide (((a0.Kids.length : Nat) : Int) > 64))
    : Option Bool).bind fun (z3 : Bool) =>
    if z3 = true then
      some (true, Mir.w64 (a2 + 1))
    else
      jx (J := Int) (A := Bool × Int) (
        Mir.Loop (S := Int × Nat) (Q := (Int) ⊕ (Bool × Int)) (Mir.w64 (a2 + 1), (0 : Nat)) fun s17 =>
          if ((s17.2 : Nat) : Int) < ((a0.Kids.length : Nat) : Int) then
            ((a0.Kids)[s17.2]?).bind fun x24 =>
            (m_search_Validate_f1 g x24 (Mir.w64 (a1 - 1)) s17.1).bind fun q36 =>
            if q36.1 = true then
              some (.inr (.inr (true, q36.2)))
            else
              some (.inl (q36.2, s17.2 + 1))
          else
            some (.inr (.inl s17.1))
      ) fun z9 =>
      some (false, z9)
noncomputable def m_search_isTree : Nat → DSTree → Option Bool
  | 0, _ => none
  | g + 1, a0 =>
    (
      if a0.N < (-1) then
        some true
      else
        if ((a0.Kids.length : Nat) : Int) > 0 then
          some (!decide (a0.N = 0))
        else
          some false
    : Option Bool).bind fun (z3 : Bool) =>
    if z3 = true then
      some false
    else
      jx (J := Unit) (A := Bool) (
        Mir.Loop (S := Nat) (Q := (Unit) ⊕ (Bool)) (0 : Nat) fun s16 =>
          if ((s16 : Nat) : Int) < ((a0.Kids.length : Nat) : Int) then
            ((a0.Kids)[s16]?).bind fun x23 =>
            (m_search_isTree g x23).bind fun q35 =>
            if q35 = true then
              some (.inl (s16 + 1))
            else
              some (.inr (.inr false))
          else
            some (.inr (.inl ()))
      ) fun z9 =>
      some true
noncomputable def m_search_Validate (g : Nat) (a0 : DSTree) : Option Int :=
  (m_search_Validate_f1 g a0 40 0).bind fun q5 =>
  if q5.1 = true then
    some (3 : Int)
  else
    (m_search_isTree g a0).bind fun q11 =>
    if q11 = true then
      some (0 : Int)
    else
      some (1 : Int)
noncomputable def m_search_isHow (g : Nat) (a0 : Int) : Option Bool :=
  (
    if a0 ≥ 0 then
      some (decide (a0 ≤ 4))
    else
      some false
  : Option Bool).bind fun (z1 : Bool) =>
  some z1
noncomputable def m_search_Leaves_f1 (g : Nat) (a0 : List Int) (a1 : DSTree) (a2 : List Int) : Option (Int × DSTree × Bool × List Int) :=
  (
    (
      if ((a1.Kids.length : Nat) : Int) = 0 then
        some (decide (a1.N ≥ 0))
      else
        some false
    : Option Bool).bind fun (z14 : Bool) =>
    if z14 = true then
      (Mir.push 8 a2 [a1.N]).bind fun x23 =>
      some x23
    else
      some a2
  : Option (List Int)).bind fun (z6 : List Int) =>
  some (((a1.Kids.length : Nat) : Int), a1, true, z6)
noncomputable def m_search_below (g : Nat) (a0 : DSTree) (a1 : Int) : Option DSTree :=
  (Mir.idx a0.Kids a1).bind fun x4 =>
  some x4
noncomputable def m_api_STree_2 (g : Nat) (a0 : DSTree) (a1 : List Int) : Option (Bool × List Int) :=
  jx (J := List Int) (A := Bool × List Int) (
    Mir.Loop (S := List Int × List DPlace) (Q := (List Int) ⊕ (Bool × List Int)) (a1, ([(DPlace.mk ([] : List Int) 0 a0)] : List DPlace)) fun s32 =>
      if ((s32.2.length : Nat) : Int) > 0 then
        ((s32.2)[0]?).bind fun x51 =>
        (Mir.sub s32.2 1 ((s32.2.length : Nat) : Int)).bind fun x68 =>
        Mir.Loop (S := List Int × List DPlace × List Int × Int × Int × List DSTree) (Q := (List Int × List DPlace) ⊕ ((List Int) ⊕ (Bool × List Int))) (s32.1, x68, x51.l, x51.rank, x51.x.N, x51.x.Kids) fun s105 =>
          (m_search_Leaves_f1 g s105.2.2.1 (DSTree.mk s105.2.2.2.2.1 s105.2.2.2.2.2) s105.1).bind fun q131 =>
          (
            Mir.Loop (S := List DPlace × Int) (Q := List DPlace) (s105.2.1, (1 : Int)) fun s174 =>
              if s174.2 < q131.1 then
                (
                  (Mir.push 8 ([] : List Int) s105.2.2.1).bind fun x197 =>
                  (Mir.push 8 x197 [s174.2]).bind fun x213 =>
                  (m_search_below g q131.2.1 s174.2).bind fun q217 =>
                  (Mir.push 64 s174.1 [(DPlace.mk x213 0 q217)]).bind fun x235 =>
                  some x235
                : Option (List DPlace)).bind fun (z187 : List DPlace) =>
                some (.inl (z187, Mir.w64 (s174.2 + 1)))
              else
                some (.inr s174.1)
          : Option (List DPlace)).bind fun (z146 : List DPlace) =>
          if q131.2.2.1 = true then
            if q131.1 = 0 then
              some (.inr (.inl (q131.2.2.2, z146)))
            else
              (Mir.push 8 ([] : List Int) s105.2.2.1).bind fun x285 =>
              (Mir.push 8 x285 [0]).bind fun x301 =>
              (m_search_below g q131.2.1 0).bind fun q305 =>
              some (.inl (q131.2.2.2, z146, x301, (0 : Int), q305.N, q305.Kids))
          else
            (
              if q131.1 > 0 then
                some true
              else
                some (decide (((z146.length : Nat) : Int) > 0))
            : Option Bool).bind fun (z279 : Bool) =>
            some (.inr (.inr (.inr (z279, q131.2.2.2))))
      else
        some (.inr (.inl s32.1))
  ) fun z6 =>
  some (false, z6)
noncomputable def m_search_ranks (g : Nat) : Option (List (Int × Nat)) :=
  (Mir.put ([] : List (Int × Nat)) 0 36).bind fun x3 =>
  (Mir.put x3 1 37).bind fun x8 =>
  (Mir.put x8 2 38).bind fun x13 =>
  (Mir.put x13 3 39).bind fun x18 =>
  some x18
noncomputable def m_api_STree_Push (g : Nat) (a0 : DPlace) (a1 : List DPlace) (a2 : Nat) : Option (List DPlace) :=
  (Mir.push 64 a1 [a0]).bind fun x11 =>
  some x11
noncomputable def m_api_STree_Len (g : Nat) (a0 : List DPlace) (a1 : Nat) : Option Int :=
  some ((a0.length : Nat) : Int)
noncomputable def m_search_before (g : Nat) (a0 : List Int) (a1 : List Int) : Option Bool :=
  jx (J := Unit) (A := Bool) (
    Mir.Loop (S := Nat) (Q := (Unit) ⊕ (Bool)) (0 : Nat) fun s7 =>
      if ((s7 : Nat) : Int) < ((a0.length : Nat) : Int) then
        if ((s7 : Nat) : Int) ≥ ((a1.length : Nat) : Int) then
          some (.inr (.inr false))
        else
          ((a0)[s7]?).bind fun x14 =>
          ((a1)[s7]?).bind fun x21 =>
          if x14 = x21 then
            some (.inl (s7 + 1))
          else
            ((a0)[s7]?).bind fun x29 =>
            ((a1)[s7]?).bind fun x36 =>
            some (.inr (.inr (decide (x29 < x36))))
      else
        some (.inr (.inl ()))
  ) fun z3 =>
  some (decide (((a0.length : Nat) : Int) < ((a1.length : Nat) : Int)))
noncomputable def m_api_STree_Less (g : Nat) (a0 : Int) (a1 : Int) (a2 : List DPlace) (a3 : Nat) : Option Bool :=
  (Mir.idx a2 a0).bind fun x2 =>
  (Mir.idx a2 a1).bind fun x18 =>
  if x2.rank = x18.rank then
    (Mir.idx a2 a0).bind fun x65 =>
    (Mir.idx a2 a1).bind fun x80 =>
    (m_search_before g x65.l x80.l).bind fun q96 =>
    some q96
  else
    (Mir.idx a2 a0).bind fun x34 =>
    (Mir.idx a2 a1).bind fun x49 =>
    some (decide (x34.rank < x49.rank))
noncomputable def m_api_STree_Swap (g : Nat) (a0 : Int) (a1 : Int) (a2 : List DPlace) (a3 : Nat) : Option (List DPlace) :=
  (Mir.idx a2 a1).bind fun x2 =>
  (Mir.idx a2 a0).bind fun x18 =>
  (Mir.idx a2 a0).bind fun x33 =>
  (Mir.upd a2 a0 x2).bind fun x51 =>
  (Mir.idx x51 a1).bind fun x53 =>
  (Mir.upd x51 a1 x18).bind fun x71 =>
  some x71
noncomputable def m_heap_up (g : Nat) (a0 : Int) (a1 : List DPlace) (a2 : Nat) : Option (List DPlace) :=
  Mir.Loop (S := List DPlace × Int) (Q := List DPlace) (a1, a0) fun s11 =>
    (Mir.quo (Mir.w64 (s11.2 - 1)) 2).bind fun x23 =>
    (
      if x23 = s11.2 then
        some true
      else
        (m_api_STree_Less g s11.2 x23 s11.1 a2).bind fun q30 =>
        some (!q30)
    : Option Bool).bind fun (z25 : Bool) =>
    if z25 = true then
      some (.inr s11.1)
    else
      (m_api_STree_Swap g x23 s11.2 s11.1 a2).bind fun q36 =>
      some (.inl (q36, x23))
noncomputable def m_heap_Push (g : Nat) (a0 : DPlace) (a1 : List DPlace) (a2 : Nat) : Option (List DPlace) :=
  (m_api_STree_Push g a0 a1 a2).bind fun q4 =>
  (m_api_STree_Len g q4 a2).bind fun q14 =>
  (m_heap_up g (Mir.w64 (q14 - 1)) q4 a2).bind fun q18 =>
  some q18
noncomputable def m_heap_down (g : Nat) (a0 : Int) (a1 : Int) (a2 : List DPlace) (a3 : Nat) : Option (Bool × List DPlace) :=
  (
    Mir.Loop (S := List DPlace × Int) (Q := List DPlace × Int) (a2, a0) fun s21 =>
      (
        if Mir.w64 ((Mir.w64 (2 * s21.2)) + 1) ≥ a1 then
          some true
        else
          some (decide (Mir.w64 ((Mir.w64 (2 * s21.2)) + 1) < 0))
      : Option Bool).bind fun (z33 : Bool) =>
      if z33 = true then
        some (.inr (s21.1, s21.2))
      else
        (
          (
            if Mir.w64 ((Mir.w64 ((Mir.w64 (2 * s21.2)) + 1)) + 1) < a1 then
              (m_api_STree_Less g (Mir.w64 ((Mir.w64 ((Mir.w64 (2 * s21.2)) + 1)) + 1)) (Mir.w64 ((Mir.w64 (2 * s21.2)) + 1)) s21.1 a3).bind fun q47 =>
              some q47
            else
              some false
          : Option Bool).bind fun (z42 : Bool) =>
          if z42 = true then
            some (Mir.w64 ((Mir.w64 ((Mir.w64 (2 * s21.2)) + 1)) + 1))
          else
            some (Mir.w64 ((Mir.w64 (2 * s21.2)) + 1))
        : Option Int).bind fun (z38 : Int) =>
        (m_api_STree_Less g z38 s21.2 s21.1 a3).bind fun q53 =>
        if q53 = true then
          (m_api_STree_Swap g s21.2 z38 s21.1 a3).bind fun q59 =>
          some (.inl (q59, z38))
        else
          some (.inr (s21.1, s21.2))
  : Option (List DPlace × Int)).bind fun (z2 : List DPlace × Int) =>
  some (decide (z2.2 > a0), z2.1)
noncomputable def m_api_STree_Pop (g : Nat) (a0 : List DPlace) (a1 : Nat) : Option (DPlace × List DPlace) :=
  (Mir.idx a0 (((a0.length : Nat) : Int) - 1)).bind fun x2 =>
  (Mir.sub a0 0 (((a0.length : Nat) : Int) - 1)).bind fun x21 =>
  some (x2, x21)
noncomputable def m_heap_Pop (g : Nat) (a0 : List DPlace) (a1 : Nat) : Option (DPlace × List DPlace) :=
  (m_api_STree_Len g a0 a1).bind fun q2 =>
  (m_api_STree_Swap g 0 (Mir.w64 (q2 - 1)) a0 a1).bind fun q6 =>
  (m_heap_down g 0 (Mir.w64 (q2 - 1)) q6 a1).bind fun q16 =>
  (m_api_STree_Pop g q16.2 a1).bind fun q26 =>
  some (q26.1, q26.2)
noncomputable def m_search_ranks_f1 (g : Nat) (a0 : List Int) : Option Int :=
  some (0 : Int)
noncomputable def m_search_ranks_f2 (g : Nat) (a0 : List Int) : Option Int :=
  some ((a0.length : Nat) : Int)
noncomputable def m_search_ranks_f3 (g : Nat) (a0 : List Int) : Option Int :=
  (Mir.quo ((a0.length : Nat) : Int) 3).bind fun x2 =>
  some x2
noncomputable def m_search_sum (g : Nat) (a0 : List Int) : Option Int :=
  (
    Mir.Loop (S := Int × Nat) (Q := Int) ((0 : Int), (0 : Nat)) fun s6 =>
      if ((s6.2 : Nat) : Int) < ((a0.length : Nat) : Int) then
        ((a0)[s6.2]?).bind fun x11 =>
        some (.inl (Mir.w64 (s6.1 + x11), s6.2 + 1))
      else
        some (.inr s6.1)
  : Option Int).bind fun (z2 : Int) =>
  some z2
noncomputable def m_table1 (g : Nat) (f : Nat) (a0 : List Int) : Option Int :=
  if f = 36 then m_search_ranks_f1 g a0 else if f = 37 then m_search_ranks_f2 g a0 else if f = 38 then m_search_ranks_f3 g a0 else if f = 39 then m_search_sum g a0 else none
noncomputable def m_api_STree (g : Nat) (a0 : Int) (a1 : DSTree) (a2 : List Int) : Option (Bool × List Int) :=
  if a0 = 4 then
    (m_api_STree_2 g a1 a2).bind fun q5 =>
    some (q5.1, q5.2)
  else
    (m_search_ranks g).bind fun q16 =>
    (Mir.assoc q16 a0).bind fun f25 =>
    (m_heap_Push g (DPlace.mk ([] : List Int) 0 a1) ([] : List DPlace) f25).bind fun q30 =>
    jx (J := List Int) (A := Bool × List Int) (
      Mir.Loop (S := List Int × List DPlace) (Q := (List Int) ⊕ (Bool × List Int)) (a2, q30) fun s66 =>
        (m_api_STree_Len g s66.2 f25).bind fun q84 =>
        if q84 > 0 then
          (m_heap_Pop g s66.2 f25).bind fun q89 =>
          (m_search_Leaves_f1 g q89.1.l q89.1.x s66.1).bind fun q108 =>
          (
            Mir.Loop (S := List DPlace × Int) (Q := List DPlace) (q89.2, (0 : Int)) fun s151 =>
              if s151.2 < q108.1 then
                (Mir.push 8 ([] : List Int) q89.1.l).bind fun x169 =>
                (Mir.push 8 x169 [s151.2]).bind fun x177 =>
                (m_table1 g f25 x177).bind fun q181 =>
                (m_search_below g q108.2.1 s151.2).bind fun q186 =>
                (m_heap_Push g (DPlace.mk x177 q181 q186) s151.1 f25).bind fun q198 =>
                some (.inl (q198, Mir.w64 (s151.2 + 1)))
              else
                some (.inr s151.1)
          : Option (List DPlace)).bind fun (z123 : List DPlace) =>
          if q108.2.2.1 = true then
            some (.inl (q108.2.2.2, z123))
          else
            (m_api_STree_Len g z123 f25).bind fun q210 =>
            some (.inr (.inr (decide (q210 > 0), q108.2.2.2)))
        else
          some (.inr (.inl s66.1))
    ) fun z40 =>
    some (false, z40)
noncomputable def m_search_Leaves (g : Nat) (a0 : DSTree) (a1 : Int) (a2 : Int) : Option (List Int × Bool × Int) :=
  (m_search_Validate g a0).bind fun q3 =>
  if q3 = 0 then
    (
      (m_search_isHow g a1).bind fun q13 =>
      if q13 = true then
        if a2 < 1 then
          some true
        else
          some (decide (a2 > 400))
      else
        some true
    : Option Bool).bind fun (z9 : Bool) =>
    if z9 = true then
      some (([] : List Int), false, (1 : Int))
    else
      (m_api_STree g a1 a0 ([] : List Int)).bind fun q25 =>
      if ((q25.2.length : Nat) : Int) > a2 then
        (Mir.sub q25.2 0 a2).bind fun x36 =>
        some (x36, true, (0 : Int))
      else
        some (q25.2, false, (0 : Int))
  else
    some (([] : List Int), false, q3)
noncomputable def m_ref13_count : Nat → DSTree → Int → Int → Option Int
  | 0, _, _, _ => none
  | g + 1, a0, a1, a2 =>
    (
      if a1 > 40 then
        some true
      else
        if a2 < 1 then
          some true
        else
          some (decide (((a0.Kids.length : Nat) : Int) > 64))
    : Option Bool).bind fun (z3 : Bool) =>
    if z3 = true then
      some (-1)
    else
      jx (J := Int) (A := Int) (
        Mir.Loop (S := Int × Nat) (Q := (Int) ⊕ (Int)) (Mir.w64 (a2 - 1), (0 : Nat)) fun s17 =>
          if ((s17.2 : Nat) : Int) < ((a0.Kids.length : Nat) : Int) then
            ((a0.Kids)[s17.2]?).bind fun x24 =>
            (m_ref13_count g x24 (Mir.w64 (a1 + 1)) s17.1).bind fun q35 =>
            if q35 < 0 then
              some (.inr (.inr (-1)))
            else
              some (.inl (q35, s17.2 + 1))
          else
            some (.inr (.inl s17.1))
      ) fun z9 =>
      some z9
noncomputable def m_ref13_isTree : Nat → DSTree → Option Bool
  | 0, _ => none
  | g + 1, a0 =>
    (
      if a0.N < (-1) then
        some true
      else
        if ((a0.Kids.length : Nat) : Int) > 0 then
          some (!decide (a0.N = 0))
        else
          some false
    : Option Bool).bind fun (z3 : Bool) =>
    if z3 = true then
      some false
    else
      jx (J := Unit) (A := Bool) (
        Mir.Loop (S := Nat) (Q := (Unit) ⊕ (Bool)) (0 : Nat) fun s16 =>
          if ((s16 : Nat) : Int) < ((a0.Kids.length : Nat) : Int) then
            ((a0.Kids)[s16]?).bind fun x23 =>
            (m_ref13_isTree g x23).bind fun q34 =>
            if q34 = true then
              some (.inl (s16 + 1))
            else
              some (.inr (.inr false))
          else
            some (.inr (.inl ()))
      ) fun z9 =>
      some true
noncomputable def m_ref13_Validate (g : Nat) (a0 : DSTree) : Option Int :=
  (m_ref13_count g a0 1 400).bind fun q3 =>
  if q3 < 0 then
    some (3 : Int)
  else
    (m_ref13_isTree g a0).bind fun q9 =>
    if q9 = true then
      some (0 : Int)
    else
      some (1 : Int)
noncomputable def m_ref13_sum (g : Nat) (a0 : List Int) : Option Int :=
  (
    Mir.Loop (S := Int × Nat) (Q := Int) ((0 : Int), (0 : Nat)) fun s6 =>
      if ((s6.2 : Nat) : Int) < ((a0.length : Nat) : Int) then
        ((a0)[s6.2]?).bind fun x11 =>
        some (.inl (Mir.w64 (s6.1 + x11), s6.2 + 1))
      else
        some (.inr s6.1)
  : Option Int).bind fun (z2 : Int) =>
  some z2
noncomputable def m_ref13_isLess (g : Nat) (a0 : List Int) (a1 : List Int) : Option Bool :=
  jx (J := Unit) (A := Bool) (
    Mir.Loop (S := Int) (Q := (Unit) ⊕ (Bool)) (0 : Int) fun s8 =>
      (
        if s8 < ((a0.length : Nat) : Int) then
          some (decide (s8 < ((a1.length : Nat) : Int)))
        else
          some false
      : Option Bool).bind fun (z12 : Bool) =>
      if z12 = true then
        (Mir.idx a0 s8).bind fun x16 =>
        (Mir.idx a1 s8).bind fun x23 =>
        if x16 = x23 then
          some (.inl (Mir.w64 (s8 + 1)))
        else
          (Mir.idx a0 s8).bind fun x31 =>
          (Mir.idx a1 s8).bind fun x38 =>
          some (.inr (.inr (decide (x31 < x38))))
      else
        some (.inr (.inl ()))
  ) fun z3 =>
  some (decide (((a0.length : Nat) : Int) < ((a1.length : Nat) : Int)))
noncomputable def m_ref13_Ahead (g : Nat) (a0 : Int) (a1 : List Int) (a2 : List Int) : Option Bool :=
  (
    if a0 = 1 then
      some (((a1.length : Nat) : Int), ((a2.length : Nat) : Int))
    else
      if a0 = 2 then
        (Mir.quo ((a1.length : Nat) : Int) 3).bind fun x10 =>
        (Mir.quo ((a2.length : Nat) : Int) 3).bind fun x12 =>
        some (x10, x12)
      else
        if a0 = 3 then
          (m_ref13_sum g a1).bind fun q16 =>
          (m_ref13_sum g a2).bind fun q20 =>
          some (q16, q20)
        else
          some ((0 : Int), (0 : Int))
  : Option (Int × Int)).bind fun (z3 : Int × Int) =>
  if z3.1 = z3.2 then
    (m_ref13_isLess g a1 a2).bind fun q27 =>
    some q27
  else
    some (decide (z3.1 < z3.2))
noncomputable def m_ref13_Waiting_Take (g : Nat) (a0 : Int) (a1 : List (List Int)) : Option (List Int × List (List Int)) :=
  (
    if a0 = 4 then
      some (0 : Nat)
    else
      Mir.Loop (S := Nat × Nat) (Q := Nat) ((0 : Nat), (1 : Nat)) fun s10 =>
        if ((s10.2 : Nat) : Int) < ((a1.length : Nat) : Int) then
          (
            ((a1)[s10.2]?).bind fun x21 =>
            ((a1)[s10.1]?).bind fun x33 =>
            (m_ref13_Ahead g a0 x21 x33).bind fun q45 =>
            if q45 = true then
              some s10.2
            else
              some s10.1
          : Option Nat).bind fun (z17 : Nat) =>
          some (.inl (z17, s10.2 + 1))
        else
          some (.inr s10.1)
  : Option Nat).bind fun (z2 : Nat) =>
  ((a1)[z2]?).bind fun x53 =>
  (
    Mir.Loop (S := List (List Int) × Nat) (Q := List (List Int)) (([] : List (List Int)), (0 : Nat)) fun s81 =>
      if ((s81.2 : Nat) : Int) < ((a1.length : Nat) : Int) then
        (
          if ((s81.2 : Nat) : Int) = ((z2 : Nat) : Int) then
            some s81.1
          else
            ((a1)[s81.2]?).bind fun x102 =>
            (Mir.push 24 s81.1 [x102]).bind fun x118 =>
            some x118
        : Option (List (List Int))).bind fun (z93 : List (List Int)) =>
        some (.inl (z93, s81.2 + 1))
      else
        some (.inr s81.1)
  : Option (List (List Int))).bind fun (z65 : List (List Int)) =>
  some (x53, z65)
noncomputable def m_ref13_at (g : Nat) (a0 : DSTree) (a1 : List Int) : Option DSTree :=
  (
    Mir.Loop (S := Int × List DSTree × Nat) (Q := Int × List DSTree) (a0.N, a0.Kids, (0 : Nat)) fun s18 =>
      if ((s18.2.2 : Nat) : Int) < ((a1.length : Nat) : Int) then
        ((a1)[s18.2.2]?).bind fun x27 =>
        (Mir.idx s18.2.1 x27).bind fun x34 =>
        some (.inl (x34.N, x34.Kids, s18.2.2 + 1))
      else
        some (.inr (s18.1, s18.2.1))
  : Option (Int × List DSTree)).bind fun (z5 : Int × List DSTree) =>
  some (DSTree.mk z5.1 z5.2)
noncomputable def m_ref13_Kid (g : Nat) (a0 : List Int) (a1 : Int) : Option (List Int) :=
  (Mir.push 8 ([] : List Int) a0).bind fun x7 =>
  (Mir.push 8 x7 [a1]).bind fun x15 =>
  some x15
noncomputable def m_ref13_Waiting_Put (g : Nat) (a0 : List Int) (a1 : Int) (a2 : List (List Int)) : Option (List (List Int)) :=
  (Mir.push 24 a2 [a0]).bind fun x8 =>
  some x8
noncomputable def m_ref13_places (g : Nat) (a0 : DSTree) (a1 : Int) : Option (List (List Int)) :=
  (
    Mir.Loop (S := List (List Int) × List (List Int)) (Q := List (List Int)) (([[]] : List (List Int)), ([] : List (List Int))) fun s31 =>
      if ((s31.1.length : Nat) : Int) > 0 then
        (m_ref13_Waiting_Take g a1 s31.1).bind fun q51 =>
        Mir.Loop (S := List (List Int) × List Int) (Q := (List (List Int) × List (List Int)) ⊕ (List (List Int))) (q51.2, q51.1) fun s78 =>
          (m_ref13_at g a0 s78.2).bind fun q94 =>
          if ((q94.Kids.length : Nat) : Int) = 0 then
            (Mir.push 24 s31.2 [s78.2]).bind fun x109 =>
            some (.inr (.inl (s78.1, x109)))
          else
            (
              if a1 = 4 then
                some (1 : Nat)
              else
                some (0 : Nat)
            : Option Nat).bind fun (z113 : Nat) =>
            (
              Mir.Loop (S := List (List Int) × Nat) (Q := List (List Int)) (s78.1, z113) fun s136 =>
                if ((s136.2 : Nat) : Int) < ((q94.Kids.length : Nat) : Int) then
                  (m_ref13_Kid g s78.2 ((s136.2 : Nat) : Int)).bind fun q149 =>
                  (m_ref13_Waiting_Put g q149 a1 s136.1).bind fun q157 =>
                  some (.inl (q157, s136.2 + 1))
                else
                  some (.inr s136.1)
            : Option (List (List Int))).bind fun (z117 : List (List Int)) =>
            if a1 = 4 then
              (m_ref13_Kid g s78.2 0).bind fun q170 =>
              some (.inl (z117, q170))
            else
              some (.inr (.inl (z117, s31.2)))
      else
        some (.inr s31.2)
  : Option (List (List Int))).bind fun (z6 : List (List Int)) =>
  some z6
noncomputable def m_ref13_Leaves (g : Nat) (a0 : DSTree) (a1 : Int) (a2 : Int) : Option (List Int × Bool × Int) :=
  (m_ref13_Validate g a0).bind fun q3 =>
  if q3 = 0 then
    (
      if a1 < 0 then
        some true
      else
        if a1 > 4 then
          some true
        else
          if a2 < 1 then
            some true
          else
            some (decide (a2 > 400))
    : Option Bool).bind fun (z9 : Bool) =>
    if z9 = true then
      some (([] : List Int), false, (1 : Int))
    else
      (m_ref13_places g a0 a1).bind fun q16 =>
      jx (J := List Int) (A := List Int × Bool × Int) (
        Mir.Loop (S := List Int × Nat) (Q := (List Int) ⊕ (List Int × Bool × Int)) (([] : List Int), (0 : Nat)) fun s44 =>
          if ((s44.2 : Nat) : Int) < ((q16.length : Nat) : Int) then
            jx (J := List Int) (A := (List Int × Nat) ⊕ ((List Int) ⊕ (List Int × Bool × Int))) (
              ((q16)[s44.2]?).bind fun x69 =>
              (m_ref13_at g a0 x69).bind fun q81 =>
              if q81.N < 0 then
                some (.inl s44.1)
              else
                if ((s44.1.length : Nat) : Int) = a2 then
                  some (.inr (.inr (.inr (s44.1, true, (0 : Int)))))
                else
                  (Mir.push 8 s44.1 [q81.N]).bind fun x101 =>
                  some (.inl x101)
            ) fun z58 =>
            some (.inl (z58, s44.2 + 1))
          else
            some (.inr (.inl s44.1))
      ) fun z24 =>
      some (z24, false, (0 : Int))
  else
    some (([] : List Int), false, q3)
noncomputable def m_search_Places_f1 (g : Nat) (a0 : List Int) (a1 : DSTree) (a2 : List (List Int)) : Option (Int × DSTree × Bool × List (List Int)) :=
  (
    if ((a1.Kids.length : Nat) : Int) = 0 then
      (Mir.push 8 ([] : List Int) a0).bind fun x23 =>
      (Mir.push 24 a2 [x23]).bind fun x36 =>
      some x36
    else
      some a2
  : Option (List (List Int))).bind fun (z6 : List (List Int)) =>
  some (((a1.Kids.length : Nat) : Int), a1, true, z6)
noncomputable def m_api_STree_4 (g : Nat) (a0 : DSTree) (a1 : List (List Int)) : Option (Bool × List (List Int)) :=
  jx (J := List (List Int)) (A := Bool × List (List Int)) (
    Mir.Loop (S := List (List Int) × List DPlace) (Q := (List (List Int)) ⊕ (Bool × List (List Int))) (a1, ([(DPlace.mk ([] : List Int) 0 a0)] : List DPlace)) fun s32 =>
      if ((s32.2.length : Nat) : Int) > 0 then
        ((s32.2)[0]?).bind fun x51 =>
        (Mir.sub s32.2 1 ((s32.2.length : Nat) : Int)).bind fun x68 =>
        Mir.Loop (S := List (List Int) × List DPlace × List Int × Int × Int × List DSTree) (Q := (List (List Int) × List DPlace) ⊕ ((List (List Int)) ⊕ (Bool × List (List Int)))) (s32.1, x68, x51.l, x51.rank, x51.x.N, x51.x.Kids) fun s105 =>
          (m_search_Places_f1 g s105.2.2.1 (DSTree.mk s105.2.2.2.2.1 s105.2.2.2.2.2) s105.1).bind fun q131 =>
          (
            Mir.Loop (S := List DPlace × Int) (Q := List DPlace) (s105.2.1, (1 : Int)) fun s174 =>
              if s174.2 < q131.1 then
                (
                  (Mir.push 8 ([] : List Int) s105.2.2.1).bind fun x197 =>
                  (Mir.push 8 x197 [s174.2]).bind fun x213 =>
                  (m_search_below g q131.2.1 s174.2).bind fun q217 =>
                  (Mir.push 64 s174.1 [(DPlace.mk x213 0 q217)]).bind fun x235 =>
                  some x235
                : Option (List DPlace)).bind fun (z187 : List DPlace) =>
                some (.inl (z187, Mir.w64 (s174.2 + 1)))
              else
                some (.inr s174.1)
          : Option (List DPlace)).bind fun (z146 : List DPlace) =>
          if q131.2.2.1 = true then
            if q131.1 = 0 then
              some (.inr (.inl (q131.2.2.2, z146)))
            else
              (Mir.push 8 ([] : List Int) s105.2.2.1).bind fun x285 =>
              (Mir.push 8 x285 [0]).bind fun x301 =>
              (m_search_below g q131.2.1 0).bind fun q305 =>
              some (.inl (q131.2.2.2, z146, x301, (0 : Int), q305.N, q305.Kids))
          else
            (
              if q131.1 > 0 then
                some true
              else
                some (decide (((z146.length : Nat) : Int) > 0))
            : Option Bool).bind fun (z279 : Bool) =>
            some (.inr (.inr (.inr (z279, q131.2.2.2))))
      else
        some (.inr (.inl s32.1))
  ) fun z6 =>
  some (false, z6)
noncomputable def m_api_STree_3 (g : Nat) (a0 : Int) (a1 : DSTree) (a2 : List (List Int)) : Option (Bool × List (List Int)) :=
  if a0 = 4 then
    (m_api_STree_4 g a1 a2).bind fun q5 =>
    some (q5.1, q5.2)
  else
    (m_search_ranks g).bind fun q16 =>
    (Mir.assoc q16 a0).bind fun f25 =>
    (m_heap_Push g (DPlace.mk ([] : List Int) 0 a1) ([] : List DPlace) f25).bind fun q30 =>
    jx (J := List (List Int)) (A := Bool × List (List Int)) (
      Mir.Loop (S := List (List Int) × List DPlace) (Q := (List (List Int)) ⊕ (Bool × List (List Int))) (a2, q30) fun s66 =>
        (m_api_STree_Len g s66.2 f25).bind fun q84 =>
        if q84 > 0 then
          (m_heap_Pop g s66.2 f25).bind fun q89 =>
          (m_search_Places_f1 g q89.1.l q89.1.x s66.1).bind fun q108 =>
          (
            Mir.Loop (S := List DPlace × Int) (Q := List DPlace) (q89.2, (0 : Int)) fun s151 =>
              if s151.2 < q108.1 then
                (Mir.push 8 ([] : List Int) q89.1.l).bind fun x169 =>
                (Mir.push 8 x169 [s151.2]).bind fun x177 =>
                (m_table1 g f25 x177).bind fun q181 =>
                (m_search_below g q108.2.1 s151.2).bind fun q186 =>
                (m_heap_Push g (DPlace.mk x177 q181 q186) s151.1 f25).bind fun q198 =>
                some (.inl (q198, Mir.w64 (s151.2 + 1)))
              else
                some (.inr s151.1)
          : Option (List DPlace)).bind fun (z123 : List DPlace) =>
          if q108.2.2.1 = true then
            some (.inl (q108.2.2.2, z123))
          else
            (m_api_STree_Len g z123 f25).bind fun q210 =>
            some (.inr (.inr (decide (q210 > 0), q108.2.2.2)))
        else
          some (.inr (.inl s66.1))
    ) fun z40 =>
    some (false, z40)
noncomputable def m_search_Places (g : Nat) (a0 : DSTree) (a1 : Int) : Option (List (List Int) × Int) :=
  (m_search_Validate g a0).bind fun q3 =>
  if q3 = 0 then
    (m_search_isHow g a1).bind fun q9 =>
    if q9 = true then
      (m_api_STree_3 g a1 a0 ([] : List (List Int))).bind fun q17 =>
      some (q17.2, (0 : Int))
    else
      some (([] : List (List Int)), (1 : Int))
  else
    some (([] : List (List Int)), q3)
noncomputable def m_ref13_Places (g : Nat) (a0 : DSTree) (a1 : Int) : Option (List (List Int) × Int) :=
  (m_ref13_Validate g a0).bind fun q3 =>
  if q3 = 0 then
    (
      if a1 < 0 then
        some true
      else
        some (decide (a1 > 4))
    : Option Bool).bind fun (z9 : Bool) =>
    if z9 = true then
      some (([] : List (List Int)), (1 : Int))
    else
      (m_ref13_places g a0 a1).bind fun q14 =>
      some (q14, (0 : Int))
  else
    some (([] : List (List Int)), q3)
noncomputable def m_ref01_SameInts (g : Nat) (a0 : List Int) (a1 : List Int) : Option Bool :=
  if ((a0.length : Nat) : Int) = ((a1.length : Nat) : Int) then
    jx (J := Unit) (A := Bool) (
      Mir.Loop (S := Nat) (Q := (Unit) ⊕ (Bool)) (0 : Nat) fun s9 =>
        if ((s9 : Nat) : Int) < ((a0.length : Nat) : Int) then
          ((a0)[s9]?).bind fun x14 =>
          ((a1)[s9]?).bind fun x21 =>
          if x14 = x21 then
            some (.inl (s9 + 1))
          else
            some (.inr (.inr false))
        else
          some (.inr (.inl ()))
    ) fun z5 =>
    some true
  else
    some false
noncomputable def m_ref01_SameRows (g : Nat) (a0 : List (List Int)) (a1 : List (List Int)) : Option Bool :=
  if ((a0.length : Nat) : Int) = ((a1.length : Nat) : Int) then
    jx (J := Unit) (A := Bool) (
      Mir.Loop (S := Nat) (Q := (Unit) ⊕ (Bool)) (0 : Nat) fun s12 =>
        if ((s12 : Nat) : Int) < ((a0.length : Nat) : Int) then
          ((a0)[s12]?).bind fun x19 =>
          ((a1)[s12]?).bind fun x30 =>
          (m_ref01_SameInts g x19 x30).bind fun q42 =>
          if q42 = true then
            some (.inl (s12 + 1))
          else
            some (.inr (.inr false))
        else
          some (.inr (.inl ()))
    ) fun z5 =>
    some true
  else
    some false
noncomputable def m_law13_leaf (g : Nat) (a0 : Int) : Option Int :=
  some a0
noncomputable def m_law13_known (g : Nat) : Option Bool :=
  (m_law13_leaf g 0).bind fun q1 =>
  (m_law13_leaf g 1).bind fun q5 =>
  (m_law13_leaf g 2).bind fun q11 =>
  (m_search_Leaves g (DSTree.mk 0 ([(DSTree.mk 0 ([(DSTree.mk q1 ([] : List DSTree)), (DSTree.mk q5 ([] : List DSTree))] : List DSTree)), (DSTree.mk q11 ([] : List DSTree))] : List DSTree)) 4 10).bind fun q24 =>
  (
    if q24.2.2 = 0 then
      if q24.2.1 = true then
        some false
      else
        (m_ref01_SameInts g q24.1 ([0, 2, 1] : List Int)).bind fun q42 =>
        some q42
    else
      some false
  : Option Bool).bind fun (z32 : Bool) =>
  some z32
noncomputable def m_law13_leaves (g : Nat) (a0 : DSTree) (a1 : Int) (a2 : Int) : Option Bool :=
  (m_search_Leaves g a0 a1 a2).bind fun q3 =>
  (m_ref13_Leaves g a0 a1 a2).bind fun q11 =>
  (m_search_Places g a0 a1).bind fun q19 =>
  (m_ref13_Places g a0 a1).bind fun q27 =>
  (
    (m_search_Validate g a0).bind fun q40 =>
    (m_ref13_Validate g a0).bind fun q45 =>
    if q40 = q45 then
      (m_ref01_SameInts g q3.1 q11.1).bind fun q51 =>
      if q51 = true then
        if q3.2.1 = true then
          if q11.2.1 = true then
            if q3.2.2 = q11.2.2 then
              (m_ref01_SameRows g q19.1 q27.1).bind fun q63 =>
              if q63 = true then
                if q19.2 = q27.2 then
                  (m_law13_known g).bind fun q71 =>
                  some q71
                else
                  some false
              else
                some false
            else
              some false
          else
            some false
        else
          if q11.2.1 = true then
            some false
          else
            if q3.2.2 = q11.2.2 then
              (m_ref01_SameRows g q19.1 q27.1).bind fun q91 =>
              if q91 = true then
                if q19.2 = q27.2 then
                  (m_law13_known g).bind fun q99 =>
                  some q99
                else
                  some false
              else
                some false
            else
              some false
      else
        some false
    else
      some false
  : Option Bool).bind fun (z35 : Bool) =>
  some z35
noncomputable def m_law13_count (g : Nat) (a0 : List Int) (a1 : Int) : Option Int :=
  (
    Mir.Loop (S := Int × Nat) (Q := Int) ((0 : Int), (0 : Nat)) fun s8 =>
      if ((s8.2 : Nat) : Int) < ((a0.length : Nat) : Int) then
        (
          ((a0)[s8.2]?).bind fun x15 =>
          if x15 = a1 then
            some (Mir.w64 (s8.1 + 1))
          else
            some s8.1
        : Option Int).bind fun (z13 : Int) =>
        some (.inl (z13, s8.2 + 1))
      else
        some (.inr s8.1)
  : Option Int).bind fun (z2 : Int) =>
  some z2
noncomputable def m_law13_none (g : Nat) (a0 : DSTree) : Option Bool :=
  (m_search_Validate g a0).bind fun q3 =>
  if q3 = 0 then
    (m_search_Places g a0 0).bind fun q13 =>
    (m_search_Leaves g a0 0 400).bind fun q21 =>
    (
      if q13.2 = 0 then
        some (!decide (q21.2.2 = 0))
      else
        some true
    : Option Bool).bind fun (z29 : Bool) =>
    if z29 = true then
      some false
    else
      jx (J := Unit) (A := Bool) (
        Mir.Loop (S := Nat) (Q := (Unit) ⊕ (Bool)) (0 : Nat) fun s41 =>
          if ((s41 : Nat) : Int) ≤ 4 then
            jx (J := Unit) (A := (Nat) ⊕ ((Unit) ⊕ (Bool))) (
              (m_search_Places g a0 ((s41 : Nat) : Int)).bind fun q53 =>
              (m_search_Leaves g a0 ((s41 : Nat) : Int) 400).bind fun q61 =>
              (
                if q53.2 = 0 then
                  if q61.2.2 = 0 then
                    if q61.2.1 = true then
                      some true
                    else
                      if ((q53.1.length : Nat) : Int) = ((q13.1.length : Nat) : Int) then
                        some (!decide (((q61.1.length : Nat) : Int) = ((q21.1.length : Nat) : Int)))
                      else
                        some true
                  else
                    some true
                else
                  some true
              : Option Bool).bind fun (z69 : Bool) =>
              if z69 = true then
                some (.inr (.inr (.inr false)))
              else
                jx (J := Unit) (A := (Unit) ⊕ ((Nat) ⊕ ((Unit) ⊕ (Bool)))) (
                  Mir.Loop (S := Nat) (Q := (Unit) ⊕ ((Unit) ⊕ ((Nat) ⊕ ((Unit) ⊕ (Bool))))) (0 : Nat) fun s87 =>
                    if ((s87 : Nat) : Int) < ((q53.1.length : Nat) : Int) then
                      jx (J := Unit) (A := (Nat) ⊕ ((Unit) ⊕ ((Unit) ⊕ ((Nat) ⊕ ((Unit) ⊕ (Bool)))))) (
                        Mir.Loop (S := Nat) (Q := (Unit) ⊕ ((Nat) ⊕ ((Unit) ⊕ ((Unit) ⊕ ((Nat) ⊕ ((Unit) ⊕ (Bool))))))) (0 : Nat) fun s101 =>
                          if ((s101 : Nat) : Int) < ((s87 : Nat) : Int) then
                            ((q53.1)[s87]?).bind fun x108 =>
                            ((q53.1)[s101]?).bind fun x119 =>
                            (m_ref01_SameInts g x108 x119).bind fun q131 =>
                            if q131 = true then
                              some (.inr (.inr (.inr (.inr (.inr (.inr (.inr false)))))))
                            else
                              some (.inl (s101 + 1))
                          else
                            some (.inr (.inl ()))
                      ) fun z94 =>
                      some (.inl (s87 + 1))
                    else
                      some (.inr (.inl ()))
                ) fun z79 =>
                Mir.Loop (S := Nat) (Q := (Unit) ⊕ ((Nat) ⊕ ((Unit) ⊕ (Bool)))) (0 : Nat) fun s141 =>
                  if ((s141 : Nat) : Int) < ((q21.1.length : Nat) : Int) then
                    ((q21.1)[s141]?).bind fun x148 =>
                    ((q21.1)[s141]?).bind fun x155 =>
                    (m_law13_count g q21.1 x148).bind fun q163 =>
                    (m_law13_count g q61.1 x155).bind fun q168 =>
                    if q163 = q168 then
                      some (.inl (s141 + 1))
                    else
                      some (.inr (.inr (.inr (.inr false))))
                  else
                    some (.inr (.inl ()))
            ) fun z48 =>
            some (.inl (s41 + 1))
          else
            some (.inr (.inl ()))
      ) fun z34 =>
      (m_law13_known g).bind fun q176 =>
      some q176
  else
    (m_law13_known g).bind fun q8 =>
    some q8
noncomputable def m_law13_SearchLeaves (g : Nat) (a0 : DSTree) (a1 : Int) (a2 : Int) : Option Bool :=
  (
    (m_law13_leaves g a0 a1 a2).bind fun q7 =>
    if q7 = true then
      (m_law13_none g a0).bind fun q13 =>
      some q13
    else
      some false
  : Option Bool).bind fun (z3 : Bool) =>
  some z3
end Go.Proofs.Ytjjmdiddgcllkaa
