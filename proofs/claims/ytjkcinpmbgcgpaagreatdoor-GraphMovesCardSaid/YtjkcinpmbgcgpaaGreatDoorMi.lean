/- The functions that the law reaches, in plain words: what each gives for its arguments (none: not told). -/
import Derived.Test.YtjkcinpmbgcgpaaGreatDoorLib
namespace Go.Proofs.YtjkcinpmbgcgpaaGreatDoor
open Go Go.Sy Go.RowKit
set_option linter.unusedVariables false
set_option maxHeartbeats 1000000
open Go.Mir
structure DType where
 Name:List UInt8
 Args:List DType
structure DCon where
 Name:List UInt8
 Args:List DType
structure DData where
 Name:List UInt8
 Vars:List (List UInt8)
 Cons:List DCon
structure DPat where
 Op:Int
 Name:List UInt8
 N:Int
 Kids:List DPat
structure DAlt' (X:Type) where
 P:DPat
 E:X
structure DExpr where
 Op:Int
 Name:List UInt8
 N:Int
 Names:List (List UInt8)
 Kids:List DExpr
 Alts:List (DAlt' DExpr)
abbrev DAlt:=DAlt' DExpr
abbrev DAlt.mk (y0:DPat) (y1:DExpr):DAlt:=DAlt'.mk y0 y1
structure DFun where
 Name:List UInt8
 Vars:List (List UInt8)
 E:DExpr
structure DNode where
 Op:Int
 Name:List UInt8
 N:Int
 Kids:List Int
structure DCore where
 Datas:List DData
 Funs:List DFun
structure DGraph where
 Root:Int
 Nodes:List DNode
structure DPred where
 Class:List UInt8
 T:DType
structure DSig where
 Name:List UInt8
 Preds:List DPred
 T:DType
structure DClass where
 Name:List UInt8
 Supers:List (List UInt8)
 Ops:List DSig
structure DGuard where
 C:DExpr
 E:DExpr
structure DBind where
 Name:List UInt8
 E:DExpr
structure DRule where
 Name:List UInt8
 Pats:List DPat
 Guards:List DGuard
 Where:List DBind
structure DInst where
 Class:List UInt8
 Data:List UInt8
 Preds:List DPred
 Rules:List DRule
structure DDecls where
 Datas:List DData
 Classes:List DClass
 Insts:List DInst
structure DLeaf where
 name:Bool
 num:Bool
structure DCall where
 great:Bool
structure DInner where
 kids:Int
 name:Bool
 names:Bool
structure DCases where
 mk::
inductive INode where
 |nil
 |c182 (x:DLeaf)
 |c184 (x:DCall)
 |c186 (x:DInner)
 |c204 (x:DCases)
def INode.on {β:Type}(x:INode) (f0:β) (f182:DLeaf→β) (f184:DCall→β) (f186:DInner→β) (f204:DCases→β):β:=match x with
 |.nil=>f0
 |.c182 y=>f182 y
 |.c184 y=>f184 y
 |.c186 y=>f186 y
 |.c204 y=>f204 y
structure DGoal where
 Vars:List (List UInt8)
 E:DExpr
structure DValue where
 Op:Int
 Name:List UInt8
 N:Int
 Kids:List DValue
structure DAnswer where
 V:DValue
 B:List DValue
noncomputable def m_core_size_f1:Nat→DExpr→Int→Int→Bool→Option (Int×Bool)
 |0,_,_,_,_=>none
 |g+1,a0,a1,a2,a3=>
  (
   if Mir.w64 (a2+1)>300 then
    some true
   else
    some (decide (a1<1))
  :Option Bool).bind fun(z5:Bool)=>
  if z5=true then
   (
    if a3=true then
     some true
    else
     some (decide (a1<1))
   :Option Bool).bind fun(z9:Bool)=>
   some (Mir.w64 (a2+1),z9)
  else
   (
    Mir.Loop (S:=Int×Bool×Nat) (Q:=Int×Bool) (Mir.w64 (a2+1),a3,(0:Nat)) fun s23=>
     if((s23.2.2:Nat):Int)<((a0.Kids.length:Nat):Int) then
      ((a0.Kids)[s23.2.2]?).bind fun x30=>
      (m_core_size_f1 g x30 (Mir.w64 (a1 - 1)) s23.1 s23.2.1).bind fun q50=>
      some (.inl (q50.1,q50.2,s23.2.2+1))
     else
      some (.inr (s23.1,s23.2.1))
   :Option (Int×Bool)).bind fun(z15:Int×Bool)=>
   Mir.Loop (S:=Int×Bool×Nat) (Q:=Int×Bool) (z15.1,z15.2,(0:Nat)) fun s59=>
    if((s59.2.2:Nat):Int)<((a0.Alts.length:Nat):Int) then
     ((a0.Alts)[s59.2.2]?).bind fun x66=>
     (m_core_size_f1 g x66.E (Mir.w64 (a1 - 1)) s59.1 s59.2.1).bind fun q90=>
     some (.inl (q90.1,q90.2,s59.2.2+1))
    else
     some (.inr (s59.1,s59.2.1))
noncomputable def m_core_size (g:Nat) (a0:DExpr):Option (Int×Bool):=
 (m_core_size_f1 g a0 40 0 false).bind fun q8=>
 some (q8.1,q8.2)
noncomputable def m_core_IsLarge (g:Nat) (a0:DExpr):Option Bool:=
 (m_core_size g a0).bind fun q5=>
 (
  if q5.2=true then
   some true
  else
   some (decide (q5.1>300))
 :Option Bool).bind fun(z9:Bool)=>
 some z9
noncomputable def m_data_large (g:Nat) (a0:DDecls):Option Int:=
 (
  if((a0.Datas.length:Nat):Int)>30 then
   some true
  else
   if((a0.Classes.length:Nat):Int)>12 then
    some true
   else
    some (decide (((a0.Insts.length:Nat):Int)>40))
 :Option Bool).bind fun(z5:Bool)=>
 (
  Mir.Loop (S:=Bool×Nat) (Q:=Bool) (z5,(0:Nat)) fun s13=>
   if((s13.2:Nat):Int)<((a0.Datas.length:Nat):Int) then
    (
     ((a0.Datas)[s13.2]?).bind fun x20=>
     if s13.1=true then
      some true
     else
      some (decide (((x20.Cons.length:Nat):Int)>16))
    :Option Bool).bind fun(z18:Bool)=>
    some (.inl (z18,s13.2+1))
   else
    some (.inr s13.1)
 :Option Bool).bind fun(z9:Bool)=>
 (
  Mir.Loop (S:=Unit) (Q:=Unit) () fun s42=>
   if 0<((a0.Classes.length:Nat):Int) then
    none
   else
    some (.inr ())
 :Option Unit).bind fun(z40:Unit)=>
 (
  Mir.Loop (S:=Unit) (Q:=Unit) () fun s50=>
   if 0<((a0.Insts.length:Nat):Int) then
    none
   else
    some (.inr ())
 :Option Unit).bind fun(z48:Unit)=>
 if z9=true then
  some (3:Int)
 else
  some (0:Int)
noncomputable def m_data_isName (g:Nat) (a0:List UInt8) (a1:Int) (a2:Int):Option Bool:=
 (
  if((a0.length:Nat):Int)<1 then
   some true
  else
   if((a0.length:Nat):Int)>16 then
    some true
   else
    ((a0)[0]?).bind fun x5=>
    if((x5.toNat:Nat):Int)<a1 then
     some true
    else
     ((a0)[0]?).bind fun x8=>
     some (decide (((x8.toNat:Nat):Int)>a2))
 :Option Bool).bind fun(z1:Bool)=>
 if z1=true then
  some false
 else
  jx (J:=Unit) (A:=Bool) (
   Mir.Loop (S:=Nat) (Q:=(Unit)⊕(Bool)) (1:Nat) fun s16=>
    if((s16:Nat):Int)<((a0.length:Nat):Int) then
     ((a0)[s16]?).bind fun x21=>
     (
      if((x21.toNat:Nat):Int)≥97 then
       if((x21.toNat:Nat):Int)≤122 then
        some false
       else
        if((x21.toNat:Nat):Int)≥65 then
         if((x21.toNat:Nat):Int)≤90 then
          some false
         else
          if((x21.toNat:Nat):Int)≥48 then
           if((x21.toNat:Nat):Int)≤57 then
            some false
           else
            some (!(decide (((x21.toNat:Nat):Int)=95)))
          else
           some (!(decide (((x21.toNat:Nat):Int)=95)))
        else
         if((x21.toNat:Nat):Int)≥48 then
          if((x21.toNat:Nat):Int)≤57 then
           some false
          else
           some (!(decide (((x21.toNat:Nat):Int)=95)))
         else
          some (!(decide (((x21.toNat:Nat):Int)=95)))
      else
       if((x21.toNat:Nat):Int)≥65 then
        if((x21.toNat:Nat):Int)≤90 then
         some false
        else
         if((x21.toNat:Nat):Int)≥48 then
          if((x21.toNat:Nat):Int)≤57 then
           some false
          else
           some (!(decide (((x21.toNat:Nat):Int)=95)))
         else
          some (!(decide (((x21.toNat:Nat):Int)=95)))
       else
        if((x21.toNat:Nat):Int)≥48 then
         if((x21.toNat:Nat):Int)≤57 then
          some false
         else
          some (!(decide (((x21.toNat:Nat):Int)=95)))
        else
         some (!(decide (((x21.toNat:Nat):Int)=95)))
     :Option Bool).bind fun(z23:Bool)=>
     if z23=true then
      some (.inr (.inr false))
     else
      (Mir.small a0).bind fun x41=>
      some (.inl (s16+1))
    else
     some (.inr (.inl ()))
  ) fun z12=>
  some true
noncomputable def m_data_isGreat (g:Nat) (a0:List UInt8):Option Bool:=
 (m_data_isName g a0 65 90).bind fun q1=>
 some q1
noncomputable def m_slices_Index_string_string (g:Nat) (a0:List (List UInt8)) (a1:List UInt8):Option Int:=
 jx (J:=Unit) (A:=Int) (
  Mir.Loop (S:=Nat) (Q:=(Unit)⊕(Int)) (0:Nat) fun s6=>
   if((s6:Nat):Int)<((a0.length:Nat):Int) then
    ((a0)[s6]?).bind fun x11=>
    if a1=x11 then
     some (.inr (.inr ((s6:Nat):Int)))
    else
     some (.inl (s6+1))
   else
    some (.inr (.inl ()))
 ) fun z2=>
 some (-1)
noncomputable def m_slices_Contains_string_string (g:Nat) (a0:List (List UInt8)) (a1:List UInt8):Option Bool:=
 (m_slices_Index_string_string g a0 a1).bind fun q2=>
 some (decide (q2≥0))
noncomputable def m_data_isSmall (g:Nat) (a0:List UInt8):Option Bool:=
 (
  (m_data_isName g a0 97 122).bind fun q7=>
  if q7=true then
   (m_slices_Contains_string_string g ([[100,97,116,97],[99,108,97,115,115],[105,110,115,116,97,110,99,101],[111,112],[101,110,100],[119,104,101,114,101],[108,101,116],[105,110],[102,114,101,101],[99,97,115,101],[114,105,103,105,100],[111,102],[102,97,105,108]]:List (List UInt8)) a0).bind fun q13=>
   some (!q13)
  else
   some false
 :Option Bool).bind fun(z3:Bool)=>
 some z3
noncomputable def m_data_args (g:Nat) (a0:DDecls):Option Int:=
 (
  Mir.Loop (S:=Bool×Nat) (Q:=Bool) (true,(0:Nat)) fun s12=>
   if((s12.2:Nat):Int)<((a0.Datas.length:Nat):Int) then
    (
     ((a0.Datas)[s12.2]?).bind fun x23=>
     (
      if s12.1=true then
       (m_data_isGreat g x23.Name).bind fun q45=>
       if q45=true then
        some (decide (((x23.Vars.length:Nat):Int)≤8))
       else
        some false
      else
       some false
     :Option Bool).bind fun(z39:Bool)=>
     (
      Mir.Loop (S:=Bool×Nat) (Q:=Bool) (z39,(0:Nat)) fun s60=>
       if((s60.2:Nat):Int)<((x23.Vars.length:Nat):Int) then
        (
         ((x23.Vars)[s60.2]?).bind fun x71=>
         if s60.1=true then
          (m_data_isSmall g x71).bind fun q80=>
          some q80
         else
          some false
        :Option Bool).bind fun(z67:Bool)=>
        some (.inl (z67,s60.2+1))
       else
        some (.inr s60.1)
     :Option Bool).bind fun(z53:Bool)=>
     Mir.Loop (S:=Bool×Nat) (Q:=Bool) (z53,(0:Nat)) fun s89=>
      if((s89.2:Nat):Int)<((x23.Cons.length:Nat):Int) then
       (
        ((x23.Cons)[s89.2]?).bind fun x100=>
        if s89.1=true then
         (m_data_isGreat g x100.Name).bind fun q114=>
         if q114=true then
          some (decide (((x100.Args.length:Nat):Int)≤8))
         else
          some false
        else
         some false
       :Option Bool).bind fun(z96:Bool)=>
       some (.inl (z96,s89.2+1))
      else
       some (.inr s89.1)
    :Option Bool).bind fun(z19:Bool)=>
    some (.inl (z19,s12.2+1))
   else
    some (.inr s12.1)
 :Option Bool).bind fun(z5:Bool)=>
 (
  Mir.Loop (S:=Unit) (Q:=Unit) () fun s126=>
   if 0<((a0.Classes.length:Nat):Int) then
    none
   else
    some (.inr ())
 :Option Unit).bind fun(z124:Unit)=>
 (
  Mir.Loop (S:=Unit) (Q:=Unit) () fun s134=>
   if 0<((a0.Insts.length:Nat):Int) then
    none
   else
    some (.inr ())
 :Option Unit).bind fun(z132:Unit)=>
 if z5=true then
  some (0:Int)
 else
  some (1:Int)
noncomputable def m_types_IsLarge_f1:Nat→DType→Int→Int→Option (Bool×Int)
 |0,_,_,_=>none
 |g+1,a0,a1,a2=>
  (
   if Mir.w64 (a2+1)>200 then
    some true
   else
    some (decide (a1<1))
  :Option Bool).bind fun(z3:Bool)=>
  if z3=true then
   some (true,Mir.w64 (a2+1))
  else
   jx (J:=Int) (A:=Bool×Int) (
    Mir.Loop (S:=Int×Nat) (Q:=(Int)⊕(Bool×Int)) (Mir.w64 (a2+1),(0:Nat)) fun s16=>
     if((s16.2:Nat):Int)<((a0.Args.length:Nat):Int) then
      ((a0.Args)[s16.2]?).bind fun x23=>
      (m_types_IsLarge_f1 g x23 (Mir.w64 (a1 - 1)) s16.1).bind fun q35=>
      if q35.1=true then
       some (.inr (.inr (true,q35.2)))
      else
       some (.inl (q35.2,s16.2+1))
     else
      some (.inr (.inl s16.1))
   ) fun z8=>
   some (false,z8)
noncomputable def m_types_IsLarge (g:Nat) (a0:DType):Option Bool:=
 (m_types_IsLarge_f1 g a0 40 0).bind fun q5=>
 some q5.1
noncomputable def m_types_isSmall (g:Nat) (a0:Int):Option Bool:=
 (
  if a0≥97 then
   some (decide (a0≤122))
  else
   some false
 :Option Bool).bind fun(z1:Bool)=>
 some z1
noncomputable def m_types_IsVar (g:Nat) (a0:DType):Option Bool:=
 (
  if((a0.Name.length:Nat):Int)>0 then
   ((a0.Name)[0]?).bind fun x8=>
   (m_types_isSmall g ((x8.toNat:Nat):Int)).bind fun q10=>
   some q10
  else
   some false
 :Option Bool).bind fun(z3:Bool)=>
 some z3
noncomputable def m_types_IsLetter (g:Nat) (a0:Int):Option Bool:=
 (
  (m_types_isSmall g a0).bind fun q5=>
  if q5=true then
   some true
  else
   if a0≥65 then
    some (decide (a0≤90))
   else
    some false
 :Option Bool).bind fun(z1:Bool)=>
 some z1
noncomputable def m_types_IsDigit (g:Nat) (a0:Int):Option Bool:=
 (
  if a0≥48 then
   some (decide (a0≤57))
  else
   some false
 :Option Bool).bind fun(z1:Bool)=>
 some z1
noncomputable def m_types_IsTail (g:Nat) (a0:Int):Option Bool:=
 (
  (m_types_IsLetter g a0).bind fun q5=>
  if q5=true then
   some true
  else
   (m_types_IsDigit g a0).bind fun q12=>
   if q12=true then
    some true
   else
    some (decide (a0=95))
 :Option Bool).bind fun(z1:Bool)=>
 some z1
noncomputable def m_types_isRun (g:Nat) (a0:List UInt8):Option Bool:=
 (
  if((a0.length:Nat):Int)<1 then
   some true
  else
   some (decide (((a0.length:Nat):Int)>16))
 :Option Bool).bind fun(z1:Bool)=>
 if z1=true then
  some false
 else
  jx (J:=Unit) (A:=Bool) (
   Mir.Loop (S:=Nat) (Q:=(Unit)⊕(Bool)) (0:Nat) fun s13=>
    if((s13:Nat):Int)<((a0.length:Nat):Int) then
     ((a0)[s13]?).bind fun x20=>
     (m_types_IsTail g ((x20.toNat:Nat):Int)).bind fun q22=>
     if q22=true then
      (Mir.small a0).bind fun x28=>
      some (.inl (s13+1))
     else
      some (.inr (.inr false))
    else
     some (.inr (.inl ()))
  ) fun z6=>
  some true
noncomputable def m_types_words (g:Nat):Option (List (List UInt8)):=
 some ([[100,97,116,97],[99,108,97,115,115],[105,110,115,116,97,110,99,101],[111,112],[101,110,100],[119,104,101,114,101],[108,101,116],[105,110],[102,114,101,101],[99,97,115,101],[114,105,103,105,100],[111,102],[102,97,105,108]]:List (List UInt8))
noncomputable def m_types_IsSmall (g:Nat) (a0:List UInt8):Option Bool:=
 (
  (m_types_isRun g a0).bind fun q5=>
  if q5=true then
   ((a0)[0]?).bind fun x11=>
   (m_types_isSmall g ((x11.toNat:Nat):Int)).bind fun q13=>
   some (!q13)
  else
   some true
 :Option Bool).bind fun(z1:Bool)=>
 if z1=true then
  some false
 else
  jx (J:=Unit) (A:=Bool) (
   (m_types_words g).bind fun q25=>
   Mir.Loop (S:=Nat) (Q:=(Unit)⊕(Bool)) (0:Nat) fun s34=>
    if((s34:Nat):Int)<((q25.length:Nat):Int) then
     ((q25)[s34]?).bind fun x39=>
     if x39=a0 then
      some (.inr (.inr false))
     else
      some (.inl (s34+1))
    else
     some (.inr (.inl ()))
  ) fun z20=>
  some true
noncomputable def m_types_IsGreat (g:Nat) (a0:List UInt8):Option Bool:=
 (
  (m_types_isRun g a0).bind fun q5=>
  if q5=true then
   ((a0)[0]?).bind fun x11=>
   if((x11.toNat:Nat):Int)≥65 then
    ((a0)[0]?).bind fun x14=>
    some (decide (((x14.toNat:Nat):Int)≤90))
   else
    some false
  else
   some false
 :Option Bool).bind fun(z1:Bool)=>
 some z1
noncomputable def m_types_isNode (g:Nat) (a0:DType):Option Bool:=
 if a0.Name=([45,62]:List UInt8) then
  some (decide (((a0.Args.length:Nat):Int)=2))
 else
  (m_types_IsVar g a0).bind fun q5=>
  if q5=true then
   (
    (m_types_IsSmall g a0.Name).bind fun q14=>
    if q14=true then
     some (decide (((a0.Args.length:Nat):Int)=0))
    else
     some false
   :Option Bool).bind fun(z10:Bool)=>
   some z10
  else
   (
    (m_types_IsGreat g a0.Name).bind fun q26=>
    if q26=true then
     some (decide (((a0.Args.length:Nat):Int)≤8))
    else
     some false
   :Option Bool).bind fun(z22:Bool)=>
   some z22
noncomputable def m_types_Validate_f1 (g:Nat) (a0:DType) (a1:Bool):Option Bool:=
 if a1=true then
  (m_types_isNode g a0).bind fun q5=>
  some q5
 else
  some false
noncomputable def m_types_each:Nat→DType→Bool→Option Bool
 |0,_,_=>none
 |g+1,a0,a1=>
  (m_types_Validate_f1 g a0 a1).bind fun q3=>
  Mir.Loop (S:=Bool×Nat) (Q:=Bool) (q3,(0:Nat)) fun s10=>
   if((s10.2:Nat):Int)<((a0.Args.length:Nat):Int) then
    ((a0.Args)[s10.2]?).bind fun x17=>
    (m_types_each g x17 s10.1).bind fun q29=>
    some (.inl (q29,s10.2+1))
   else
    some (.inr s10.1)
noncomputable def m_types_Validate (g:Nat) (a0:DType):Option Int:=
 (m_types_IsLarge g a0).bind fun q3=>
 if q3=true then
  some (3:Int)
 else
  (m_types_each g a0 true).bind fun q10=>
  if q10=true then
   some (0:Int)
  else
   some (1:Int)
noncomputable def m_data_texts (g:Nat) (a0:DDecls):Option Int:=
 jx (J:=Unit) (A:=Int) (
  Mir.Loop (S:=Nat) (Q:=(Unit)⊕(Int)) (0:Nat) fun s12=>
   if((s12:Nat):Int)<((a0.Datas.length:Nat):Int) then
    jx (J:=Unit) (A:=(Nat)⊕((Unit)⊕(Int))) (
     ((a0.Datas)[s12]?).bind fun x24=>
     Mir.Loop (S:=Nat) (Q:=(Unit)⊕((Nat)⊕((Unit)⊕(Int)))) (0:Nat) fun s42=>
      if((s42:Nat):Int)<((x24.Cons.length:Nat):Int) then
       jx (J:=Unit) (A:=(Nat)⊕((Unit)⊕((Nat)⊕((Unit)⊕(Int))))) (
        ((x24.Cons)[s42]?).bind fun x54=>
        Mir.Loop (S:=Nat) (Q:=(Unit)⊕((Nat)⊕((Unit)⊕((Nat)⊕((Unit)⊕(Int)))))) (0:Nat) fun s68=>
         if((s68:Nat):Int)<((x54.Args.length:Nat):Int) then
          ((x54.Args)[s68]?).bind fun x75=>
          (m_types_Validate g x75).bind fun q87=>
          if q87=0 then
           some (.inl (s68+1))
          else
           some (.inr (.inr (.inr (.inr (.inr (.inr q87))))))
         else
          some (.inr (.inl ()))
       ) fun z49=>
       some (.inl (s42+1))
      else
       some (.inr (.inl ()))
    ) fun z19=>
    some (.inl (s12+1))
   else
    some (.inr (.inl ()))
 ) fun z5=>
 (
  Mir.Loop (S:=Unit) (Q:=Unit) () fun s98=>
   if 0<((a0.Classes.length:Nat):Int) then
    none
   else
    some (.inr ())
 :Option Unit).bind fun(z96:Unit)=>
 some (0:Int)
noncomputable def m_data_Base (g:Nat):Option (List DData):=
 some ([(DData.mk [85,110,105,116] ([]:List (List UInt8)) ([(DCon.mk [85,110,105,116] ([]:List DType))]:List DCon)),(DData.mk [66,111,111,108] ([]:List (List UInt8)) ([(DCon.mk [70,97,108,115,101] ([]:List DType)),(DCon.mk [84,114,117,101] ([]:List DType))]:List DCon)),(DData.mk [76,105,115,116] ([[97]]:List (List UInt8)) ([(DCon.mk [78,105,108] ([]:List DType)),(DCon.mk [67,111,110,115] ([(DType.mk [97] ([]:List DType)),(DType.mk [76,105,115,116] ([(DType.mk [97] ([]:List DType))]:List DType))]:List DType))]:List DCon)),(DData.mk [80,97,105,114] ([[97],[98]]:List (List UInt8)) ([(DCon.mk [80,97,105,114] ([(DType.mk [97] ([]:List DType)),(DType.mk [98] ([]:List DType))]:List DType))]:List DCon)),(DData.mk [78,97,116] ([]:List (List UInt8)) ([(DCon.mk [90,101,114,111] ([]:List DType)),(DCon.mk [83,117,99,99] ([(DType.mk [78,97,116] ([]:List DType))]:List DType))]:List DCon))]:List DData)
noncomputable def m_data_Base_2 (g:Nat):Option (List DData):=
 some ([(DData.mk [85,110,105,116] ([]:List (List UInt8)) ([(DCon.mk [85,110,105,116] ([]:List DType))]:List DCon)),(DData.mk [66,111,111,108] ([]:List (List UInt8)) ([(DCon.mk [70,97,108,115,101] ([]:List DType)),(DCon.mk [84,114,117,101] ([]:List DType))]:List DCon)),(DData.mk [76,105,115,116] ([[97]]:List (List UInt8)) ([(DCon.mk [78,105,108] ([]:List DType)),(DCon.mk [67,111,110,115] ([(DType.mk [97] ([]:List DType)),(DType.mk [76,105,115,116] ([(DType.mk [97] ([]:List DType))]:List DType))]:List DType))]:List DCon)),(DData.mk [80,97,105,114] ([[97],[98]]:List (List UInt8)) ([(DCon.mk [80,97,105,114] ([(DType.mk [97] ([]:List DType)),(DType.mk [98] ([]:List DType))]:List DType))]:List DCon)),(DData.mk [78,97,116] ([]:List (List UInt8)) ([(DCon.mk [90,101,114,111] ([]:List DType)),(DCon.mk [83,117,99,99] ([(DType.mk [78,97,116] ([]:List DType))]:List DType))]:List DCon))]:List DData)
noncomputable def m_data_all (g:Nat) (a0:DDecls):Option (List DData):=
 (m_data_Base_2 g).bind fun q6=>
 (Mir.push 64 q6 a0.Datas).bind fun x21=>
 some x21
noncomputable def m_data_alike (g:Nat) (a0:List (List UInt8)):Option Bool:=
 jx (J:=Unit) (A:=Bool) (
  Mir.Loop (S:=(List ((List UInt8)×Bool))×Nat) (Q:=(Unit)⊕(Bool)) (([]:List ((List UInt8)×Bool)),(0:Nat)) fun s13=>
   if((s13.2:Nat):Int)<((a0.length:Nat):Int) then
    ((a0)[s13.2]?).bind fun x22=>
    (Mir.getD s13.1 x22 false).bind fun x29=>
    if x29=true then
     some (.inr (.inr true))
    else
     (Mir.put s13.1 x22 true).bind fun x39=>
     some (.inl (x39,s13.2+1))
   else
    some (.inr (.inl ()))
 ) fun z4=>
 some false
noncomputable def m_data_twice (g:Nat) (a0:DDecls):Option Int:=
 (
  (m_data_all g a0).bind fun q25=>
  Mir.Loop (S:=List (List UInt8)×List (List UInt8)×Bool×Nat) (Q:=List (List UInt8)×List (List UInt8)×Bool) (([[73,110,116]]:List (List UInt8)),([]:List (List UInt8)),false,(0:Nat)) fun s50=>
   if((s50.2.2.2:Nat):Int)<((q25.length:Nat):Int) then
    (
     ((q25)[s50.2.2.2]?).bind fun x86=>
     (Mir.push 16 s50.1 [x86.Name]).bind fun x107=>
     (
      if s50.2.2.1=true then
       some true
      else
       (m_data_alike g x86.Vars).bind fun q117=>
       some q117
     :Option Bool).bind fun(z110:Bool)=>
     Mir.Loop (S:=List (List UInt8)×Nat) (Q:=List (List UInt8)×List (List UInt8)×Bool) (s50.2.1,(0:Nat)) fun s129=>
      if((s129.2:Nat):Int)<((x86.Cons.length:Nat):Int) then
       ((x86.Cons)[s129.2]?).bind fun x140=>
       (Mir.push 16 s129.1 [x140.Name]).bind fun x157=>
       some (.inl (x157,s129.2+1))
      else
       some (.inr (x107,s129.1,z110))
    :Option (List (List UInt8)×List (List UInt8)×Bool)).bind fun(z70:List (List UInt8)×List (List UInt8)×Bool)=>
    some (.inl (z70.1,z70.2.1,z70.2.2,s50.2.2.2+1))
   else
    some (.inr (s50.1,s50.2.1,s50.2.2.1))
 :Option (List (List UInt8)×List (List UInt8)×Bool)).bind fun(z9:List (List UInt8)×List (List UInt8)×Bool)=>
 (
  Mir.Loop (S:=Unit) (Q:=Unit) () fun s164=>
   if 0<((a0.Classes.length:Nat):Int) then
    none
   else
    some (.inr ())
 :Option Unit).bind fun(z162:Unit)=>
 (
  Mir.Loop (S:=Unit) (Q:=Unit) () fun s172=>
   if 0<((a0.Insts.length:Nat):Int) then
    none
   else
    some (.inr ())
 :Option Unit).bind fun(z170:Unit)=>
 (
  if z9.2.2=true then
   some true
  else
   (m_data_alike g z9.1).bind fun q185=>
   if q185=true then
    some true
   else
    (m_data_alike g z9.2.1).bind fun q192=>
    if q192=true then
     some true
    else
     (m_data_alike g ([]:List (List UInt8))).bind fun q199=>
     if q199=true then
      some true
     else
      (m_data_alike g ([]:List (List UInt8))).bind fun q206=>
      if q206=true then
       some true
      else
       (m_data_alike g ([]:List (List UInt8))).bind fun q213=>
       some q213
 :Option Bool).bind fun(z178:Bool)=>
 if z178=true then
  some (5:Int)
 else
  some (0:Int)
noncomputable def m_data_allTypes (g:Nat) (a0:DDecls):Option (List DType):=
 (
  Mir.Loop (S:=List DType×Nat) (Q:=List DType) (([]:List DType),(0:Nat)) fun s21=>
   if((s21.2:Nat):Int)<((a0.Datas.length:Nat):Int) then
    (
     ((a0.Datas)[s21.2]?).bind fun x41=>
     Mir.Loop (S:=List DType×Nat) (Q:=List DType) (s21.1,(0:Nat)) fun s65=>
      if((s65.2:Nat):Int)<((x41.Cons.length:Nat):Int) then
       ((x41.Cons)[s65.2]?).bind fun x76=>
       (Mir.push 40 s65.1 x76.Args).bind fun x92=>
       some (.inl (x92,s65.2+1))
      else
       some (.inr s65.1)
    :Option (List DType)).bind fun(z33:List DType)=>
    some (.inl (z33,s21.2+1))
   else
    some (.inr s21.1)
 :Option (List DType)).bind fun(z5:List DType)=>
 (
  Mir.Loop (S:=Unit) (Q:=Unit) () fun s99=>
   if 0<((a0.Classes.length:Nat):Int) then
    none
   else
    some (.inr ())
 :Option Unit).bind fun(z97:Unit)=>
 some z5
noncomputable def m_data_nodes:Nat→DType→Option (List DType)
 |0,_=>none
 |g+1,a0=>
  (
   Mir.Loop (S:=List DType×Nat) (Q:=List DType) (([a0]:List DType),(0:Nat)) fun s24=>
    if((s24.2:Nat):Int)<((a0.Args.length:Nat):Int) then
     ((a0.Args)[s24.2]?).bind fun x37=>
     (m_data_nodes g x37).bind fun q49=>
     (Mir.push 40 s24.1 q49).bind fun x61=>
     some (.inl (x61,s24.2+1))
    else
     some (.inr s24.1)
  :Option (List DType)).bind fun(z5:List DType)=>
  some z5
noncomputable def m_data_isVar (g:Nat) (a0:DType):Option Bool:=
 (
  if((a0.Args.length:Nat):Int)=0 then
   (m_data_isSmall g a0.Name).bind fun q8=>
   some q8
  else
   some false
 :Option Bool).bind fun(z3:Bool)=>
 some z3
noncomputable def m_data_named (g:Nat) (a0:DDecls) (a1:List UInt8):Option (DData×Bool):=
 if a1=([73,110,116]:List UInt8) then
  some ((DData.mk [73,110,116] ([]:List (List UInt8)) ([]:List DCon)),true)
 else
  jx (J:=Unit) (A:=DData×Bool) (
   (m_data_all g a0).bind fun q13=>
   Mir.Loop (S:=Nat) (Q:=(Unit)⊕(DData×Bool)) (0:Nat) fun s22=>
    if((s22:Nat):Int)<((q13.length:Nat):Int) then
     ((q13)[s22]?).bind fun x27=>
     if x27.Name=a1 then
      some (.inr (.inr (x27,true)))
     else
      some (.inl (s22+1))
    else
     some (.inr (.inl ()))
  ) fun z8=>
  some ((DData.mk ([]:List UInt8) ([]:List (List UInt8)) ([]:List DCon)),false)
noncomputable def m_data_kinds (g:Nat) (a0:DDecls) (a1:DType) (a2:Int):Option Int:=
 jx (J:=Unit) (A:=Int) (
  (m_data_nodes g a1).bind fun q12=>
  Mir.Loop (S:=Nat) (Q:=(Unit)⊕(Int)) (0:Nat) fun s22=>
   if((s22:Nat):Int)<((q12.length:Nat):Int) then
    jx (J:=Unit) (A:=(Nat)⊕((Unit)⊕(Int))) (
     ((q12)[s22]?).bind fun x34=>
     (
      (m_data_isVar g x34).bind fun q50=>
      if q50=true then
       some true
      else
       some (decide (x34.Name=([45,62]:List UInt8)))
     :Option Bool).bind fun(z46:Bool)=>
     if z46=true then
      some (.inl ())
     else
      (m_data_named g a0 x34.Name).bind fun q59=>
      (
       if q59.2=true then
        if a2=8 then
         some (!decide (((x34.Args.length:Nat):Int)=((q59.1.Vars.length:Nat):Int)))
        else
         some false
       else
        if a2=4 then
         some true
        else
         some false
      :Option Bool).bind fun(z72:Bool)=>
      if z72=true then
       some (.inr (.inr (.inr a2)))
      else
       some (.inl ())
    ) fun z29=>
    some (.inl (s22+1))
   else
    some (.inr (.inl ()))
 ) fun z7=>
 some (0:Int)
noncomputable def m_data_none (g:Nat) (a0:DDecls):Option Int:=
 jx (J:=Unit) (A:=Int) (
  (m_data_allTypes g a0).bind fun q10=>
  Mir.Loop (S:=Nat) (Q:=(Unit)⊕(Int)) (0:Nat) fun s20=>
   if((s20:Nat):Int)<((q10.length:Nat):Int) then
    ((q10)[s20]?).bind fun x27=>
    (m_data_kinds g a0 x27 4).bind fun q39=>
    if q39=0 then
     some (.inl (s20+1))
    else
     some (.inr (.inr (4:Int)))
   else
    some (.inr (.inl ()))
 ) fun z5=>
 (
  Mir.Loop (S:=Unit) (Q:=Unit) () fun s48=>
   if 0<((a0.Classes.length:Nat):Int) then
    none
   else
    some (.inr ())
 :Option Unit).bind fun(z46:Unit)=>
 (
  Mir.Loop (S:=Unit) (Q:=Unit) () fun s56=>
   if 0<((a0.Insts.length:Nat):Int) then
    none
   else
    some (.inr ())
 :Option Unit).bind fun(z54:Unit)=>
 some (0:Int)
noncomputable def m_data_fit (g:Nat) (a0:DDecls):Option Int:=
 jx (J:=Unit) (A:=Int) (
  (m_data_allTypes g a0).bind fun q10=>
  Mir.Loop (S:=Nat) (Q:=(Unit)⊕(Int)) (0:Nat) fun s20=>
   if((s20:Nat):Int)<((q10.length:Nat):Int) then
    ((q10)[s20]?).bind fun x27=>
    (m_data_kinds g a0 x27 8).bind fun q39=>
    if q39=0 then
     some (.inl (s20+1))
    else
     some (.inr (.inr (8:Int)))
   else
    some (.inr (.inl ()))
 ) fun z5=>
 jx (J:=Unit) (A:=Int) (
  Mir.Loop (S:=Nat) (Q:=(Unit)⊕(Int)) (0:Nat) fun s53=>
   if((s53:Nat):Int)<((a0.Datas.length:Nat):Int) then
    jx (J:=Unit) (A:=(Nat)⊕((Unit)⊕(Int))) (
     ((a0.Datas)[s53]?).bind fun x65=>
     Mir.Loop (S:=Nat) (Q:=(Unit)⊕((Nat)⊕((Unit)⊕(Int)))) (0:Nat) fun s83=>
      if((s83:Nat):Int)<((x65.Cons.length:Nat):Int) then
       jx (J:=Unit) (A:=(Nat)⊕((Unit)⊕((Nat)⊕((Unit)⊕(Int))))) (
        ((x65.Cons)[s83]?).bind fun x95=>
        Mir.Loop (S:=Nat) (Q:=(Unit)⊕((Nat)⊕((Unit)⊕((Nat)⊕((Unit)⊕(Int)))))) (0:Nat) fun s109=>
         if((s109:Nat):Int)<((x95.Args.length:Nat):Int) then
          jx (J:=Unit) (A:=(Nat)⊕((Unit)⊕((Nat)⊕((Unit)⊕((Nat)⊕((Unit)⊕(Int))))))) (
           ((x95.Args)[s109]?).bind fun x121=>
           (m_data_nodes g x121).bind fun q133=>
           Mir.Loop (S:=Nat) (Q:=(Unit)⊕((Nat)⊕((Unit)⊕((Nat)⊕((Unit)⊕((Nat)⊕((Unit)⊕(Int)))))))) (0:Nat) fun s143=>
            if((s143:Nat):Int)<((q133.length:Nat):Int) then
             ((q133)[s143]?).bind fun x150=>
             (
              (m_data_isVar g x150).bind fun q166=>
              if q166=true then
               (m_slices_Contains_string_string g x65.Vars x150.Name).bind fun q172=>
               some (!q172)
              else
               some false
             :Option Bool).bind fun(z162:Bool)=>
             if z162=true then
              some (.inr (.inr (.inr (.inr (.inr (.inr (.inr (.inr (8:Int)))))))))
             else
              some (.inl (s143+1))
            else
             some (.inr (.inl ()))
          ) fun z116=>
          some (.inl (s109+1))
         else
          some (.inr (.inl ()))
       ) fun z90=>
       some (.inl (s83+1))
      else
       some (.inr (.inl ()))
    ) fun z60=>
    some (.inl (s53+1))
   else
    some (.inr (.inl ()))
 ) fun z46=>
 some (0:Int)
noncomputable def m_data_loop (g:Nat) (a0:DDecls):Option Int:=
 (
  Mir.Loop (S:=Unit) (Q:=Unit) () fun s7=>
   if 0<((a0.Classes.length:Nat):Int) then
    none
   else
    some (.inr ())
 :Option Unit).bind fun(z5:Unit)=>
 some (0:Int)
noncomputable def m_data_rule (g:Nat) (a0:DDecls):Option Int:=
 (
  Mir.Loop (S:=Unit) (Q:=Unit) () fun s7=>
   if 0<((a0.Classes.length:Nat):Int) then
    none
   else
    some (.inr ())
 :Option Unit).bind fun(z5:Unit)=>
 (
  Mir.Loop (S:=Unit) (Q:=Unit) () fun s15=>
   if 0<((a0.Insts.length:Nat):Int) then
    none
   else
    some (.inr ())
 :Option Unit).bind fun(z13:Unit)=>
 some (0:Int)
noncomputable def m_table1 (g:Nat) (f:Nat) (a0:DDecls):Option Int:=
 if f=59 then m_data_large g a0 else if f=60 then m_data_args g a0 else if f=61 then m_data_texts g a0 else if f=62 then m_data_twice g a0 else if f=63 then m_data_none g a0 else if f=64 then m_data_fit g a0 else if f=65 then m_data_loop g a0 else if f=66 then m_data_rule g a0 else none
noncomputable def m_data_Validate (g:Nat) (a0:DDecls):Option Int:=
 jx (J:=Unit) (A:=Int) (
  Mir.Loop (S:=Nat) (Q:=(Unit)⊕(Int)) (0:Nat) fun s14=>
   if((s14:Nat):Int)<((([59,60,61,62,63,64,65,66]:List Nat).length:Nat):Int) then
    ((([59,60,61,62,63,64,65,66]:List Nat))[s14]?).bind fun x21=>
    (m_table1 g x21 a0).bind fun q29=>
    if q29=0 then
     some (.inl (s14+1))
    else
     some (.inr (.inr q29))
   else
    some (.inr (.inl ()))
 ) fun z5=>
 some (0:Int)
noncomputable def m_syntax_IsCoreName (g:Nat) (a0:List UInt8):Option Bool:=
 (m_types_IsSmall g a0).bind fun q1=>
 if q1=true then
  some true
 else
  (
   if((a0.length:Nat):Int)<1 then
    some true
   else
    if((a0.length:Nat):Int)>16 then
     some true
    else
     ((a0)[0]?).bind fun x11=>
     some (!decide (((x11.toNat:Nat):Int)=95))
  :Option Bool).bind fun(z7:Bool)=>
  if z7=true then
   some false
  else
   jx (J:=Unit) (A:=Bool) (
    Mir.Loop (S:=Nat) (Q:=(Unit)⊕(Bool)) (0:Nat) fun s22=>
     if((s22:Nat):Int)<((a0.length:Nat):Int) then
      ((a0)[s22]?).bind fun x29=>
      (m_types_IsTail g ((x29.toNat:Nat):Int)).bind fun q31=>
      if q31=true then
       (Mir.small a0).bind fun x37=>
       some (.inl (s22+1))
      else
       some (.inr (.inr false))
     else
      some (.inr (.inl ()))
   ) fun z15=>
   some true
noncomputable def m_core_isName (g:Nat) (a0:List UInt8):Option Bool:=
 (
  (m_syntax_IsCoreName g a0).bind fun q5=>
  if q5=true then
   some (!decide (a0=([95]:List UInt8)))
  else
   some false
 :Option Bool).bind fun(z1:Bool)=>
 some z1
noncomputable def m_core_kindOf (g:Nat) (a0:Int):Option INode:=
 if a0=1 then
  some (.c182 (DLeaf.mk true false))
 else
  if a0=2 then
   some (.c182 (DLeaf.mk false true))
  else
   if a0=11 then
    some (.c182 (DLeaf.mk false false))
   else
    if a0=3 then
     some (.c184 (DCall.mk true))
    else
     if a0=4 then
      some (.c184 (DCall.mk false))
     else
      (
       if a0=5 then
        some (decide (a0=5))
       else
        some (decide (a0=8))
      :Option Bool).bind fun(z11:Bool)=>
      if z11=true then
       some (.c186 (DInner.mk 2 false false))
      else
       if a0=6 then
        some (.c186 (DInner.mk 2 true false))
       else
        if a0=7 then
         some (.c186 (DInner.mk 1 false true))
        else
         (
          if a0=9 then
           some (decide (a0=9))
          else
           some (decide (a0=10))
         :Option Bool).bind fun(z21:Bool)=>
         if z21=true then
          some (.c204 (DCases.mk))
         else
          some .nil
noncomputable def m_core_leaf_fits (g:Nat) (a0:DLeaf) (a1:DExpr):Option Bool:=
 (
  if((a1.Kids.length:Nat):Int)=0 then
   if((a1.Names.length:Nat):Int)=0 then
    some (decide (((a1.Alts.length:Nat):Int)=0))
   else
    some false
  else
   some false
 :Option Bool).bind fun(z6:Bool)=>
 some z6
noncomputable def m_core_call_fits (g:Nat) (a0:DCall) (a1:DExpr):Option Bool:=
 (
  if((a1.Kids.length:Nat):Int)≤8 then
   if((a1.Names.length:Nat):Int)=0 then
    some (decide (((a1.Alts.length:Nat):Int)=0))
   else
    some false
  else
   some false
 :Option Bool).bind fun(z6:Bool)=>
 some z6
noncomputable def m_core_inner_fits (g:Nat) (a0:DInner) (a1:DExpr):Option Bool:=
 (
  if((a1.Kids.length:Nat):Int)=a0.kids then
   if((a1.Alts.length:Nat):Int)=0 then
    some (decide (a0.names=(decide (((a1.Names.length:Nat):Int)>0))))
   else
    some false
  else
   some false
 :Option Bool).bind fun(z6:Bool)=>
 some z6
noncomputable def m_core_cases_fits (g:Nat) (a0:DCases) (a1:DExpr):Option Bool:=
 (
  if((a1.Kids.length:Nat):Int)=1 then
   if((a1.Names.length:Nat):Int)=0 then
    if a1.Name=([]:List UInt8) then
     some (decide (a1.N=0))
    else
     some false
   else
    some false
  else
   some false
 :Option Bool).bind fun(z6:Bool)=>
 some z6
noncomputable def m_syntax_IsInt (g:Nat) (a0:Int):Option Bool:=
 (
  if a0≥(-1000000000) then
   some (decide (a0≤1000000000))
  else
   some false
 :Option Bool).bind fun(z1:Bool)=>
 some z1
noncomputable def m_core_isNode (g:Nat) (a0:DExpr):Option Bool:=
 (m_core_kindOf g a0.Op).bind fun q5=>
 (
  INode.on q5
   (
    some (.nil,true)
   )
   (fun y18=>
    (m_core_leaf_fits g y18 a0).bind fun q26=>
    some ((.c182 y18), !q26)
   )
   (fun y19=>
    (m_core_call_fits g y19 a0).bind fun q33=>
    some ((.c184 y19), !q33)
   )
   (fun y20=>
    (m_core_inner_fits g y20 a0).bind fun q40=>
    some ((.c186 y20), !q40)
   )
   (fun y21=>
    (m_core_cases_fits g (DCases.mk) a0).bind fun q47=>
    some ((.c204 (DCases.mk)), !q47)
   )
 :Option (INode×Bool)).bind fun(z11:INode×Bool)=>
 if z11.2=true then
  some false
 else
  jx (J:=Unit) (A:=Bool) (
   INode.on z11.1
    (
     some (.inl ())
    )
    (fun y59=>
     (
      if a0.Name=([]:List UInt8) then
       if y59.name=true then
        (m_core_isName g a0.Name).bind fun q75=>
        if q75=true then
         if a0.N=0 then
          (m_syntax_IsInt g a0.N).bind fun q82=>
          some q82
         else
          if y59.num=true then
           (m_syntax_IsInt g a0.N).bind fun q88=>
           some q88
          else
           some false
        else
         some false
       else
        if a0.N=0 then
         (m_syntax_IsInt g a0.N).bind fun q96=>
         some q96
        else
         if y59.num=true then
          (m_syntax_IsInt g a0.N).bind fun q102=>
          some q102
         else
          some false
      else
       if y59.name=true then
        (m_core_isName g a0.Name).bind fun q109=>
        if q109=true then
         if a0.N=0 then
          (m_syntax_IsInt g a0.N).bind fun q116=>
          some q116
         else
          if y59.num=true then
           (m_syntax_IsInt g a0.N).bind fun q122=>
           some q122
          else
           some false
        else
         some false
       else
        some false
     :Option Bool).bind fun(z68:Bool)=>
     some (.inr z68)
    )
    (fun y60=>
     if y60.great=true then
      (
       if a0.N=0 then
        (m_types_IsGreat g a0.Name).bind fun q139=>
        some q139
       else
        some false
      :Option Bool).bind fun(z134:Bool)=>
      some (.inr z134)
     else
      (
       if a0.N=0 then
        (m_core_isName g a0.Name).bind fun q149=>
        some q149
       else
        some false
      :Option Bool).bind fun(z144:Bool)=>
      some (.inr z144)
    )
    (fun y61=>
     (
      if a0.N=0 then
       if y61.name=true then
        if a0.Name=([]:List UInt8) then
         some true
        else
         (m_core_isName g a0.Name).bind fun q165=>
         if q165=true then
          some (decide (((a0.Names.length:Nat):Int)>12))
         else
          some true
       else
        if a0.Name=([]:List UInt8) then
         some (decide (((a0.Names.length:Nat):Int)>12))
        else
         some true
      else
       some true
     :Option Bool).bind fun(z157:Bool)=>
     if z157=true then
      some (.inr false)
     else
      Mir.Loop (S:=Nat) (Q:=(Unit)⊕(Bool)) (0:Nat) fun s178=>
       if((s178:Nat):Int)<((a0.Names.length:Nat):Int) then
        ((a0.Names)[s178]?).bind fun x185=>
        (m_core_isName g x185).bind fun q192=>
        if q192=true then
         some (.inl (s178+1))
        else
         some (.inr (.inr false))
       else
        some (.inr (.inl ()))
    )
    (fun y62=>
     some (.inl ())
    )
  ) fun z53=>
  some true
noncomputable def m_core_isPlain:Nat→DExpr→Option Bool
 |0,_=>none
 |g+1,a0=>
  (
   if a0.Op=9 then
    some true
   else
    if a0.Op=10 then
     some true
    else
     (m_core_isNode g a0).bind fun q11=>
     some (!q11)
  :Option Bool).bind fun(z5:Bool)=>
  if z5=true then
   some false
  else
   jx (J:=Unit) (A:=Bool) (
    Mir.Loop (S:=Nat) (Q:=(Unit)⊕(Bool)) (0:Nat) fun s24=>
     if((s24:Nat):Int)<((a0.Kids.length:Nat):Int) then
      ((a0.Kids)[s24]?).bind fun x31=>
      (m_core_isPlain g x31).bind fun q51=>
      if q51=true then
       some (.inl (s24+1))
      else
       some (.inr (.inr false))
     else
      some (.inr (.inl ()))
   ) fun z17=>
   some true
noncomputable def m_core_isSimple (g:Nat) (a0:DPat):Option Bool:=
 if a0.Op=4 then
  (
   if a0.Name=([]:List UInt8) then
    if((a0.Kids.length:Nat):Int)=0 then
     (m_syntax_IsInt g a0.N).bind fun q10=>
     some q10
    else
     some false
   else
    some false
  :Option Bool).bind fun(z4:Bool)=>
  some z4
 else
  if a0.Op=3 then
   (
    if a0.N=0 then
     (m_types_IsGreat g a0.Name).bind fun q21=>
     if q21=true then
      some (decide (((a0.Kids.length:Nat):Int)>8))
     else
      some true
    else
     some true
   :Option Bool).bind fun(z16:Bool)=>
   if z16=true then
    some false
   else
    jx (J:=Unit) (A:=Bool) (
     Mir.Loop (S:=Nat) (Q:=(Unit)⊕(Bool)) (0:Nat) fun s37=>
      if((s37:Nat):Int)<((a0.Kids.length:Nat):Int) then
       ((a0.Kids)[s37]?).bind fun x44=>
       (
        if x44.Op=2 then
         if x44.N=0 then
          if((x44.Kids.length:Nat):Int)>0 then
           some true
          else
           (m_core_isName g x44.Name).bind fun q63=>
           some (!q63)
         else
          some true
        else
         some true
       :Option Bool).bind fun(z56:Bool)=>
       if z56=true then
        some (.inr (.inr false))
       else
        some (.inl (s37+1))
      else
       some (.inr (.inl ()))
    ) fun z30=>
    some true
  else
   some false
noncomputable def m_core_isBody:Nat→DExpr→Option Bool
 |0,_=>none
 |g+1,a0=>
  (
   if a0.Op=9 then
    some false
   else
    some (!decide (a0.Op=10))
  :Option Bool).bind fun(z5:Bool)=>
  if z5=true then
   (m_core_isPlain g a0).bind fun q9=>
   some q9
  else
   (
    (m_core_isNode g a0).bind fun q18=>
    if q18=true then
     ((a0.Kids)[0]?).bind fun x24=>
     if x24.Op=1 then
      ((a0.Kids)[0]?).bind fun x44=>
      (m_core_isNode g x44).bind fun q63=>
      some (!q63)
     else
      some true
    else
     some true
   :Option Bool).bind fun(z14:Bool)=>
   if z14=true then
    some false
   else
    jx (J:=Unit) (A:=Bool) (
     Mir.Loop (S:=Nat) (Q:=(Unit)⊕(Bool)) (0:Nat) fun s77=>
      if((s77:Nat):Int)<((a0.Alts.length:Nat):Int) then
       ((a0.Alts)[s77]?).bind fun x84=>
       (
        (m_core_isSimple g x84.P).bind fun q112=>
        if q112=true then
         (m_core_isBody g x84.E).bind fun q118=>
         some (!q118)
        else
         some true
       :Option Bool).bind fun(z108:Bool)=>
       if z108=true then
        some (.inr (.inr false))
       else
        some (.inl (s77+1))
      else
       some (.inr (.inl ()))
    ) fun z70=>
    some true
noncomputable def m_core_builtins (g:Nat):Option (List ((List UInt8)×Int)):=
 (Mir.put ([]:List ((List UInt8)×Int)) [97,100,100] 2).bind fun x3=>
 (Mir.put x3 [115,117,98] 2).bind fun x8=>
 (Mir.put x8 [109,117,108] 2).bind fun x13=>
 (Mir.put x13 [108,101,115,115] 2).bind fun x18=>
 (Mir.put x18 [115,97,109,101] 2).bind fun x23=>
 (Mir.put x23 [117,110,105,102,121] 2).bind fun x28=>
 (Mir.put x28 [98,111,116,104] 2).bind fun x33=>
 (Mir.put x33 [119,104,101,110] 2).bind fun x38=>
 (Mir.put x38 [102,111,114,99,101] 2).bind fun x43=>
 (Mir.put x43 [105,110,115,105,100,101] 3).bind fun x48=>
 (Mir.put x48 [112,108,117,115] 3).bind fun x53=>
 (Mir.put x53 [97,116,109,111,115,116] 2).bind fun x58=>
 (Mir.put x58 [97,112,97,114,116] 2).bind fun x63=>
 (Mir.put x63 [108,97,98,101,108] 1).bind fun x68=>
 some x68
noncomputable def m_core_NewTable (g:Nat) (a0:DCore):Option (List DData×List DData×List DFun×(List ((List UInt8)×Int))×(List ((List UInt8)×Int))×(List ((List UInt8)×Int))×(List ((List UInt8)×Int))):=
 (m_data_Base_2 g).bind fun x4=>
 (Mir.push 64 x4 a0.Datas).bind fun x6=>
 (m_core_builtins g).bind fun x8=>
 (
  Mir.Loop (S:=(List ((List UInt8)×Int))×Nat) (Q:=(List ((List UInt8)×Int))) (([]:List ((List UInt8)×Int)),(0:Nat)) fun s295=>
   if((s295.2:Nat):Int)<((a0.Funs.length:Nat):Int) then
    (
     ((a0.Funs)[s295.2]?).bind fun x310=>
     (Mir.getD s295.1 x310.Name 0).bind fun x334=>
     if(Mir.assoc s295.1 x310.Name).isSome=true then
      some s295.1
     else
      (Mir.put s295.1 x310.Name ((s295.2:Nat):Int)).bind fun x344=>
      some x344
    :Option (List ((List UInt8)×Int))).bind fun(z304:(List ((List UInt8)×Int)))=>
    some (.inl (z304,s295.2+1))
   else
    some (.inr s295.1)
 :Option (List ((List UInt8)×Int))).bind fun(z283:(List ((List UInt8)×Int)))=>
 (
  Mir.Loop (S:=(List ((List UInt8)×Int))×(List ((List UInt8)×Int))×Nat) (Q:=(List ((List UInt8)×Int))×(List ((List UInt8)×Int))) (([]:List ((List UInt8)×Int)),([]:List ((List UInt8)×Int)),(0:Nat)) fun s372=>
   if((s372.2.2:Nat):Int)<((x6.length:Nat):Int) then
    (
     ((x6)[s372.2.2]?).bind fun x395=>
     Mir.Loop (S:=(List ((List UInt8)×Int))×(List ((List UInt8)×Int))×Nat) (Q:=(List ((List UInt8)×Int))×(List ((List UInt8)×Int))) (s372.1,s372.2.1,(0:Nat)) fun s422=>
      if((s422.2.2:Nat):Int)<((x395.Cons.length:Nat):Int) then
       ((x395.Cons)[s422.2.2]?).bind fun x435=>
       (Mir.put s422.1 x435.Name ((x435.Args.length:Nat):Int)).bind fun x448=>
       (Mir.put s422.2.1 x435.Name ((s372.2.2:Nat):Int)).bind fun x454=>
       some (.inl (x448,x454,s422.2.2+1))
      else
       some (.inr (s422.1,s422.2.1))
    :Option ((List ((List UInt8)×Int))×(List ((List UInt8)×Int)))).bind fun(z385:(List ((List UInt8)×Int))×(List ((List UInt8)×Int)))=>
    some (.inl (z385.1,z385.2,s372.2.2+1))
   else
    some (.inr (s372.1,s372.2.1))
 :Option ((List ((List UInt8)×Int))×(List ((List UInt8)×Int)))).bind fun(z351:(List ((List UInt8)×Int))×(List ((List UInt8)×Int)))=>
 some (x6,a0.Datas,a0.Funs,z283,z351.1,z351.2,x8)
noncomputable def m_core_Table_IsOwn (g:Nat) (a0:List UInt8) (a1:List DData) (a2:List DData) (a3:List DFun) (a4:List ((List UInt8)×Int)) (a5:List ((List UInt8)×Int)) (a6:List ((List UInt8)×Int)) (a7:List ((List UInt8)×Int)):Option Bool:=
 (Mir.getD a7 a0 0).bind fun x8=>
 some ((Mir.assoc a7 a0).isSome)
noncomputable def m_core_isTwiceCase:Nat→DExpr→Option Bool
 |0,_=>none
 |g+1,a0=>
  jx (J:=Unit) (A:=Bool) (
   Mir.Loop (S:=Nat) (Q:=(Unit)⊕(Bool)) (0:Nat) fun s12=>
    if((s12:Nat):Int)<((a0.Alts.length:Nat):Int) then
     ((a0.Alts)[s12]?).bind fun x19=>
     jx (J:=Unit) (A:=(Nat)⊕((Unit)⊕(Bool))) (
      (Mir.sub a0.Alts 0 ((s12:Nat):Int)).bind fun x50=>
      Mir.Loop (S:=Nat) (Q:=(Unit)⊕((Nat)⊕((Unit)⊕(Bool)))) (0:Nat) fun s54=>
       if((s54:Nat):Int)<((x50.length:Nat):Int) then
        ((x50)[s54]?).bind fun x59=>
        (
         if x19.P.Op=x59.P.Op then
          if x19.P.Name=x59.P.Name then
           some (decide (x19.P.N=x59.P.N))
          else
           some false
         else
          some false
        :Option Bool).bind fun(z83:Bool)=>
        if z83=true then
         some (.inr (.inr (.inr (.inr true))))
        else
         some (.inl (s54+1))
       else
        some (.inr (.inl ()))
     ) fun z43=>
     (m_core_isTwiceCase g x19.E).bind fun q90=>
     if q90=true then
      some (.inr (.inr true))
     else
      some (.inl (s12+1))
    else
     some (.inr (.inl ()))
  ) fun z5=>
  jx (J:=Unit) (A:=Bool) (
   Mir.Loop (S:=Nat) (Q:=(Unit)⊕(Bool)) (0:Nat) fun s104=>
    if((s104:Nat):Int)<((a0.Kids.length:Nat):Int) then
     ((a0.Kids)[s104]?).bind fun x111=>
     (m_core_isTwiceCase g x111).bind fun q131=>
     if q131=true then
      some (.inr (.inr true))
     else
      some (.inl (s104+1))
    else
     some (.inr (.inl ()))
  ) fun z97=>
  some false
noncomputable def m_syntax_PatNames:Nat→DPat→(List (List UInt8))→Option (List (List UInt8))
 |0,_,_=>none
 |g+1,a0,a1=>
  (
   if a0.Op=2 then
    (Mir.push 16 a1 [a0.Name]).bind fun x18=>
    some x18
   else
    some a1
  :Option (List (List UInt8))).bind fun(z4:List (List UInt8))=>
  (
   Mir.Loop (S:=List (List UInt8)×Nat) (Q:=List (List UInt8)) (z4,(0:Nat)) fun s41=>
    if((s41.2:Nat):Int)<((a0.Kids.length:Nat):Int) then
     ((a0.Kids)[s41.2]?).bind fun x54=>
     (m_syntax_PatNames g x54 s41.1).bind fun q66=>
     some (.inl (q66,s41.2+1))
    else
     some (.inr s41.1)
  :Option (List (List UInt8))).bind fun(z22:List (List UInt8))=>
  some z22
noncomputable def m_core_binders:Nat→DExpr→(List (List UInt8))→Option (List (List UInt8))
 |0,_,_=>none
 |g+1,a0,a1=>
  (
   if a0.Op=6 then
    (Mir.push 16 a1 [a0.Name]).bind fun x20=>
    some x20
   else
    some a1
  :Option (List (List UInt8))).bind fun(z6:List (List UInt8))=>
  (Mir.push 16 z6 a0.Names).bind fun x28=>
  (
   Mir.Loop (S:=List (List UInt8)×Nat) (Q:=List (List UInt8)) (x28,(0:Nat)) fun s50=>
    if((s50.2:Nat):Int)<((a0.Kids.length:Nat):Int) then
     ((a0.Kids)[s50.2]?).bind fun x63=>
     (m_core_binders g x63 s50.1).bind fun q83=>
     some (.inl (q83,s50.2+1))
    else
     some (.inr s50.1)
  :Option (List (List UInt8))).bind fun(z31:List (List UInt8))=>
  (
   Mir.Loop (S:=List (List UInt8)×Nat) (Q:=List (List UInt8)) (z31,(0:Nat)) fun s113=>
    if((s113.2:Nat):Int)<((a0.Alts.length:Nat):Int) then
     ((a0.Alts)[s113.2]?).bind fun x126=>
     (m_syntax_PatNames g x126.P s113.1).bind fun q150=>
     (m_core_binders g x126.E q150).bind fun q160=>
     some (.inl (q160,s113.2+1))
    else
     some (.inr s113.1)
  :Option (List (List UInt8))).bind fun(z94:List (List UInt8))=>
  some z94
noncomputable def m_syntax_IsTwice (g:Nat) (a0:List (List UInt8)):Option Bool:=
 jx (J:=Unit) (A:=Bool) (
  Mir.Loop (S:=(List ((List UInt8)×Bool))×Nat) (Q:=(Unit)⊕(Bool)) (([]:List ((List UInt8)×Bool)),(0:Nat)) fun s13=>
   if((s13.2:Nat):Int)<((a0.length:Nat):Int) then
    ((a0)[s13.2]?).bind fun x22=>
    (Mir.getD s13.1 x22 false).bind fun x29=>
    if x29=true then
     some (.inr (.inr true))
    else
     (Mir.put s13.1 x22 true).bind fun x39=>
     some (.inl (x39,s13.2+1))
   else
    some (.inr (.inl ()))
 ) fun z4=>
 some false
noncomputable def m_core_Table_FunArity (g:Nat) (a0:List UInt8) (a1:List DData) (a2:List DData) (a3:List DFun) (a4:List ((List UInt8)×Int)) (a5:List ((List UInt8)×Int)) (a6:List ((List UInt8)×Int)) (a7:List ((List UInt8)×Int)):Option (Int×Bool):=
 (Mir.getD a4 a0 0).bind fun x8=>
 if(Mir.assoc a4 a0).isSome=true then
  (Mir.idx a3 x8).bind fun x17=>
  some (((x17.Vars.length:Nat):Int),true)
 else
  (Mir.getD a7 a0 0).bind fun x41=>
  some (x41,(Mir.assoc a7 a0).isSome)
noncomputable def m_core_Table_isTwice (g:Nat) (a0:List (List UInt8)) (a1:List DData) (a2:List DData) (a3:List DFun) (a4:List ((List UInt8)×Int)) (a5:List ((List UInt8)×Int)) (a6:List ((List UInt8)×Int)) (a7:List ((List UInt8)×Int)):Option Bool:=
 (m_syntax_IsTwice g a0).bind fun q9=>
 if q9=true then
  some true
 else
  jx (J:=Unit) (A:=Bool) (
   Mir.Loop (S:=Nat) (Q:=(Unit)⊕(Bool)) (0:Nat) fun s22=>
    if((s22:Nat):Int)<((a0.length:Nat):Int) then
     ((a0)[s22]?).bind fun x29=>
     (m_core_Table_FunArity g x29 a1 a2 a3 a4 a5 a6 a7).bind fun q36=>
     if q36.2=true then
      some (.inr (.inr true))
     else
      some (.inl (s22+1))
    else
     some (.inr (.inl ()))
  ) fun z15=>
  some false
noncomputable def m_core_with (g:Nat) (a0:List (List UInt8)):Option (List ((List UInt8)×Bool)):=
 (
  Mir.Loop (S:=Unit) (Q:=Unit) () fun s7=>
   some (.inr ())
 :Option Unit).bind fun(z4:Unit)=>
 (
  Mir.Loop (S:=(List ((List UInt8)×Bool))×Nat) (Q:=(List ((List UInt8)×Bool))) (([]:List ((List UInt8)×Bool)),(0:Nat)) fun s23=>
   if((s23.2:Nat):Int)<((a0.length:Nat):Int) then
    ((a0)[s23.2]?).bind fun x32=>
    (Mir.put s23.1 x32 true).bind fun x39=>
    some (.inl (x39,s23.2+1))
   else
    some (.inr s23.1)
 :Option (List ((List UInt8)×Bool))).bind fun(z11:(List ((List UInt8)×Bool)))=>
 some z11
noncomputable def m_core_Table_isLost_f1 (g:Nat) (a0:List (List UInt8)) (a1:List (List UInt8)) (a2:List ((List UInt8)×Bool)):Option (List (List UInt8)×(List ((List UInt8)×Bool))):=
 (
  Mir.Loop (S:=(List ((List UInt8)×Bool))×Nat) (Q:=(List ((List UInt8)×Bool))) (a2,(0:Nat)) fun s16=>
   if((s16.2:Nat):Int)<((a0.length:Nat):Int) then
    ((a0)[s16.2]?).bind fun x25=>
    (Mir.put s16.1 x25 true).bind fun x32=>
    some (.inl (x32,s16.2+1))
   else
    some (.inr s16.1)
 :Option (List ((List UInt8)×Bool))).bind fun(z4:(List ((List UInt8)×Bool)))=>
 (Mir.push 16 a1 a0).bind fun x42=>
 some (x42,z4)
noncomputable def m_core_Table_isLost_f1_2 (g:Nat) (a0:List (List UInt8)) (a1:List (List UInt8)) (a2:List ((List UInt8)×Bool)):Option (List (List UInt8)×(List ((List UInt8)×Bool))):=
 (
  Mir.Loop (S:=(List ((List UInt8)×Bool))×Nat) (Q:=(List ((List UInt8)×Bool))) (a2,(0:Nat)) fun s16=>
   if((s16.2:Nat):Int)<((a0.length:Nat):Int) then
    ((a0)[s16.2]?).bind fun x25=>
    (Mir.put s16.1 x25 true).bind fun x33=>
    some (.inl (x33,s16.2+1))
   else
    some (.inr s16.1)
 :Option (List ((List UInt8)×Bool))).bind fun(z4:(List ((List UInt8)×Bool)))=>
 (Mir.push 16 a1 a0).bind fun x43=>
 some (x43,z4)
noncomputable def m_core_Table_isLost:Nat→DExpr→(List DData)→(List DData)→(List DFun)→(List ((List UInt8)×Bool))→(List ((List UInt8)×Int))→(List ((List UInt8)×Int))→(List ((List UInt8)×Int))→(List ((List UInt8)×Int))→Option (Bool×(List ((List UInt8)×Bool)))
 |0,_,_,_,_,_,_,_,_,_=>none
 |g+1,a0,a1,a2,a3,a4,a5,a6,a7,a8=>
  (
   if a0.Op=1 then
    (Mir.getD a4 a0.Name false).bind fun x19=>
    some x19
   else
    if a0.Op=4 then
     (m_core_Table_FunArity g a0.Name a1 a2 a3 a5 a6 a7 a8).bind fun q29=>
     some q29.2
    else
     if a0.Op=3 then
      (Mir.getD a6 a0.Name 0).bind fun x35=>
      some ((Mir.assoc a6 a0.Name).isSome)
     else
      some true
  :Option Bool).bind fun(z14:Bool)=>
  if z14=true then
   (
    if a0.Op=7 then
     (m_core_Table_isLost_f1 g a0.Names ([]:List (List UInt8)) a4).bind fun q63=>
     some (q63.2,q63.1)
    else
     some (a4,([]:List (List UInt8)))
   :Option ((List ((List UInt8)×Bool))×List (List UInt8))).bind fun(z47:(List ((List UInt8)×Bool))×List (List UInt8))=>
   (
    Mir.Loop (S:=(List ((List UInt8)×Bool))×List (List UInt8)×Bool×Nat) (Q:=(List ((List UInt8)×Bool))×List (List UInt8)×Bool) (z47.1,z47.2,false,(0:Nat)) fun s115=>
     if((s115.2.2.2:Nat):Int)<((a0.Kids.length:Nat):Int) then
      (
       ((a0.Kids)[s115.2.2.2]?).bind fun x146=>
       (
        (
         if a0.Op=6 then
          some (decide (((s115.2.2.2:Nat):Int)=1))
         else
          some false
        :Option Bool).bind fun(z180:Bool)=>
        if z180=true then
         (m_core_Table_isLost_f1_2 g ([a0.Name]:List (List UInt8)) s115.2.1 s115.1).bind fun q186=>
         some (q186.2,q186.1)
        else
         some (s115.1,s115.2.1)
       :Option ((List ((List UInt8)×Bool))×List (List UInt8))).bind fun(z166:(List ((List UInt8)×Bool))×List (List UInt8))=>
       if s115.2.2.1=true then
        some (z166.1,z166.2,true)
       else
        (m_core_Table_isLost g x146 a1 a2 a3 z166.1 a5 a6 a7 a8).bind fun q203=>
        some (q203.2,z166.2,q203.1)
      :Option ((List ((List UInt8)×Bool))×List (List UInt8)×Bool)).bind fun(z132:(List ((List UInt8)×Bool))×List (List UInt8)×Bool)=>
      some (.inl (z132.1,z132.2.1,z132.2.2,s115.2.2.2+1))
     else
      some (.inr (s115.1,s115.2.1,s115.2.2.1))
   :Option ((List ((List UInt8)×Bool))×List (List UInt8)×Bool)).bind fun(z78:(List ((List UInt8)×Bool))×List (List UInt8)×Bool)=>
   (
    Mir.Loop (S:=(List ((List UInt8)×Bool))×List (List UInt8)×Bool×Nat) (Q:=(List ((List UInt8)×Bool))×List (List UInt8)×Bool) (z78.1,z78.2.1,z78.2.2,(0:Nat)) fun s240=>
     if((s240.2.2.2:Nat):Int)<((a0.Alts.length:Nat):Int) then
      (
       ((a0.Alts)[s240.2.2.2]?).bind fun x271=>
       (
        (Mir.getD a6 x271.P.Name 0).bind fun x297=>
        (
         if x271.P.Op=3 then
          some (!((Mir.assoc a6 x271.P.Name).isSome))
         else
          some false
        :Option Bool).bind fun(z305:Bool)=>
        if z305=true then
         some true
        else
         some s240.2.2.1
       :Option Bool).bind fun(z295:Bool)=>
       (m_syntax_PatNames g x271.P ([]:List (List UInt8))).bind fun q311=>
       (m_core_Table_isLost_f1_2 g q311 s240.2.1 s240.1).bind fun q321=>
       (
        if z295=true then
         some (q321.2,true)
        else
         (m_core_Table_isLost g x271.E a1 a2 a3 q321.2 a5 a6 a7 a8).bind fun q345=>
         some (q345.2,q345.1)
       :Option ((List ((List UInt8)×Bool))×Bool)).bind fun(z334:(List ((List UInt8)×Bool))×Bool)=>
       (Mir.sub q321.1 ((s240.2.1.length:Nat):Int) ((q321.1.length:Nat):Int)).bind fun x352=>
       Mir.Loop (S:=(List ((List UInt8)×Bool))×Nat) (Q:=(List ((List UInt8)×Bool))×List (List UInt8)×Bool) (z334.1,(0:Nat)) fun s366=>
        if((s366.2:Nat):Int)<((x352.length:Nat):Int) then
         ((x352)[s366.2]?).bind fun x375=>
         some (.inl ((Mir.del s366.1 x375),s366.2+1))
        else
         some (.inr (s366.1,q321.1,z334.2))
      :Option ((List ((List UInt8)×Bool))×List (List UInt8)×Bool)).bind fun(z257:(List ((List UInt8)×Bool))×List (List UInt8)×Bool)=>
      some (.inl (z257.1,z257.2.1,z257.2.2,s240.2.2.2+1))
     else
      some (.inr (s240.1,s240.2.1,s240.2.2.1))
   :Option ((List ((List UInt8)×Bool))×List (List UInt8)×Bool)).bind fun(z211:(List ((List UInt8)×Bool))×List (List UInt8)×Bool)=>
   (
    Mir.Loop (S:=(List ((List UInt8)×Bool))×Nat) (Q:=(List ((List UInt8)×Bool))) (z211.1,(0:Nat)) fun s403=>
     if((s403.2:Nat):Int)<((z211.2.1.length:Nat):Int) then
      ((z211.2.1)[s403.2]?).bind fun x412=>
      some (.inl ((Mir.del s403.1 x412),s403.2+1))
     else
      some (.inr s403.1)
   :Option (List ((List UInt8)×Bool))).bind fun(z391:(List ((List UInt8)×Bool)))=>
   some (z211.2.2,z391)
  else
   some (true,a4)
noncomputable def m_core_Table_isUnfit:Nat→DExpr→(List DData)→(List DData)→(List DFun)→(List ((List UInt8)×Int))→(List ((List UInt8)×Int))→(List ((List UInt8)×Int))→(List ((List UInt8)×Int))→Option Bool
 |0,_,_,_,_,_,_,_,_=>none
 |g+1,a0,a1,a2,a3,a4,a5,a6,a7=>
  jx (J:=Unit) (A:=Bool) (
   if a0.Op=4 then
    (m_core_Table_FunArity g a0.Name a1 a2 a3 a4 a5 a6 a7).bind fun q18=>
    if((a0.Kids.length:Nat):Int)>q18.1 then
     some (.inr true)
    else
     some (.inl ())
   else
    if a0.Op=3 then
     (Mir.getD a5 a0.Name 0).bind fun x26=>
     if((a0.Kids.length:Nat):Int)>x26 then
      some (.inr true)
     else
      some (.inl ())
    else
     some (.inl ())
  ) fun z12=>
  jx (J:=Unit) (A:=Bool) (
   Mir.Loop (S:=Nat) (Q:=(Unit)⊕(Bool)) (0:Nat) fun s44=>
    if((s44:Nat):Int)<((a0.Alts.length:Nat):Int) then
     ((a0.Alts)[s44]?).bind fun x51=>
     ((a0.Alts)[0]?).bind fun x75=>
     (
      if x51.P.Op=x75.P.Op then
       if x51.P.Op=3 then
        (Mir.getD a5 x51.P.Name 0).bind fun x105=>
        if((x51.P.Kids.length:Nat):Int)=x105 then
         (Mir.getD a6 x51.P.Name 0).bind fun x114=>
         (Mir.getD a6 x75.P.Name 0).bind fun x122=>
         if x114=x122 then
          (m_core_Table_isUnfit g x51.E a1 a2 a3 a4 a5 a6 a7).bind fun q132=>
          some q132
         else
          some true
        else
         some true
       else
        (m_core_Table_isUnfit g x51.E a1 a2 a3 a4 a5 a6 a7).bind fun q139=>
        some q139
      else
       some true
     :Option Bool).bind fun(z99:Bool)=>
     if z99=true then
      some (.inr (.inr true))
     else
      some (.inl (s44+1))
    else
     some (.inr (.inl ()))
  ) fun z37=>
  jx (J:=Unit) (A:=Bool) (
   Mir.Loop (S:=Nat) (Q:=(Unit)⊕(Bool)) (0:Nat) fun s154=>
    if((s154:Nat):Int)<((a0.Kids.length:Nat):Int) then
     ((a0.Kids)[s154]?).bind fun x161=>
     (m_core_Table_isUnfit g x161 a1 a2 a3 a4 a5 a6 a7).bind fun q181=>
     if q181=true then
      some (.inr (.inr true))
     else
      some (.inl (s154+1))
    else
     some (.inr (.inl ()))
  ) fun z147=>
  some false
noncomputable def m_core_Validate (g:Nat) (a0:DCore):Option Int:=
 if((a0.Funs.length:Nat):Int)>120 then
  some (3:Int)
 else
  jx (J:=Unit) (A:=Int) (
   Mir.Loop (S:=Nat) (Q:=(Unit)⊕(Int)) (0:Nat) fun s13=>
    if((s13:Nat):Int)<((a0.Funs.length:Nat):Int) then
     ((a0.Funs)[s13]?).bind fun x20=>
     (m_core_IsLarge g x20.E).bind fun q44=>
     if q44=true then
      some (.inr (.inr (3:Int)))
     else
      some (.inl (s13+1))
    else
     some (.inr (.inl ()))
  ) fun z6=>
  (m_data_Validate g (DDecls.mk a0.Datas ([]:List DClass) ([]:List DInst))).bind fun q51=>
  if q51=0 then
   jx (J:=Unit) (A:=Int) (
    Mir.Loop (S:=Nat) (Q:=(Unit)⊕(Int)) (0:Nat) fun s64=>
     if((s64:Nat):Int)<((a0.Funs.length:Nat):Int) then
      jx (J:=Unit) (A:=(Nat)⊕((Unit)⊕(Int))) (
       ((a0.Funs)[s64]?).bind fun x76=>
       (
        (m_core_isName g x76.Name).bind fun q104=>
        if q104=true then
         if((x76.Vars.length:Nat):Int)>8 then
          some true
         else
          (m_core_isBody g x76.E).bind fun q111=>
          some (!q111)
        else
         some true
       :Option Bool).bind fun(z100:Bool)=>
       if z100=true then
        some (.inr (.inr (.inr (1:Int))))
       else
        Mir.Loop (S:=Nat) (Q:=(Unit)⊕((Nat)⊕((Unit)⊕(Int)))) (0:Nat) fun s120=>
         if((s120:Nat):Int)<((x76.Vars.length:Nat):Int) then
          ((x76.Vars)[s120]?).bind fun x127=>
          (m_core_isName g x127).bind fun q134=>
          if q134=true then
           some (.inl (s120+1))
          else
           some (.inr (.inr (.inr (.inr (1:Int)))))
         else
          some (.inr (.inl ()))
      ) fun z71=>
      some (.inl (s64+1))
     else
      some (.inr (.inl ()))
   ) fun z57=>
   (m_core_NewTable g a0).bind fun q142=>
   jx (J:=Unit) (A:=Int) (
    Mir.Loop (S:=(List ((List UInt8)×Bool))×Nat) (Q:=(Unit)⊕(Int)) (([]:List ((List UInt8)×Bool)),(0:Nat)) fun s189=>
     if((s189.2:Nat):Int)<((a0.Funs.length:Nat):Int) then
      ((a0.Funs)[s189.2]?).bind fun x200=>
      (
       (Mir.getD s189.1 x200.Name false).bind fun x228=>
       if x228=true then
        some true
       else
        (m_core_Table_IsOwn g x200.Name q142.1 q142.2.1 q142.2.2.1 q142.2.2.2.1 q142.2.2.2.2.1 q142.2.2.2.2.2.1 q142.2.2.2.2.2.2).bind fun q246=>
        if q246=true then
         some true
        else
         (m_core_isTwiceCase g x200.E).bind fun q256=>
         if q256=true then
          some true
         else
          (Mir.push 16 ([]:List (List UInt8)) x200.Vars).bind fun x271=>
          (m_core_binders g x200.E x271).bind fun q275=>
          (m_core_Table_isTwice g q275 q142.1 q142.2.1 q142.2.2.1 q142.2.2.2.1 q142.2.2.2.2.1 q142.2.2.2.2.2.1 q142.2.2.2.2.2.2).bind fun q286=>
          some q286
      :Option Bool).bind fun(z224:Bool)=>
      if z224=true then
       some (.inr (.inr (5:Int)))
      else
       (Mir.put s189.1 x200.Name true).bind fun x292=>
       some (.inl (x292,s189.2+1))
     else
      some (.inr (.inl ()))
   ) fun z177=>
   jx (J:=Unit) (A:=Int) (
    Mir.Loop (S:=Nat) (Q:=(Unit)⊕(Int)) (0:Nat) fun s305=>
     if((s305:Nat):Int)<((a0.Funs.length:Nat):Int) then
      ((a0.Funs)[s305]?).bind fun x312=>
      (m_core_with g x312.Vars).bind fun q337=>
      (m_core_Table_isLost g x312.E q142.1 q142.2.1 q142.2.2.1 q337 q142.2.2.2.1 q142.2.2.2.2.1 q142.2.2.2.2.2.1 q142.2.2.2.2.2.2).bind fun q346=>
      if q346.1=true then
       some (.inr (.inr (4:Int)))
      else
       some (.inl (s305+1))
     else
      some (.inr (.inl ()))
   ) fun z298=>
   jx (J:=Unit) (A:=Int) (
    Mir.Loop (S:=Nat) (Q:=(Unit)⊕(Int)) (0:Nat) fun s363=>
     if((s363:Nat):Int)<((a0.Funs.length:Nat):Int) then
      ((a0.Funs)[s363]?).bind fun x370=>
      (m_core_Table_isUnfit g x370.E q142.1 q142.2.1 q142.2.2.1 q142.2.2.2.1 q142.2.2.2.2.1 q142.2.2.2.2.2.1 q142.2.2.2.2.2.2).bind fun q394=>
      if q394=true then
       some (.inr (.inr (8:Int)))
      else
       some (.inl (s363+1))
     else
      some (.inr (.inl ()))
   ) fun z356=>
   some (0:Int)
  else
   some q51
noncomputable def m_graph_isNode (g:Nat) (a0:DNode) (a1:Int):Option Bool:=
 jx (J:=Unit) (A:=Bool) (
  Mir.Loop (S:=Nat) (Q:=(Unit)⊕(Bool)) (0:Nat) fun s7=>
   if((s7:Nat):Int)<((a0.Kids.length:Nat):Int) then
    ((a0.Kids)[s7]?).bind fun x12=>
    (
     if x12<0 then
      some true
     else
      some (decide (x12≥a1))
    :Option Bool).bind fun(z19:Bool)=>
    if z19=true then
     some (.inr (.inr false))
    else
     some (.inl (s7+1))
   else
    some (.inr (.inl ()))
 ) fun z3=>
 (
  if a0.Name=([]:List UInt8) then
   some (decide (a0.N=0))
  else
   some false
 :Option Bool).bind fun(z25:Bool)=>
 if a0.Op=1 then
  (
   (m_types_IsGreat g a0.Name).bind fun q33=>
   if q33=true then
    if a0.N=0 then
     some (decide (((a0.Kids.length:Nat):Int)≤8))
    else
     some false
   else
    some false
  :Option Bool).bind fun(z29:Bool)=>
  some z29
 else
  if a0.Op=3 then
   (
    (m_syntax_IsCoreName g a0.Name).bind fun q47=>
    if q47=true then
     if a0.Name=([95]:List UInt8) then
      some false
     else
      if a0.N=0 then
       some (decide (((a0.Kids.length:Nat):Int)≤8))
      else
       some false
    else
     some false
   :Option Bool).bind fun(z43:Bool)=>
   some z43
  else
   if a0.Op=2 then
    (
     if a0.Name=([]:List UInt8) then
      (m_syntax_IsInt g a0.N).bind fun q63=>
      if q63=true then
       some (decide (((a0.Kids.length:Nat):Int)=0))
      else
       some false
     else
      some false
    :Option Bool).bind fun(z58:Bool)=>
    some z58
   else
    (
     if a0.Op=4 then
      some (decide (a0.Op=4))
     else
      some (decide (a0.Op=5))
    :Option Bool).bind fun(z71:Bool)=>
    if z71=true then
     (
      if z25=true then
       some (decide (((a0.Kids.length:Nat):Int)=2))
      else
       some false
     :Option Bool).bind fun(z76:Bool)=>
     some z76
    else
     (
      if a0.Op=6 then
       some (decide (a0.Op=6))
      else
       some (decide (a0.Op=7))
     :Option Bool).bind fun(z82:Bool)=>
     if z82=true then
      (
       if z25=true then
        some (decide (((a0.Kids.length:Nat):Int)=0))
       else
        some false
      :Option Bool).bind fun(z87:Bool)=>
      some z87
     else
      some false
noncomputable def m_graph_Shape (g:Nat) (a0:DGraph) (a1:Bool) (a2:List DData) (a3:List DData) (a4:List DFun) (a5:List ((List UInt8)×Int)) (a6:List ((List UInt8)×Int)) (a7:List ((List UInt8)×Int)) (a8:List ((List UInt8)×Int)):Option Int:=
 if((a0.Nodes.length:Nat):Int)>3000 then
  some (3:Int)
 else
  (
   if((a0.Nodes.length:Nat):Int)=0 then
    some true
   else
    if a0.Root<0 then
     some true
    else
     some (decide (a0.Root≥((a0.Nodes.length:Nat):Int)))
  :Option Bool).bind fun(z12:Bool)=>
  if z12=true then
   some (1:Int)
  else
   jx (J:=Unit) (A:=Int) (
    Mir.Loop (S:=Bool×Nat) (Q:=(Unit)⊕(Int)) (a1,(0:Nat)) fun s26=>
     if((s26.2:Nat):Int)<((a0.Nodes.length:Nat):Int) then
      ((a0.Nodes)[s26.2]?).bind fun x33=>
      jx (J:=Bool×Int) (A:=(Bool×Nat)⊕((Unit)⊕(Int))) (
       (
        if s26.1=true then
         some (true,decide (x33.Op=5))
        else
         some (false,false)
       :Option (Bool×Bool)).bind fun(z48:Bool×Bool)=>
       if z48.2=true then
        (
         if x33.N<1 then
          some true
         else
          some (decide (x33.N>3000))
        :Option Bool).bind fun(z54:Bool)=>
        if z54=true then
         some (.inr (.inr (.inr (1:Int))))
        else
         some (.inl (z48.1,(0:Int)))
       else
        some (.inl (z48.1,x33.N))
      ) fun z45=>
      (m_graph_isNode g (DNode.mk x33.Op x33.Name z45.2 x33.Kids) ((a0.Nodes.length:Nat):Int)).bind fun q60=>
      if q60=true then
       some (.inl (z45.1,s26.2+1))
      else
       some (.inr (.inr (1:Int)))
     else
      some (.inr (.inl ()))
   ) fun z18=>
   jx (J:=Unit) (A:=Int) (
    Mir.Loop (S:=Nat) (Q:=(Unit)⊕(Int)) (0:Nat) fun s74=>
     if((s74:Nat):Int)<((a0.Nodes.length:Nat):Int) then
      ((a0.Nodes)[s74]?).bind fun x81=>
      (m_core_Table_FunArity g x81.Name a2 a3 a4 a5 a6 a7 a8).bind fun q93=>
      (Mir.getD a6 x81.Name 0).bind fun x97=>
      (
       if x81.Op=3 then
        if q93.2=true then
         if x81.Op=1 then
          some (!((Mir.assoc a6 x81.Name).isSome))
         else
          some false
        else
         some true
       else
        if x81.Op=1 then
         some (!((Mir.assoc a6 x81.Name).isSome))
        else
         some false
      :Option Bool).bind fun(z105:Bool)=>
      if z105=true then
       some (.inr (.inr (4:Int)))
      else
       some (.inl (s74+1))
     else
      some (.inr (.inl ()))
   ) fun z67=>
   jx (J:=Unit) (A:=Int) (
    Mir.Loop (S:=Nat) (Q:=(Unit)⊕(Int)) (0:Nat) fun s123=>
     if((s123:Nat):Int)<((a0.Nodes.length:Nat):Int) then
      ((a0.Nodes)[s123]?).bind fun x130=>
      (m_core_Table_FunArity g x130.Name a2 a3 a4 a5 a6 a7 a8).bind fun q142=>
      (
       if x130.Op=3 then
        if((x130.Kids.length:Nat):Int)>q142.1 then
         some true
        else
         if x130.Op=1 then
          (Mir.getD a6 x130.Name 0).bind fun x151=>
          some (decide (((x130.Kids.length:Nat):Int)>x151))
         else
          some false
       else
        if x130.Op=1 then
         (Mir.getD a6 x130.Name 0).bind fun x160=>
         some (decide (((x130.Kids.length:Nat):Int)>x160))
        else
         some false
      :Option Bool).bind fun(z146:Bool)=>
      if z146=true then
       some (.inr (.inr (8:Int)))
      else
       some (.inl (s123+1))
     else
      some (.inr (.inl ()))
   ) fun z116=>
   some (0:Int)
noncomputable def m_graph_Validate (g:Nat) (a0:DCore) (a1:DGraph):Option Int:=
 (m_core_Validate g a0).bind fun q6=>
 if q6=0 then
  (m_core_NewTable g a0).bind fun q13=>
  (m_graph_Shape g a1 false q13.1 q13.2.1 q13.2.2.1 q13.2.2.2.1 q13.2.2.2.2.1 q13.2.2.2.2.2.1 q13.2.2.2.2.2.2).bind fun q47=>
  some q47
 else
  some q6
noncomputable def m_core_GoalOf (g:Nat) (a0:DGoal) (a1:List DData) (a2:List DData) (a3:List DFun) (a4:List ((List UInt8)×Int)) (a5:List ((List UInt8)×Int)) (a6:List ((List UInt8)×Int)) (a7:List ((List UInt8)×Int)):Option Int:=
 (m_core_IsLarge g a0.E).bind fun q13=>
 if q13=true then
  some (3:Int)
 else
  (
   if((a0.Vars.length:Nat):Int)>12 then
    some true
   else
    (m_core_isPlain g a0.E).bind fun q24=>
    some (!q24)
  :Option Bool).bind fun(z19:Bool)=>
  if z19=true then
   some (1:Int)
  else
   jx (J:=Unit) (A:=Int) (
    Mir.Loop (S:=Nat) (Q:=(Unit)⊕(Int)) (0:Nat) fun s37=>
     if((s37:Nat):Int)<((a0.Vars.length:Nat):Int) then
      ((a0.Vars)[s37]?).bind fun x44=>
      (m_core_isName g x44).bind fun q51=>
      if q51=true then
       some (.inl (s37+1))
      else
       some (.inr (.inr (1:Int)))
     else
      some (.inr (.inl ()))
   ) fun z30=>
   (Mir.push 16 ([]:List (List UInt8)) a0.Vars).bind fun x64=>
   (m_core_binders g a0.E x64).bind fun q68=>
   (m_core_Table_isTwice g q68 a1 a2 a3 a4 a5 a6 a7).bind fun q79=>
   if q79=true then
    some (5:Int)
   else
    (m_core_with g a0.Vars).bind fun q86=>
    (m_core_Table_isLost g a0.E a1 a2 a3 q86 a4 a5 a6 a7).bind fun q95=>
    if q95.1=true then
     some (4:Int)
    else
     (m_core_Table_isUnfit g a0.E a1 a2 a3 a4 a5 a6 a7).bind fun q104=>
     if q104=true then
      some (8:Int)
     else
      some (0:Int)
noncomputable def m_core_Goal (g:Nat) (a0:DCore) (a1:DGoal):Option Int:=
 (m_core_Validate g a0).bind fun q9=>
 if q9=0 then
  (m_core_NewTable g a0).bind fun q16=>
  (m_core_GoalOf g a1 q16.1 q16.2.1 q16.2.2.1 q16.2.2.2.1 q16.2.2.2.2.1 q16.2.2.2.2.2.1 q16.2.2.2.2.2.2).bind fun q50=>
  some q50
 else
  some q9
noncomputable def m_graph_Grow_f2 (g:Nat) (a0:List (List UInt8)) (a1:List Int) (a2:List ((List UInt8)×Int)):Option (List ((List UInt8)×Int)):=
 (Mir.copyMap a2 ([]:List ((List UInt8)×Int))).bind fun x7=>
 (
  Mir.Loop (S:=(List ((List UInt8)×Int))×Nat) (Q:=(List ((List UInt8)×Int))) (x7,(0:Nat)) fun s26=>
   if((s26.2:Nat):Int)<((a0.length:Nat):Int) then
    ((a0)[s26.2]?).bind fun x35=>
    ((a1)[s26.2]?).bind fun x42=>
    (Mir.put s26.1 x35 x42).bind fun x49=>
    some (.inl (x49,s26.2+1))
   else
    some (.inr s26.1)
 :Option (List ((List UInt8)×Int))).bind fun(z14:(List ((List UInt8)×Int)))=>
 some z14
noncomputable def m_graph_Grow_f1 (g:Nat) (a0:DNode) (a1:Int) (a2:List DNode):Option (Int×List DNode):=
 (Mir.push 56 a2 [a0]).bind fun x11=>
 some (((x11.length:Nat):Int) - 1,x11)
noncomputable def m_graph_Grow:Nat→DExpr→Int→(List DNode)→(List ((List UInt8)×Int))→Option (Int×List DNode)
 |0,_,_,_,_=>none
 |g+1,a0,a1,a2,a3=>
  if a0.Op=1 then
   (Mir.getD a3 a0.Name 0).bind fun x10=>
   some (x10,a2)
  else
   if a0.Op=6 then
    (
     ((a0.Kids)[1]?).bind fun x30=>
     ((a0.Kids)[0]?).bind fun x49=>
     (m_graph_Grow g x49 a1 a2 a3).bind fun x68=>
     (m_graph_Grow_f2 g ([a0.Name]:List (List UInt8)) ([x68.1]:List Int) a3).bind fun q92=>
     (m_graph_Grow g x30 a1 x68.2 q92).bind fun q101=>
     some (q101.2,q101.1)
    :Option (List DNode×Int)).bind fun(z20:List DNode×Int)=>
    some (z20.2,z20.1)
   else
    if a0.Op=7 then
     (
      Mir.Loop (S:=List DNode×List Int×Nat) (Q:=List DNode×List Int) (a2,([]:List Int),(0:Nat)) fun s218=>
       if((s218.2.2:Nat):Int)<((a0.Names.length:Nat):Int) then
        (m_graph_Grow_f1 g (DNode.mk 6 ([]:List UInt8) 0 ([]:List Int)) a1 s218.1).bind fun q238=>
        (Mir.push 8 s218.2.1 [q238.1]).bind fun x253=>
        some (.inl (q238.2,x253,s218.2.2+1))
       else
        some (.inr (s218.1,s218.2.1))
     :Option (List DNode×List Int)).bind fun(z186:List DNode×List Int)=>
     ((a0.Kids)[0]?).bind fun x260=>
     (m_graph_Grow_f2 g a0.Names z186.2 a3).bind fun q280=>
     (m_graph_Grow g x260 a1 z186.1 q280).bind fun q289=>
     some (q289.1,q289.2)
    else
     if a0.Op=2 then
      (m_graph_Grow_f1 g (DNode.mk 2 ([]:List UInt8) a0.N ([]:List Int)) a1 a2).bind fun q301=>
      some (q301.1,q301.2)
     else
      if a0.Op=11 then
       (m_graph_Grow_f1 g (DNode.mk 7 ([]:List UInt8) 0 ([]:List Int)) a1 a2).bind fun q313=>
       some (q313.1,q313.2)
      else
       (Mir.put ([]:List (Int×Int)) 3 1).bind fun x326=>
       (Mir.put x326 4 3).bind fun x331=>
       (Mir.put x331 5 4).bind fun x336=>
       (Mir.put x336 8 5).bind fun x341=>
       (Mir.getD x341 a0.Op 0).bind fun x346=>
       (m_graph_Grow_f1 g (DNode.mk x346 a0.Name 0 ([]:List Int)) a1 a2).bind fun q354=>
       (
        Mir.Loop (S:=List DNode×List Int×Nat) (Q:=List DNode×List Int) (q354.2,([]:List Int),(0:Nat)) fun s396=>
         if((s396.2.2:Nat):Int)<((a0.Kids.length:Nat):Int) then
          ((a0.Kids)[s396.2.2]?).bind fun x416=>
          (m_graph_Grow g x416 a1 s396.1 a3).bind fun q436=>
          (Mir.push 8 s396.2.1 [q436.1]).bind fun x451=>
          some (.inl (q436.2,x451,s396.2.2+1))
         else
          some (.inr (s396.1,s396.2.1))
       :Option (List DNode×List Int)).bind fun(z364:List DNode×List Int)=>
       (Mir.idx z364.1 q354.1).bind fun x455=>
       (Mir.upd z364.1 q354.1 (DNode.mk x455.Op x455.Name x455.N z364.2)).bind fun x472=>
       some (q354.1,x472)
noncomputable def m_graph_BuildOf (g:Nat) (a0:DGoal):Option (DGraph×List Int):=
 (
  Mir.Loop (S:=List DNode×List Int×(List ((List UInt8)×Int))×Nat) (Q:=List DNode×List Int×(List ((List UInt8)×Int))) (([]:List DNode),([]:List Int),([]:List ((List UInt8)×Int)),(0:Nat)) fun s48=>
   if((s48.2.2.2:Nat):Int)<((a0.Vars.length:Nat):Int) then
    ((a0.Vars)[s48.2.2.2]?).bind fun x71=>
    (Mir.push 56 s48.1 [(DNode.mk 6 ([]:List UInt8) 0 ([]:List Int))]).bind fun x83=>
    (Mir.push 8 s48.2.1 [((s48.2.2.2:Nat):Int)]).bind fun x91=>
    (Mir.put s48.2.2.1 x71 ((s48.2.2.2:Nat):Int)).bind fun x94=>
    some (.inl (x83,x91,x94,s48.2.2.2+1))
   else
    some (.inr (s48.1,s48.2.1,s48.2.2.1))
 :Option (List DNode×List Int×(List ((List UInt8)×Int)))).bind fun(z10:List DNode×List Int×(List ((List UInt8)×Int)))=>
 (m_graph_Grow g a0.E 0 z10.1 z10.2.2).bind fun q100=>
 some ((DGraph.mk q100.1 q100.2),z10.2.1)
noncomputable def m_graph_Tidy_f1:Nat→Int→(List Int)→(List Int)→Int→(List DNode)→Option (List Int×List Int)
 |0,_,_,_,_,_=>none
 |g+1,a0,a1,a2,a3,a4=>
  (Mir.idx a1 a0).bind fun x4=>
  if x4≥0 then
   some (a1,a2)
  else
   (Mir.idx a1 a0).bind fun x14=>
   (Mir.upd a1 a0 ((a2.length:Nat):Int)).bind fun x23=>
   (Mir.push 8 a2 [a0]).bind fun x30=>
   (Mir.idx a4 a0).bind fun x33=>
   Mir.Loop (S:=List Int×List Int×Nat) (Q:=List Int×List Int) (x23,x30,(0:Nat)) fun s60=>
    if((s60.2.2:Nat):Int)<((x33.Kids.length:Nat):Int) then
     ((x33.Kids)[s60.2.2]?).bind fun x79=>
     (m_graph_Tidy_f1 g x79 s60.1 s60.2.1 a3 a4).bind fun q86=>
     some (.inl (q86.1,q86.2,s60.2.2+1))
    else
     some (.inr (s60.1,s60.2.1))
noncomputable def m_graph_Tidy (g:Nat) (a0:DGraph) (a1:List Int):Option (DGraph×List Int):=
 (Mir.made 8 ((a0.Nodes.length:Nat):Int) (0:Int)).bind fun x5=>
 (
  Mir.Loop (S:=List Int×Nat×Int) (Q:=List Int) (x5,x5.length,(0:Int)) fun s40=>
   if s40.2.2<((s40.2.1:Nat):Int) then
    (Mir.idx s40.1 s40.2.2).bind fun x51=>
    (Mir.upd s40.1 s40.2.2 (-1)).bind fun x61=>
    some (.inl (x61,s40.2.1,Mir.w64 (s40.2.2+1)))
   else
    some (.inr s40.1)
 :Option (List Int)).bind fun(z14:List Int)=>
 (m_graph_Tidy_f1 g a0.Root z14 ([]:List Int) a0.Root a0.Nodes).bind fun q68=>
 (
  Mir.Loop (S:=List Int×List Int×Nat) (Q:=List Int×List Int) (q68.1,q68.2,(0:Nat)) fun s116=>
   if((s116.2.2:Nat):Int)<((a1.length:Nat):Int) then
    ((a1)[s116.2.2]?).bind fun x135=>
    (m_graph_Tidy_f1 g x135 s116.1 s116.2.1 a0.Root a0.Nodes).bind fun q142=>
    some (.inl (q142.1,q142.2,s116.2.2+1))
   else
    some (.inr (s116.1,s116.2.1))
 :Option (List Int×List Int)).bind fun(z84:List Int×List Int)=>
 (
  Mir.Loop (S:=List DNode×Nat) (Q:=List DNode) (([]:List DNode),(0:Nat)) fun s178=>
   if((s178.2:Nat):Int)<((z84.2.length:Nat):Int) then
    ((z84.2)[s178.2]?).bind fun x192=>
    (Mir.idx a0.Nodes x192).bind fun x200=>
    (
     Mir.Loop (S:=List Int×Nat) (Q:=List Int) (([]:List Int),(0:Nat)) fun s229=>
      if((s229.2:Nat):Int)<((x200.Kids.length:Nat):Int) then
       ((x200.Kids)[s229.2]?).bind fun x241=>
       (Mir.idx z84.1 x241).bind fun x248=>
       (Mir.push 8 s229.1 [x248]).bind fun x263=>
       some (.inl (x263,s229.2+1))
      else
       some (.inr s229.1)
    :Option (List Int)).bind fun(z213:List Int)=>
    (Mir.push 56 s178.1 [(DNode.mk x200.Op x200.Name x200.N z213)]).bind fun x276=>
    some (.inl (x276,s178.2+1))
   else
    some (.inr s178.1)
 :Option (List DNode)).bind fun(z159:List DNode)=>
 (
  Mir.Loop (S:=List Int×Nat) (Q:=List Int) (([]:List Int),(0:Nat)) fun s296=>
   if((s296.2:Nat):Int)<((a1.length:Nat):Int) then
    ((a1)[s296.2]?).bind fun x308=>
    (Mir.idx z84.1 x308).bind fun x315=>
    (Mir.push 8 s296.1 [x315]).bind fun x328=>
    some (.inl (x328,s296.2+1))
   else
    some (.inr s296.1)
 :Option (List Int)).bind fun(z280:List Int)=>
 some ((DGraph.mk 0 z159),z280)
noncomputable def m_graph_Build (g:Nat) (a0:DCore) (a1:DGoal):Option (DGraph×List Int×Int):=
 (m_core_Goal g a0 a1).bind fun q10=>
 if q10=0 then
  (m_graph_BuildOf g a1).bind fun q16=>
  (m_graph_Tidy g q16.1 q16.2).bind fun q29=>
  if((q29.1.Nodes.length:Nat):Int)>3000 then
   some ((DGraph.mk 0 ([]:List DNode)),([]:List Int),(3:Int))
  else
   some (q29.1,q29.2,(0:Int))
 else
  some ((DGraph.mk 0 ([]:List DNode)),([]:List Int),q10)
noncomputable def m_graph_Key (g:Nat) (a0:DGraph):Option (List UInt8):=
 (m_graph_Tidy g a0 ([]:List Int)).bind fun q3=>
 (
  Mir.Loop (S:=List UInt8×Nat) (Q:=List UInt8) (([]:List UInt8),(0:Nat)) fun s24=>
   if((s24.2:Nat):Int)<((q3.1.Nodes.length:Nat):Int) then
    (
     ((q3.1.Nodes)[s24.2]?).bind fun x35=>
     (
      if((s24.2:Nat):Int)>0 then
       (Mir.x_bwrite g s24.1 ([59,32]:List UInt8)).bind fun q52=>
       some q52
      else
       some s24.1
     :Option (List UInt8)).bind fun(z47:List UInt8)=>
     (
      if x35.Op=1 then
       (Mir.cat ([67,32]:List UInt8) x35.Name).bind fun x62=>
       (Mir.x_bwrite g z47 x62).bind fun q64=>
       some q64
      else
       if x35.Op=2 then
        (Mir.x_itoa g x35.N).bind fun q70=>
        (Mir.cat ([73,32]:List UInt8) q70).bind fun x74=>
        (Mir.x_bwrite g z47 x74).bind fun q76=>
        some q76
       else
        if x35.Op=3 then
         (Mir.cat ([70,32]:List UInt8) x35.Name).bind fun x82=>
         (Mir.x_bwrite g z47 x82).bind fun q84=>
         some q84
        else
         if x35.Op=4 then
          (Mir.x_bwrite g z47 ([65]:List UInt8)).bind fun q90=>
          some q90
         else
          if x35.Op=5 then
           (Mir.x_bwrite g z47 ([79]:List UInt8)).bind fun q96=>
           some q96
          else
           if x35.Op=6 then
            (Mir.x_bwrite g z47 ([86]:List UInt8)).bind fun q102=>
            some q102
           else
            (Mir.x_bwrite g z47 ([88]:List UInt8)).bind fun q107=>
            some q107
     :Option (List UInt8)).bind fun(z57:List UInt8)=>
     Mir.Loop (S:=List UInt8×Nat) (Q:=List UInt8) (z57,(0:Nat)) fun s114=>
      if((s114.2:Nat):Int)<((x35.Kids.length:Nat):Int) then
       ((x35.Kids)[s114.2]?).bind fun x121=>
       (Mir.x_itoa g x121).bind fun q128=>
       (Mir.cat ([32]:List UInt8) q128).bind fun x132=>
       (Mir.x_bwrite g s114.1 x132).bind fun q134=>
       some (.inl (q134,s114.2+1))
      else
       some (.inr s114.1)
    :Option (List UInt8)).bind fun(z31:List UInt8)=>
    some (.inl (z31,s24.2+1))
   else
    some (.inr s24.1)
 :Option (List UInt8)).bind fun(z17:List UInt8)=>
 (Mir.x_bstr g z17).bind fun q140=>
 some q140
noncomputable def m_graph_Text (g:Nat) (a0:DCore) (a1:DGraph):Option (List UInt8×Int):=
 (m_graph_Validate g a0 a1).bind fun q6=>
 if q6=0 then
  (m_graph_Key g a1).bind fun q12=>
  some (q12,(0:Int))
 else
  some (([]:List UInt8),q6)
noncomputable def m_law09_known (g:Nat):Option Bool:=
 (m_graph_Build g (DCore.mk ([]:List DData) ([(DFun.mk [99,111,105,110] ([]:List (List UInt8)) (DExpr.mk 8 ([]:List UInt8) 0 ([]:List (List UInt8)) ([(DExpr.mk 2 ([]:List UInt8) 0 ([]:List (List UInt8)) ([]:List DExpr) ([]:List DAlt)),(DExpr.mk 2 ([]:List UInt8) 1 ([]:List (List UInt8)) ([]:List DExpr) ([]:List DAlt))]:List DExpr) ([]:List DAlt)))]:List DFun)) (DGoal.mk ([]:List (List UInt8)) (DExpr.mk 6 [120] 0 ([]:List (List UInt8)) ([(DExpr.mk 4 [99,111,105,110] 0 ([]:List (List UInt8)) ([]:List DExpr) ([]:List DAlt)),(DExpr.mk 3 [80,97,105,114] 0 ([]:List (List UInt8)) ([(DExpr.mk 1 [120] 0 ([]:List (List UInt8)) ([]:List DExpr) ([]:List DAlt)),(DExpr.mk 1 [120] 0 ([]:List (List UInt8)) ([]:List DExpr) ([]:List DAlt))]:List DExpr) ([]:List DAlt))]:List DExpr) ([]:List DAlt)))).bind fun q24=>
 (m_graph_Text g (DCore.mk ([]:List DData) ([(DFun.mk [99,111,105,110] ([]:List (List UInt8)) (DExpr.mk 8 ([]:List UInt8) 0 ([]:List (List UInt8)) ([(DExpr.mk 2 ([]:List UInt8) 0 ([]:List (List UInt8)) ([]:List DExpr) ([]:List DAlt)),(DExpr.mk 2 ([]:List UInt8) 1 ([]:List (List UInt8)) ([]:List DExpr) ([]:List DAlt))]:List DExpr) ([]:List DAlt)))]:List DFun)) q24.1).bind fun q37=>
 (
  if q24.2.2=0 then
   if q37.2=0 then
    some (decide (q37.1=([67,32,80,97,105,114,32,49,32,49,59,32,70,32,99,111,105,110]:List UInt8)))
   else
    some false
  else
   some false
 :Option Bool).bind fun(z41:Bool)=>
 some z41
noncomputable def m_law09_moved (g:Nat) (a0:DGraph) (a1:List Int):Option (DGraph×List Int):=
 (Mir.made 8 ((a0.Nodes.length:Nat):Int) (0:Int)).bind fun x5=>
 (
  Mir.Loop (S:=List Int×Nat) (Q:=List Int) (x5,(0:Nat)) fun s29=>
   if((s29.2:Nat):Int)<((a0.Nodes.length:Nat):Int) then
    ((s29.1)[s29.2]?).bind fun x40=>
    (Mir.upd s29.1 (s29.2:Int) ((s29.2:Nat):Int)).bind fun x50=>
    some (.inl (x50,s29.2+1))
   else
    some (.inr s29.1)
 :Option (List Int)).bind fun(z13:List Int)=>
 (
  Mir.Loop (S:=List Int×Int) (Q:=List Int) (z13,(0:Int)) fun s77=>
   (
    if s77.2<((a0.Nodes.length:Nat):Int) then
     some (decide (((a1.length:Nat):Int)>0))
    else
     some false
   :Option Bool).bind fun(z87:Bool)=>
   if z87=true then
    (Mir.rem s77.2 ((a1.length:Nat):Int)).bind fun x91=>
    (Mir.idx a1 x91).bind fun x93=>
    (
     if x93<0 then
      some (Mir.w64 (-(Mir.w64 (x93+1))))
     else
      some x93
    :Option Int).bind fun(z100:Int)=>
    (Mir.rem z100 ((a0.Nodes.length:Nat):Int)).bind fun x104=>
    (Mir.idx s77.1 x104).bind fun x106=>
    (Mir.idx s77.1 s77.2).bind fun x114=>
    (Mir.idx s77.1 s77.2).bind fun x121=>
    (Mir.upd s77.1 s77.2 x106).bind fun x131=>
    (Mir.idx x131 x104).bind fun x133=>
    (Mir.upd x131 x104 x114).bind fun x143=>
    some (.inl (x143,Mir.w64 (s77.2+1)))
   else
    some (.inr s77.1)
 :Option (List Int)).bind fun(z53:List Int)=>
 (
  (Mir.idx z53 a0.Root).bind fun x155=>
  (Mir.made 56 ((a0.Nodes.length:Nat):Int) (DNode.mk 0 ([]:List UInt8) 0 ([]:List Int))).bind fun x163=>
  some (x155,x163)
 :Option (Int×List DNode)).bind fun(z146:Int×List DNode)=>
 (
  Mir.Loop (S:=List DNode×Nat) (Q:=List DNode) (z146.2,(0:Nat)) fun s204=>
   if((s204.2:Nat):Int)<((a0.Nodes.length:Nat):Int) then
    ((a0.Nodes)[s204.2]?).bind fun x217=>
    (
     Mir.Loop (S:=List Int×Nat) (Q:=List Int) (([]:List Int),(0:Nat)) fun s245=>
      if((s245.2:Nat):Int)<((x217.Kids.length:Nat):Int) then
       ((x217.Kids)[s245.2]?).bind fun x257=>
       (Mir.idx z53 x257).bind fun x264=>
       (Mir.push 8 s245.1 [x264]).bind fun x277=>
       some (.inl (x277,s245.2+1))
      else
       some (.inr s245.1)
    :Option (List Int)).bind fun(z229:List Int)=>
    ((z53)[s204.2]?).bind fun x281=>
    (Mir.idx s204.1 x281).bind fun x289=>
    (Mir.upd s204.1 x281 (DNode.mk x217.Op x217.Name x217.N z229)).bind fun x307=>
    some (.inl (x307,s204.2+1))
   else
    some (.inr s204.1)
 :Option (List DNode)).bind fun(z185:List DNode)=>
 (Mir.push 56 z185 [(DNode.mk 4 ([]:List UInt8) 0 ([z146.1,((a0.Nodes.length:Nat):Int)]:List Int))]).bind fun x320=>
 some ((DGraph.mk z146.1 x320),z53)
noncomputable def m_graph_Same (g:Nat) (a0:DCore) (a1:DGraph) (a2:DGraph):Option (Bool×Int):=
 jx (J:=Unit) (A:=Bool×Int) (
  Mir.Loop (S:=Nat) (Q:=(Unit)⊕(Bool×Int)) (0:Nat) fun s17=>
   if((s17:Nat):Int)<((([a1,a2]:List DGraph).length:Nat):Int) then
    ((([a1,a2]:List DGraph))[s17]?).bind fun x24=>
    (m_graph_Validate g a0 x24).bind fun q37=>
    if q37=0 then
     some (.inl (s17+1))
    else
     some (.inr (.inr (false,q37)))
   else
    some (.inr (.inl ()))
 ) fun z8=>
 (m_graph_Key g a1).bind fun q45=>
 (m_graph_Key g a2).bind fun q50=>
 some (decide (q45=q50),(0:Int))
noncomputable def m_graph_IsKeep (g:Nat) (a0:DGraph) (a1:List Int):Option Int:=
 jx (J:=Unit) (A:=Int) (
  Mir.Loop (S:=Nat) (Q:=(Unit)⊕(Int)) (0:Nat) fun s8=>
   if((s8:Nat):Int)<((a1.length:Nat):Int) then
    ((a1)[s8]?).bind fun x13=>
    (
     if x13<0 then
      some true
     else
      some (decide (x13≥((a0.Nodes.length:Nat):Int)))
    :Option Bool).bind fun(z20:Bool)=>
    if z20=true then
     some (.inr (.inr (1:Int)))
    else
     some (.inl (s8+1))
   else
    some (.inr (.inl ()))
 ) fun z4=>
 if((a1.length:Nat):Int)>24 then
  some (3:Int)
 else
  some (0:Int)
noncomputable def m_graph_Clean (g:Nat) (a0:DCore) (a1:DGraph) (a2:List Int):Option (DGraph×List Int×Int):=
 (m_graph_Validate g a0 a1).bind fun q8=>
 if q8=0 then
  (m_graph_IsKeep g a1 a2).bind fun q14=>
  if q14=0 then
   (m_graph_Tidy g a1 a2).bind fun q20=>
   some (q20.1,q20.2,(0:Int))
  else
   some ((DGraph.mk 0 ([]:List DNode)),([]:List Int),q14)
 else
  some ((DGraph.mk 0 ([]:List DNode)),([]:List Int),q8)
noncomputable def m_graph_seer_isRead_f1:Nat→Int→(List (Int×Int))→Int→(List DNode)→Bool→Int→(List DData)→(List DData)→(List DFun)→(List (Int×Int))→(List (Int×Bool))→(List ((List UInt8)×Int))→(List ((List UInt8)×Int))→(List ((List UInt8)×Int))→(List ((List UInt8)×Int))→Option (Bool×(List (Int×Int)))
 |0,_,_,_,_,_,_,_,_,_,_,_,_,_,_,_=>none
 |g+1,a0,a1,a2,a3,a4,a5,a6,a7,a8,a9,a10,a11,a12,a13,a14=>
  (Mir.getD a1 a0 0).bind fun x12=>
  if x12=1 then
   some (false,a1)
  else
   if x12=2 then
    some (true,a1)
   else
    (Mir.idx a3 a0).bind fun x24=>
    (m_core_Table_FunArity g x24.Name a6 a7 a8 a11 a12 a13 a14).bind fun q37=>
    (
     if x24.Op=3 then
      if((x24.Kids.length:Nat):Int)≥q37.1 then
       some true
      else
       if x24.Op=4 then
        some true
       else
        if x24.Op=5 then
         some true
        else
         some (decide (x24.Op=7))
     else
      if x24.Op=4 then
       some true
      else
       if x24.Op=5 then
        some true
       else
        some (decide (x24.Op=7))
    :Option Bool).bind fun(z41:Bool)=>
    if z41=true then
     some (false,a1)
    else
     (Mir.put a1 a0 1).bind fun x51=>
     jx (J:=(List (Int×Int))) (A:=Bool×(List (Int×Int))) (
      Mir.Loop (S:=(List (Int×Int))×Nat) (Q:=((List (Int×Int)))⊕(Bool×(List (Int×Int)))) (x51,(0:Nat)) fun s72=>
       if((s72.2:Nat):Int)<((x24.Kids.length:Nat):Int) then
        ((x24.Kids)[s72.2]?).bind fun x83=>
        (m_graph_seer_isRead_f1 g x83 s72.1 a2 a3 a4 a5 a6 a7 a8 a9 a10 a11 a12 a13 a14).bind fun q90=>
        if q90.1=true then
         some (.inl (q90.2,s72.2+1))
        else
         some (.inr (.inr (false,q90.2)))
       else
        some (.inr (.inl s72.1))
     ) fun z56=>
     (Mir.put z56 a0 2).bind fun x100=>
     some (true,x100)
noncomputable def m_graph_seer_isRead (g:Nat) (a0:List Int) (a1:Int) (a2:List DNode) (a3:Bool) (a4:Int) (a5:List DData) (a6:List DData) (a7:List DFun) (a8:List (Int×Int)) (a9:List (Int×Bool)) (a10:List ((List UInt8)×Int)) (a11:List ((List UInt8)×Int)) (a12:List ((List UInt8)×Int)) (a13:List ((List UInt8)×Int)):Option Bool:=
 jx (J:=Unit) (A:=Bool) (
  Mir.Loop (S:=(List (Int×Int))×Nat) (Q:=(Unit)⊕(Bool)) (([]:List (Int×Int)),(0:Nat)) fun s29=>
   if((s29.2:Nat):Int)<((a0.length:Nat):Int) then
    ((a0)[s29.2]?).bind fun x40=>
    (m_graph_seer_isRead_f1 g x40 s29.1 a1 a2 a3 a4 a5 a6 a7 a8 a9 a10 a11 a12 a13).bind fun q47=>
    if q47.1=true then
     some (.inl (q47.2,s29.2+1))
    else
     some (.inr (.inr false))
   else
    some (.inr (.inl ()))
 ) fun z17=>
 some true
noncomputable def m_graph_seer_value:Nat→Int→Int→(List DNode)→Bool→Int→(List DData)→(List DData)→(List DFun)→(List (Int×Int))→(List (Int×Bool))→(List ((List UInt8)×Int))→(List ((List UInt8)×Int))→(List ((List UInt8)×Int))→(List ((List UInt8)×Int))→Option (DValue×Bool×Int×(List (Int×Int))×(List (Int×Bool)))
 |0,_,_,_,_,_,_,_,_,_,_,_,_,_,_=>none
 |g+1,a0,a1,a2,a3,a4,a5,a6,a7,a8,a9,a10,a11,a12,a13=>
  (Mir.idx a2 a0).bind fun x12=>
  (m_core_Table_FunArity g x12.Name a5 a6 a7 a10 a11 a12 a13).bind fun q25=>
  (
   if a3=true then
    some (true,true)
   else
    (Mir.getD a9 a0 false).bind fun x34=>
    if x34=true then
     some (false,true)
    else
     if Mir.w64 (a4+1)>12000 then
      some (false,true)
     else
      if x12.Op=3 then
       if((x12.Kids.length:Nat):Int)≥q25.1 then
        some (false,true)
       else
        some (false,false)
      else
       if x12.Op=1 then
        some (false,false)
       else
        if x12.Op=2 then
         some (false,false)
        else
         some (false, !decide (x12.Op=6))
  :Option (Bool×Bool)).bind fun(z29:Bool×Bool)=>
  if z29.2=true then
   (
    if z29.1=true then
     some true
    else
     some (decide (Mir.w64 (a4+1)≤12000))
   :Option Bool).bind fun(z55:Bool)=>
   some ((DValue.mk 0 ([]:List UInt8) 0 ([]:List DValue)),z55,Mir.w64 (a4+1),a8,a9)
  else
   if x12.Op=2 then
    some ((DValue.mk 2 ([]:List UInt8) x12.N ([]:List DValue)),z29.1,Mir.w64 (a4+1),a8,a9)
   else
    if x12.Op=6 then
     (
      (Mir.getD a8 a0 0).bind fun x70=>
      if(Mir.assoc a8 a0).isSome=true then
       some a8
      else
       (Mir.put a8 a0 ((a8.length:Nat):Int)).bind fun x80=>
       some x80
     :Option (List (Int×Int))).bind fun(z64:(List (Int×Int)))=>
     (Mir.getD z64 a0 0).bind fun x86=>
     some ((DValue.mk 3 ([]:List UInt8) x86 ([]:List DValue)),z29.1,Mir.w64 (a4+1),z64,a9)
    else
     (
      if x12.Op=3 then
       some (4:Nat)
      else
       some (1:Nat)
     :Option Nat).bind fun(z96:Nat)=>
     (Mir.put a9 a0 true).bind fun x100=>
     (
      Mir.Loop (S:=(List (Int×Int))×(List (Int×Bool))×Bool×Int×List DValue×Nat) (Q:=(List (Int×Int))×(List (Int×Bool))×Bool×Int×List DValue) (a8,x100,z29.1,Mir.w64 (a4+1),([]:List DValue),(0:Nat)) fun s144=>
       if((s144.2.2.2.2.2:Nat):Int)<((x12.Kids.length:Nat):Int) then
        ((x12.Kids)[s144.2.2.2.2.2]?).bind fun x166=>
        (m_graph_seer_value g x166 a1 a2 s144.2.2.1 s144.2.2.2.1 a5 a6 a7 s144.1 s144.2.1 a10 a11 a12 a13).bind fun q174=>
        (Mir.push 56 s144.2.2.2.2.1 [q174.1]).bind fun x195=>
        some (.inl (q174.2.2.2.1,q174.2.2.2.2,q174.2.1,q174.2.2.1,x195,s144.2.2.2.2.2+1))
       else
        some (.inr (s144.1,s144.2.1,s144.2.2.1,s144.2.2.2.1,s144.2.2.2.2.1))
     :Option ((List (Int×Int))×(List (Int×Bool))×Bool×Int×List DValue)).bind fun(z105:(List (Int×Int))×(List (Int×Bool))×Bool×Int×List DValue)=>
     some ((DValue.mk ((z96:Nat):Int) x12.Name 0 z105.2.2.2.2),z105.2.2.1,z105.2.2.2.1,z105.1,(Mir.del z105.2.1 a0))
noncomputable def m_graph_deep:Nat→DValue→Int→Option Bool
 |0,_,_=>none
 |g+1,a0,a1=>
  if a1<1 then
   some true
  else
   jx (J:=Unit) (A:=Bool) (
    Mir.Loop (S:=Nat) (Q:=(Unit)⊕(Bool)) (0:Nat) fun s12=>
     if((s12:Nat):Int)<((a0.Kids.length:Nat):Int) then
      ((a0.Kids)[s12]?).bind fun x19=>
      (m_graph_deep g x19 (Mir.w64 (a1 - 1))).bind fun q31=>
      if q31=true then
       some (.inr (.inr true))
      else
       some (.inl (s12+1))
     else
      some (.inr (.inl ()))
   ) fun z5=>
   some false
noncomputable def m_graph_ReadOf (g:Nat) (a0:DGraph) (a1:List Int) (a2:List DData) (a3:List DData) (a4:List DFun) (a5:List ((List UInt8)×Int)) (a6:List ((List UInt8)×Int)) (a7:List ((List UInt8)×Int)) (a8:List ((List UInt8)×Int)):Option (DAnswer×Bool×Int):=
 (Mir.push 8 ([a0.Root]:List Int) a1).bind fun x23=>
 (m_graph_seer_isRead g x23 a0.Root a0.Nodes false 0 a2 a3 a4 ([]:List (Int×Int)) ([]:List (Int×Bool)) a5 a6 a7 a8).bind fun q26=>
 if q26=true then
  jx (J:=(List (Int×Int))×(List (Int×Bool))×Bool×Int×Int×List UInt8×Int×List DValue×List DValue) (A:=DAnswer×Bool×Int) (
   (Mir.push 8 ([a0.Root]:List Int) a1).bind fun x62=>
   Mir.Loop (S:=(List (Int×Int))×(List (Int×Bool))×Bool×Int×Int×List UInt8×Int×List DValue×List DValue×Nat) (Q:=((List (Int×Int))×(List (Int×Bool))×Bool×Int×Int×List UInt8×Int×List DValue×List DValue)⊕(DAnswer×Bool×Int)) (([]:List (Int×Int)),([]:List (Int×Bool)),false,(0:Int),(0:Int),([]:List UInt8),(0:Int),([]:List DValue),([]:List DValue),(0:Nat)) fun s116=>
    if((s116.2.2.2.2.2.2.2.2.2:Nat):Int)<((x62.length:Nat):Int) then
     jx (J:=(List (Int×Int))×(List (Int×Bool))×Bool×Int×Int×List UInt8×Int×List DValue×List DValue) (A:=((List (Int×Int))×(List (Int×Bool))×Bool×Int×Int×List UInt8×Int×List DValue×List DValue×Nat)⊕(((List (Int×Int))×(List (Int×Bool))×Bool×Int×Int×List UInt8×Int×List DValue×List DValue)⊕(DAnswer×Bool×Int))) (
      ((x62)[s116.2.2.2.2.2.2.2.2.2]?).bind fun x165=>
      (m_graph_seer_value g x165 a0.Root a0.Nodes s116.2.2.1 0 a2 a3 a4 s116.1 s116.2.1 a5 a6 a7 a8).bind fun q173=>
      (
       if q173.2.2.1>300 then
        some true
       else
        (m_graph_deep g q173.1 40).bind fun q193=>
        some q193
      :Option Bool).bind fun(z188:Bool)=>
      if z188=true then
       some (.inr (.inr (.inr ((DAnswer.mk (DValue.mk 0 ([]:List UInt8) 0 ([]:List DValue)) ([]:List DValue)),false,(3:Int)))))
      else
       if((s116.2.2.2.2.2.2.2.2.2:Nat):Int)=0 then
        some (.inl (q173.2.2.2.1,q173.2.2.2.2,q173.2.1,q173.2.2.1,q173.1.Op,q173.1.Name,q173.1.N,q173.1.Kids,s116.2.2.2.2.2.2.2.2.1))
       else
        (Mir.push 56 s116.2.2.2.2.2.2.2.2.1 [q173.1]).bind fun x206=>
        some (.inl (q173.2.2.2.1,q173.2.2.2.2,q173.2.1,q173.2.2.1,s116.2.2.2.2.1,s116.2.2.2.2.2.1,s116.2.2.2.2.2.2.1,s116.2.2.2.2.2.2.2.1,x206))
     ) fun z142=>
     some (.inl (z142.1,z142.2.1,z142.2.2.1,z142.2.2.2.1,z142.2.2.2.2.1,z142.2.2.2.2.2.1,z142.2.2.2.2.2.2.1,z142.2.2.2.2.2.2.2.1,z142.2.2.2.2.2.2.2.2,s116.2.2.2.2.2.2.2.2.2+1))
    else
     some (.inr (.inl (s116.1,s116.2.1,s116.2.2.1,s116.2.2.2.1,s116.2.2.2.2.1,s116.2.2.2.2.2.1,s116.2.2.2.2.2.2.1,s116.2.2.2.2.2.2.2.1,s116.2.2.2.2.2.2.2.2.1)))
  ) fun z33=>
  (
   if((z33.2.2.2.2.2.2.2.2.length:Nat):Int)>12 then
    some true
   else
    some (decide (((z33.1.length:Nat):Int)>300))
  :Option Bool).bind fun(z210:Bool)=>
  if z210=true then
   some ((DAnswer.mk (DValue.mk 0 ([]:List UInt8) 0 ([]:List DValue)) ([]:List DValue)),false,(3:Int))
  else
   some ((DAnswer.mk (DValue.mk z33.2.2.2.2.1 z33.2.2.2.2.2.1 z33.2.2.2.2.2.2.1 z33.2.2.2.2.2.2.2.1) z33.2.2.2.2.2.2.2.2),true,(0:Int))
 else
  some ((DAnswer.mk (DValue.mk 0 ([]:List UInt8) 0 ([]:List DValue)) ([]:List DValue)),false,(0:Int))
noncomputable def m_graph_Read (g:Nat) (a0:DCore) (a1:DGraph) (a2:List Int):Option (DAnswer×Bool×Int):=
 (m_graph_Validate g a0 a1).bind fun q8=>
 if q8=0 then
  (m_graph_IsKeep g a1 a2).bind fun q14=>
  if q14=0 then
   (m_core_NewTable g a0).bind fun q21=>
   (m_graph_ReadOf g a1 a2 q21.1 q21.2.1 q21.2.2.1 q21.2.2.2.1 q21.2.2.2.2.1 q21.2.2.2.2.2.1 q21.2.2.2.2.2.2).bind fun q55=>
   some (q55.1,q55.2.1,q55.2.2)
  else
   some ((DAnswer.mk (DValue.mk 0 ([]:List UInt8) 0 ([]:List DValue)) ([]:List DValue)),false,q14)
 else
  some ((DAnswer.mk (DValue.mk 0 ([]:List UInt8) 0 ([]:List DValue)) ([]:List DValue)),false,q8)
noncomputable def m_ref09_Alike (g:Nat) (a0:DGraph) (a1:DGraph):Option Bool:=
 (
  if a0.Root=a1.Root then
   some (!decide (((a0.Nodes.length:Nat):Int)=((a1.Nodes.length:Nat):Int)))
  else
   some true
 :Option Bool).bind fun(z5:Bool)=>
 if z5=true then
  some false
 else
  jx (J:=Unit) (A:=Bool) (
   Mir.Loop (S:=Nat) (Q:=(Unit)⊕(Bool)) (0:Nat) fun s14=>
    if((s14:Nat):Int)<((a0.Nodes.length:Nat):Int) then
     jx (J:=Unit) (A:=(Nat)⊕((Unit)⊕(Bool))) (
      (
       ((a0.Nodes)[s14]?).bind fun x34=>
       ((a1.Nodes)[s14]?).bind fun x45=>
       some (x34.Op,x34.Name,x34.N,x34.Kids,x45.Op,x45.Name,x45.N,x45.Kids)
      :Option (Int×List UInt8×Int×List Int×Int×List UInt8×Int×List Int)).bind fun(z22:Int×List UInt8×Int×List Int×Int×List UInt8×Int×List Int)=>
      (
       if z22.1=z22.2.2.2.2.1 then
        if z22.2.1=z22.2.2.2.2.2.1 then
         if z22.2.2.1=z22.2.2.2.2.2.2.1 then
          some (!decide (((z22.2.2.2.1.length:Nat):Int)=((z22.2.2.2.2.2.2.2.length:Nat):Int)))
         else
          some true
        else
         some true
       else
        some true
      :Option Bool).bind fun(z68:Bool)=>
      if z68=true then
       some (.inr (.inr (.inr false)))
      else
       Mir.Loop (S:=Nat) (Q:=(Unit)⊕((Nat)⊕((Unit)⊕(Bool)))) (0:Nat) fun s76=>
        if((s76:Nat):Int)<((z22.2.2.2.1.length:Nat):Int) then
         ((z22.2.2.2.1)[s76]?).bind fun x81=>
         ((z22.2.2.2.2.2.2.2)[s76]?).bind fun x88=>
         if x81=x88 then
          some (.inl (s76+1))
         else
          some (.inr (.inr (.inr (.inr false))))
        else
         some (.inr (.inl ()))
     ) fun z19=>
     some (.inl (s14+1))
    else
     some (.inr (.inl ()))
  ) fun z10=>
  some true
noncomputable def m_law09_same (g:Nat) (a0:DGraph) (a1:DGraph):Option Bool:=
 (m_ref09_Alike g a0 a1).bind fun q5=>
 some q5
noncomputable def m_ref08_order (g:Nat) (a0:Int) (a1:Int):Option Int:=
 if a0<a1 then
  some (-1)
 else
  if a0>a1 then
   some (1:Int)
  else
   some (0:Int)
noncomputable def m_ref08_Order:Nat→DValue→DValue→Option Int
 |0,_,_=>none
 |g+1,a0,a1=>
  (m_ref08_order g a0.Op a1.Op).bind fun q5=>
  if q5=0 then
   (
    if a0.Op=2 then
     some true
    else
     some (decide (a0.Op=3))
   :Option Bool).bind fun(z11:Bool)=>
   if z11=true then
    (m_ref08_order g a0.N a1.N).bind fun q15=>
    some q15
   else
    if a0.Name=a1.Name then
     (m_ref08_order g ((a0.Kids.length:Nat):Int) ((a1.Kids.length:Nat):Int)).bind fun q24=>
     if q24=0 then
      jx (J:=Unit) (A:=Int) (
       Mir.Loop (S:=Nat) (Q:=(Unit)⊕(Int)) (0:Nat) fun s37=>
        if((s37:Nat):Int)<((a0.Kids.length:Nat):Int) then
         ((a0.Kids)[s37]?).bind fun x44=>
         ((a1.Kids)[s37]?).bind fun x55=>
         (m_ref08_Order g x44 x55).bind fun q67=>
         if q67=0 then
          some (.inl (s37+1))
         else
          some (.inr (.inr q67))
        else
         some (.inr (.inl ()))
      ) fun z30=>
      some (0:Int)
     else
      some q24
    else
     if Op.bytesLess a0.Name a1.Name=true then
      some (-1)
     else
      some (1:Int)
  else
   some q5
noncomputable def m_ref08_Compared (g:Nat) (a0:DAnswer) (a1:DAnswer):Option Int:=
 (m_ref08_Order g a0.V a1.V).bind fun q7=>
 if q7=0 then
  (m_ref08_order g ((a0.B.length:Nat):Int) ((a1.B.length:Nat):Int)).bind fun q13=>
  if q13=0 then
   jx (J:=Unit) (A:=Int) (
    Mir.Loop (S:=Nat) (Q:=(Unit)⊕(Int)) (0:Nat) fun s26=>
     if((s26:Nat):Int)<((a0.B.length:Nat):Int) then
      ((a0.B)[s26]?).bind fun x33=>
      ((a1.B)[s26]?).bind fun x44=>
      (m_ref08_Order g x33 x44).bind fun q56=>
      if q56=0 then
       some (.inl (s26+1))
      else
       some (.inr (.inr q56))
     else
      some (.inr (.inl ()))
   ) fun z19=>
   some (0:Int)
  else
   some q13
 else
  some q7
noncomputable def m_law09_moves (g:Nat) (a0:DCore) (a1:DGraph) (a2:List Int):Option Bool:=
 (
  (m_graph_Validate g a0 a1).bind fun q11=>
  if q11=0 then
   some (decide (((a1.Nodes.length:Nat):Int)≥3000))
  else
   some true
 :Option Bool).bind fun(z7:Bool)=>
 if z7=true then
  (m_law09_known g).bind fun q17=>
  some q17
 else
  (m_law09_moved g a1 a2).bind fun q22=>
  (m_graph_Same g a0 a1 q22.1).bind fun q35=>
  (m_graph_Clean g a0 a1 ([]:List Int)).bind fun q39=>
  (m_graph_Clean g a0 q22.1 ([]:List Int)).bind fun q52=>
  (m_graph_Text g a0 a1).bind fun q65=>
  (m_graph_Text g a0 q22.1).bind fun q69=>
  (m_graph_Read g a0 a1 ([]:List Int)).bind fun q73=>
  (m_graph_Read g a0 q22.1 ([]:List Int)).bind fun q86=>
  (m_graph_Clean g a0 q39.1 ([]:List Int)).bind fun q99=>
  (
   if q35.1=true then
    if q35.2=0 then
     if q39.2.2=0 then
      if q52.2.2=0 then
       if q99.2.2=0 then
        (m_law09_same g q39.1 q52.1).bind fun q122=>
        if q122=true then
         (m_law09_same g q39.1 q99.1).bind fun q128=>
         if q128=true then
          if q65.1=q69.1 then
           if q65.2=q69.2 then
            (m_ref08_Compared g q73.1 q86.1).bind fun q136=>
            if q136=0 then
             if q73.2.1=true then
              if q86.2.1=true then
               if q73.2.2=q86.2.2 then
                (m_law09_known g).bind fun q146=>
                some q146
               else
                some false
              else
               some false
             else
              if q86.2.1=true then
               some false
              else
               if q73.2.2=q86.2.2 then
                (m_law09_known g).bind fun q156=>
                some q156
               else
                some false
            else
             some false
           else
            some false
          else
           some false
         else
          some false
        else
         some false
       else
        some false
      else
       some false
     else
      some false
    else
     some false
   else
    some false
  :Option Bool).bind fun(z112:Bool)=>
  some z112
noncomputable def m_graph_fits (g:Nat) (a0:List DAlt) (a1:DNode) (a2:List ((List UInt8)×Int)):Option (DExpr×Bool×(List ((List UInt8)×Int))):=
 jx (J:=Unit) (A:=DExpr×Bool×(List ((List UInt8)×Int))) (
  Mir.Loop (S:=Nat) (Q:=(Unit)⊕(DExpr×Bool×(List ((List UInt8)×Int)))) (0:Nat) fun s10=>
   if((s10:Nat):Int)<((a0.length:Nat):Int) then
    ((a0)[s10]?).bind fun x15=>
    (
     if a1.Op=2 then
      if x15.P.Op=4 then
       some (decide (x15.P.N=a1.N))
      else
       some false
     else
      some false
    :Option Bool).bind fun(z39:Bool)=>
    if z39=true then
     some (.inr (.inr (x15.E,true,a2)))
    else
     (
      if a1.Op=1 then
       if x15.P.Op=3 then
        some (decide (x15.P.Name=a1.Name))
       else
        some false
      else
       some false
     :Option Bool).bind fun(z45:Bool)=>
     if z45=true then
      (
       Mir.Loop (S:=(List ((List UInt8)×Int))×Nat) (Q:=(List ((List UInt8)×Int))) (a2,(0:Nat)) fun s62=>
        if((s62.2:Nat):Int)<((x15.P.Kids.length:Nat):Int) then
         ((x15.P.Kids)[s62.2]?).bind fun x71=>
         ((a1.Kids)[s62.2]?).bind fun x83=>
         (Mir.put s62.1 x71.Name x83).bind fun x91=>
         some (.inl (x91,s62.2+1))
        else
         some (.inr s62.1)
      :Option (List ((List UInt8)×Int))).bind fun(z50:(List ((List UInt8)×Int)))=>
      some (.inr (.inr (x15.E,true,z50)))
     else
      some (.inl (s10+1))
   else
    some (.inr (.inl ()))
 ) fun z6=>
 some ((DExpr.mk 0 ([]:List UInt8) 0 ([]:List (List UInt8)) ([]:List DExpr) ([]:List DAlt)),false,a2)
noncomputable def m_graph_Body (g:Nat) (a0:DFun) (a1:DGraph) (a2:List Int) (a3:List DData) (a4:List DData) (a5:List DFun) (a6:List ((List UInt8)×Int)) (a7:List ((List UInt8)×Int)) (a8:List ((List UInt8)×Int)) (a9:List ((List UInt8)×Int)):Option ((Int×List UInt8×Int×List (List UInt8)×List DExpr×List DAlt×Int×Bool×List DAlt×Bool)⊕(Int×List UInt8×Int×List (List UInt8)×List DExpr×List DAlt×Int×Bool×List DAlt×Bool×(List ((List UInt8)×Int)))):=
 (
  Mir.Loop (S:=(List ((List UInt8)×Int))×Nat) (Q:=(List ((List UInt8)×Int))) (([]:List ((List UInt8)×Int)),(0:Nat)) fun s31=>
   if((s31.2:Nat):Int)<((a0.Vars.length:Nat):Int) then
    ((a0.Vars)[s31.2]?).bind fun x40=>
    ((a2)[s31.2]?).bind fun x47=>
    (Mir.put s31.1 x40 x47).bind fun x54=>
    some (.inl (x54,s31.2+1))
   else
    some (.inr s31.1)
 :Option (List ((List UInt8)×Int))).bind fun(z19:(List ((List UInt8)×Int)))=>
 jx (J:=(List ((List UInt8)×Int))×Int×List UInt8×Int×List (List UInt8)×List DExpr×List DAlt) (A:=(Int×List UInt8×Int×List (List UInt8)×List DExpr×List DAlt×Int×Bool×List DAlt×Bool)⊕(Int×List UInt8×Int×List (List UInt8)×List DExpr×List DAlt×Int×Bool×List DAlt×Bool×(List ((List UInt8)×Int)))) (
  Mir.Loop (S:=(List ((List UInt8)×Int))×Int×List UInt8×Int×List (List UInt8)×List DExpr×List DAlt) (Q:=((List ((List UInt8)×Int))×Int×List UInt8×Int×List (List UInt8)×List DExpr×List DAlt)⊕((Int×List UInt8×Int×List (List UInt8)×List DExpr×List DAlt×Int×Bool×List DAlt×Bool)⊕(Int×List UInt8×Int×List (List UInt8)×List DExpr×List DAlt×Int×Bool×List DAlt×Bool×(List ((List UInt8)×Int))))) (z19,a0.E.Op,a0.E.Name,a0.E.N,a0.E.Names,a0.E.Kids,a0.E.Alts) fun s106=>
   (
    if s106.2.1=9 then
     some true
    else
     some (decide (s106.2.1=10))
   :Option Bool).bind fun(z128:Bool)=>
   if z128=true then
    ((s106.2.2.2.2.2.1)[0]?).bind fun x132=>
    (Mir.getD s106.1 x132.Name 0).bind fun x151=>
    (Mir.idx a1.Nodes x151).bind fun x159=>
    (m_core_Table_FunArity g x159.Name a3 a4 a5 a6 a7 a8 a9).bind fun q171=>
    if x159.Op=7 then
     some (.inr (.inr (.inl ((0:Int),([]:List UInt8),(0:Int),([]:List (List UInt8)),([]:List DExpr),([]:List DAlt),(-1),false,([]:List DAlt),true))))
    else
     (
      if x159.Op=6 then
       some (decide (x159.Op=6))
      else
       if x159.Op=4 then
        some (decide (x159.Op=4))
       else
        if x159.Op=5 then
         some (decide (x159.Op=5))
        else
         some (decide (x159.Op=3))
     :Option Bool).bind fun(z177:Bool)=>
     if z177=true then
      (
       if x159.Op=3 then
        some (decide (((x159.Kids.length:Nat):Int)<q171.1))
       else
        some false
      :Option Bool).bind fun(z186:Bool)=>
      some (.inr (.inr (.inl ((0:Int),([]:List UInt8),(0:Int),([]:List (List UInt8)),([]:List DExpr),([]:List DAlt),x151,decide (s106.2.1=10),s106.2.2.2.2.2.2,z186))))
     else
      (
       if x159.Op=1 then
        (Mir.getD a7 x159.Name 0).bind fun x193=>
        some (decide (((x159.Kids.length:Nat):Int)<x193))
       else
        some false
      :Option Bool).bind fun(z190:Bool)=>
      if z190=true then
       some (.inr (.inr (.inl ((0:Int),([]:List UInt8),(0:Int),([]:List (List UInt8)),([]:List DExpr),([]:List DAlt),(-1),false,([]:List DAlt),true))))
      else
       (m_graph_fits g s106.2.2.2.2.2.2 x159 s106.1).bind fun q203=>
       if q203.2.1=true then
        some (.inl (q203.2.2,q203.1.Op,q203.1.Name,q203.1.N,q203.1.Names,q203.1.Kids,q203.1.Alts))
       else
        some (.inr (.inr (.inl ((0:Int),([]:List UInt8),(0:Int),([]:List (List UInt8)),([]:List DExpr),([]:List DAlt),(-1),false,([]:List DAlt),true))))
   else
    some (.inr (.inl (s106.1,s106.2.1,s106.2.2.1,s106.2.2.2.1,s106.2.2.2.2.1,s106.2.2.2.2.2.1,s106.2.2.2.2.2.2)))
 ) fun z61=>
 some (.inr (z61.2.1,z61.2.2.1,z61.2.2.2.1,z61.2.2.2.2.1,z61.2.2.2.2.2.1,z61.2.2.2.2.2.2,(-1),false,([]:List DAlt),false,z61.1))
noncomputable def m_graph_Put (g:Nat) (a0:DGraph) (a1:Int) (a2:Int):Option DGraph:=
 (
  if a0.Root=a1 then
   some a2
  else
   some a0.Root
 :Option Int).bind fun(z5:Int)=>
 (
  Mir.Loop (S:=List DNode×Nat) (Q:=List DNode) (([]:List DNode),(0:Nat)) fun s28=>
   if((s28.2:Nat):Int)<((a0.Nodes.length:Nat):Int) then
    ((a0.Nodes)[s28.2]?).bind fun x42=>
    (
     Mir.Loop (S:=List Int×Nat) (Q:=List Int) (([]:List Int),(0:Nat)) fun s71=>
      if((s71.2:Nat):Int)<((x42.Kids.length:Nat):Int) then
       ((x42.Kids)[s71.2]?).bind fun x83=>
       (
        if x83=a1 then
         some a2
        else
         some x83
       :Option Int).bind fun(z90:Int)=>
       (Mir.push 8 s71.1 [z90]).bind fun x99=>
       some (.inl (x99,s71.2+1))
      else
       some (.inr s71.1)
    :Option (List Int)).bind fun(z55:List Int)=>
    (Mir.push 56 s28.1 [(DNode.mk x42.Op x42.Name x42.N z55)]).bind fun x111=>
    some (.inl (x111,s28.2+1))
   else
    some (.inr s28.1)
 :Option (List DNode)).bind fun(z9:List DNode)=>
 some (DGraph.mk z5 z9)
noncomputable def m_graph_Fresh (g:Nat) (a0:DGraph):Option DGraph:=
 (m_graph_Put g a0 (-1) (-1)).bind fun q4=>
 some q4
noncomputable def m_graph_Put_2 (g:Nat) (a0:DGraph) (a1:Int) (a2:Int):Option (Int×List DNode):=
 (
  if a0.Root=a1 then
   some a2
  else
   some a0.Root
 :Option Int).bind fun(z5:Int)=>
 (
  Mir.Loop (S:=List DNode×Nat) (Q:=List DNode) (([]:List DNode),(0:Nat)) fun s28=>
   if((s28.2:Nat):Int)<((a0.Nodes.length:Nat):Int) then
    ((a0.Nodes)[s28.2]?).bind fun x42=>
    (
     Mir.Loop (S:=List Int×Nat) (Q:=List Int) (([]:List Int),(0:Nat)) fun s71=>
      if((s71.2:Nat):Int)<((x42.Kids.length:Nat):Int) then
       ((x42.Kids)[s71.2]?).bind fun x83=>
       (
        if x83=a1 then
         some a2
        else
         some x83
       :Option Int).bind fun(z90:Int)=>
       (Mir.push 8 s71.1 [z90]).bind fun x99=>
       some (.inl (x99,s71.2+1))
      else
       some (.inr s71.1)
    :Option (List Int)).bind fun(z55:List Int)=>
    (Mir.push 56 s28.1 [(DNode.mk x42.Op x42.Name x42.N z55)]).bind fun x111=>
    some (.inl (x111,s28.2+1))
   else
    some (.inr s28.1)
 :Option (List DNode)).bind fun(z9:List DNode)=>
 some (z5,z9)
noncomputable def m_graph_Fresh_2 (g:Nat) (a0:DGraph):Option (Int×List DNode):=
 (m_graph_Put_2 g a0 (-1) (-1)).bind fun q4=>
 some (q4.1,q4.2)
noncomputable def m_graph_Done (g:Nat) (a0:DGraph) (a1:Int) (a2:Int) (a3:List UInt8) (a4:Int) (a5:List (List UInt8)) (a6:List DExpr) (a7:List DAlt) (a8:Int) (a9:Bool) (a10:List DAlt) (a11:Bool):Option DGraph:=
 (m_graph_Fresh_2 g a0).bind fun q9=>
 if a11=true then
  (Mir.push 56 q9.2 [(DNode.mk 7 ([]:List UInt8) 0 ([]:List Int))]).bind fun x26=>
  (
   if((q9.2.length:Nat):Int)=a1 then
    (Mir.push 56 x26 [(DNode.mk 7 ([]:List UInt8) 0 ([]:List Int))]).bind fun x43=>
    some (x43,x26.length)
   else
    some (x26,q9.2.length)
  :Option (List DNode×Nat)).bind fun(z29:List DNode×Nat)=>
  (m_graph_Put g (DGraph.mk q9.1 z29.1) a1 ((z29.2:Nat):Int)).bind fun q50=>
  (m_graph_Tidy g q50 ([]:List Int)).bind fun q58=>
  some q58.1
 else
  none
noncomputable def m_graph_Done_2 (g:Nat) (a0:DGraph) (a1:Int) (a2:Int) (a3:List UInt8) (a4:Int) (a5:List (List UInt8)) (a6:List DExpr) (a7:List DAlt) (a8:Int) (a9:Bool) (a10:List DAlt) (a11:Bool) (a12:List ((List UInt8)×Int)):Option DGraph:=
 (m_graph_Fresh_2 g a0).bind fun q10=>
 (
  if a11=true then
   (Mir.push 56 q10.2 [(DNode.mk 7 ([]:List UInt8) 0 ([]:List Int))]).bind fun x37=>
   some (x37,((q10.2.length:Nat):Int))
  else
   (m_graph_Grow g (DExpr.mk a2 a3 a4 a5 a6 a7) q10.1 q10.2 a12).bind fun q41=>
   some (q41.2,q41.1)
 :Option (List DNode×Int)).bind fun(z21:List DNode×Int)=>
 (
  if z21.2=a1 then
   (Mir.push 56 z21.1 [(DNode.mk 7 ([]:List UInt8) 0 ([]:List Int))]).bind fun x65=>
   some (x65,((z21.1.length:Nat):Int))
  else
   some (z21.1,z21.2)
 :Option (List DNode×Int)).bind fun(z51:List DNode×Int)=>
 (m_graph_Put g (DGraph.mk q10.1 z51.1) a1 z51.2).bind fun q72=>
 (m_graph_Tidy g q72 ([]:List Int)).bind fun q80=>
 some q80.1
noncomputable def m_graph_Unfold (g:Nat) (a0:DCore) (a1:DGraph) (a2:Int):Option (DGraph×Int×Int):=
 (m_graph_Validate g a0 a1).bind fun q7=>
 if q7=0 then
  (m_core_NewTable g a0).bind fun q13=>
  (
   if a2<0 then
    some true
   else
    some (decide (a2≥((a1.Nodes.length:Nat):Int)))
  :Option Bool).bind fun(z46:Bool)=>
  if z46=true then
   some ((DGraph.mk 0 ([]:List DNode)),(0:Int),(1:Int))
  else
   (Mir.idx a1.Nodes a2).bind fun x51=>
   (Mir.getD q13.2.2.2.1 x51.Name 0).bind fun x63=>
   (
    if x51.Op=3 then
     if(Mir.assoc q13.2.2.2.1 x51.Name).isSome=true then
      (Mir.idx a0.Funs x63).bind fun x76=>
      some (!decide (((x51.Kids.length:Nat):Int)=((x76.Vars.length:Nat):Int)))
     else
      some true
    else
     some true
   :Option Bool).bind fun(z71:Bool)=>
   if z71=true then
    some ((DGraph.mk 0 ([]:List DNode)),(0:Int),(6:Int))
   else
    (Mir.idx a0.Funs x63).bind fun x102=>
    (m_graph_Body g x102 a1 x51.Kids q13.1 q13.2.1 q13.2.2.1 q13.2.2.2.1 q13.2.2.2.2.1 q13.2.2.2.2.2.1 q13.2.2.2.2.2.2).bind fun x125=>
    sumM
     (fun q128=>
      if q128.2.2.2.2.2.2.1≥0 then
       (m_graph_Fresh g a1).bind fun q153=>
       some (q153,q128.2.2.2.2.2.2.1,(0:Int))
      else
       (m_graph_Done g a1 a2 q128.1 q128.2.1 q128.2.2.1 q128.2.2.2.1 q128.2.2.2.2.1 q128.2.2.2.2.2.1 q128.2.2.2.2.2.2.1 q128.2.2.2.2.2.2.2.1 q128.2.2.2.2.2.2.2.2.1 q128.2.2.2.2.2.2.2.2.2).bind fun q163=>
       if((q163.Nodes.length:Nat):Int)>3000 then
        some ((DGraph.mk 0 ([]:List DNode)),(0:Int),(3:Int))
       else
        some (q163,(-1),(0:Int))
     )
     (fun q129=>
      if q129.2.2.2.2.2.2.1≥0 then
       (m_graph_Fresh g a1).bind fun q201=>
       some (q201,q129.2.2.2.2.2.2.1,(0:Int))
      else
       (m_graph_Done_2 g a1 a2 q129.1 q129.2.1 q129.2.2.1 q129.2.2.2.1 q129.2.2.2.2.1 q129.2.2.2.2.2.1 q129.2.2.2.2.2.2.1 q129.2.2.2.2.2.2.2.1 q129.2.2.2.2.2.2.2.2.1 q129.2.2.2.2.2.2.2.2.2.1 q129.2.2.2.2.2.2.2.2.2.2).bind fun q211=>
       if((q211.Nodes.length:Nat):Int)>3000 then
        some ((DGraph.mk 0 ([]:List DNode)),(0:Int),(3:Int))
       else
        some (q211,(-1),(0:Int))
     )
     x125
 else
  some ((DGraph.mk 0 ([]:List DNode)),(0:Int),q7)
noncomputable def m_graph_Replace (g:Nat) (a0:DCore) (a1:DGraph) (a2:Int) (a3:Int):Option (DGraph×Int):=
 (m_graph_Validate g a0 a1).bind fun q7=>
 if q7=0 then
  (
   if a2<0 then
    some true
   else
    if a2≥((a1.Nodes.length:Nat):Int) then
     some true
    else
     if a3<0 then
      some true
     else
      if a3≥((a1.Nodes.length:Nat):Int) then
       some true
      else
       some (decide (a2=a3))
  :Option Bool).bind fun(z13:Bool)=>
  if z13=true then
   some ((DGraph.mk 0 ([]:List DNode)),(1:Int))
  else
   (m_graph_Put g a1 a2 a3).bind fun q21=>
   (m_graph_Tidy g q21 ([]:List Int)).bind fun q29=>
   some (q29.1,(0:Int))
 else
  some ((DGraph.mk 0 ([]:List DNode)),q7)
noncomputable def m_law09_steps (g:Nat) (a0:DCore) (a1:DGraph) (a2:Int) (a3:Int) (a4:List Int):Option Bool:=
 (
  (m_graph_Validate g a0 a1).bind fun q11=>
  if q11=0 then
   if((a1.Nodes.length:Nat):Int)≥3000 then
    some true
   else
    if a2<0 then
     some true
    else
     if a2≥((a1.Nodes.length:Nat):Int) then
      some true
     else
      if a3<0 then
       some true
      else
       some (decide (a3≥((a1.Nodes.length:Nat):Int)))
  else
   some true
 :Option Bool).bind fun(z7:Bool)=>
 if z7=true then
  (m_law09_known g).bind fun q21=>
  some q21
 else
  (m_law09_moved g a1 a4).bind fun q26=>
  (m_graph_Unfold g a0 a1 a2).bind fun q39=>
  (
   (Mir.idx q26.2 a2).bind fun x57=>
   (m_graph_Unfold g a0 q26.1 x57).bind fun x64=>
   some (x64.1.Root,x64.1.Nodes,x64.2.1,x64.2.2)
  :Option (Int×List DNode×Int×Int)).bind fun(z48:Int×List DNode×Int×Int)=>
  if q39.2.2=z48.2.2.2 then
   jx (J:=Unit) (A:=Bool) (
    if q39.2.2=0 then
     (
      if q39.2.1<0 then
       if z48.2.2.1≥0 then
        some true
       else
        (m_law09_same g q39.1 (DGraph.mk z48.1 z48.2.1)).bind fun q100=>
        if q100=true then
         if q39.2.1≥0 then
          (Mir.idx q26.2 q39.2.1).bind fun x107=>
          some (!decide (z48.2.2.1=x107))
         else
          some false
        else
         some true
      else
       if q39.2.1≥0 then
        (Mir.idx q26.2 q39.2.1).bind fun x116=>
        some (!decide (z48.2.2.1=x116))
       else
        some false
     :Option Bool).bind fun(z94:Bool)=>
     if z94=true then
      some (.inr false)
     else
      some (.inl ())
    else
     some (.inl ())
   ) fun z88=>
   (m_graph_Replace g a0 a1 a2 a3).bind fun q126=>
   (
    (Mir.idx q26.2 a2).bind fun x144=>
    (Mir.idx q26.2 a3).bind fun x151=>
    (m_graph_Replace g a0 q26.1 x144 x151).bind fun x158=>
    some (x158.1.Root,x158.1.Nodes,x158.2)
   :Option (Int×List DNode×Int)).bind fun(z135:Int×List DNode×Int)=>
   (
    (m_law09_same g q126.1 (DGraph.mk z135.1 z135.2.1)).bind fun q184=>
    if q184=true then
     if q126.2=z135.2.2 then
      (m_law09_known g).bind fun q191=>
      some q191
     else
      some false
    else
     some false
   :Option Bool).bind fun(z180:Bool)=>
   some z180
  else
   some false
noncomputable def m_law09_GraphMoves (g:Nat) (a0:DCore) (a1:DGraph) (a2:Int) (a3:Int) (a4:List Int):Option Bool:=
 (
  (m_law09_moves g a0 a1 a4).bind fun q11=>
  if q11=true then
   (m_law09_steps g a0 a1 a2 a3 a4).bind fun q17=>
   some q17
  else
   some false
 :Option Bool).bind fun(z7:Bool)=>
 some z7
end Go.Proofs.YtjkcinpmbgcgpaaGreatDoor
