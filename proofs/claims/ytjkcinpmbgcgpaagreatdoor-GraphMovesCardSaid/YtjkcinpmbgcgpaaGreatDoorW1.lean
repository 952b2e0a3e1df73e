/- Each function does what its plain words tell. -/
import Derived.Test.YtjkcinpmbgcgpaaGreatDoorKi
import Derived.Test.YtjkcinpmbgcgpaaGreatDoorExt
namespace Go.Proofs.YtjkcinpmbgcgpaaGreatDoor
open Go Go.Sy Go.RowKit
set_option linter.unusedVariables false
set_option autoImplicit true
set_option relaxedAutoImplicit true
set_option maxHeartbeats 1000000
open Go.Mir
abbrev s0:= @PH.le_trans
abbrev t0:= @keyStr
abbrev u0:= @Yields.lenSlice
abbrev v0:= @St.thenret
abbrev x0:= @Fsl.mono
abbrev p0:= @St.thenexit
abbrev q0:= @St.region
abbrev r0:= @Yields.extract
abbrev k0:= @St.doneR1
abbrev l0:= @PH.le_refl
abbrev t1:= @St.block
abbrev u1:= @St.nil
abbrev v1:= @Yields.load
abbrev w1:= @Yields.eq
abbrev x1:= @St.seq
abbrev p1:= @trivial
abbrev r1:= @Among.take
abbrev m1:= @StD.next
abbrev k1:= @Among.refl
abbrev f1:= @CallSp.enter
abbrev s2:= @Yields.isnt
abbrev t2:= @Yields.idx
abbrev u2:= @St.ret
abbrev v2:= @Yields.build
abbrev w2:= @eq_false_of_ne_true
abbrev x2:= @Yields.move
abbrev p2:= @Mrel.mono
abbrev r2:= @Yields.lt
abbrev m2:= @St.inret
abbrev k2:= @St.unwanted
abbrev f2:= @St.innorm
abbrev s3:= @Yields.addn
abbrev t3:= @Yields.is
abbrev u3:= @St.inexit
abbrev v3:= @St.buildSlice
abbrev w3:= @Yields.fa
abbrev p3:= @Yields.ld
abbrev r3:= @Fsl.nil
abbrev m3:= @PH.le
abbrev n3:= @Yields.pick_f
abbrev k3:= @Loads.Fatn0
abbrev f3:= @Yields.pick_t
abbrev s4:= @St.norm
abbrev t4:= @Yields.nilCheck
abbrev u4:= @St.exit
abbrev w4:= @Yields.assign
abbrev p4:= @Yields.ne
abbrev r4:= @StD.into
abbrev m4:= @ResOk.cell
abbrev n4:= @St.newMap
abbrev k4:= @St.skip
abbrev f4:= @Bnd.of_push
abbrev g4:= @Cat.mono
abbrev t5:= @Yields.gt
abbrev u5:= @Yields.ge
abbrev w5:= @Loads.HK
abbrev p5:= @Yields.not
abbrev m5:= @St.cond_b
abbrev n5:= @Cat.cn
abbrev k5:= @Loads.Fat
abbrev f5:= @St.call
abbrev g5:= @Yields.lk
abbrev t6:= @Yields.nisnt
abbrev v6:= @Yields.eqStr
abbrev p6:= @Mrel.look'
abbrev m6:= @keyInt
abbrev n6:= @St.rowo_new
abbrev k6:= @St.doneR3
abbrev f6:= @StD.node
abbrev g6:= @Yields.nis
abbrev t7:= @Among.none
abbrev u7:= @Yields.le
abbrev v7:= @Yields.not_t
abbrev n7:= @Loads.Hk
abbrev f7:= @Yields.look
abbrev v8:= @StD.use
abbrev r8:= @Bnd.of_nil
abbrev k8:= @Yields.makeInterface
abbrev f8:= @IdxAt.own
abbrev s9:= @St.rowo_at
abbrev x9:= @St.doneR2
abbrev p9:= @Among.of
abbrev m9:= @Yields.indexStr
abbrev an:= @Yields.not_f
abbrev ap:= @Yields.lenStr
abbrev aH:= @Yields.makeFunc
abbrev aI:= @Loads.rA1
abbrev aV:= @Yields.neStr
abbrev aW:= @StD.two
abbrev bg:= @Yields.fieldAddr
abbrev bw:= @Yields.look2
abbrev cg:= @St.cond_f
abbrev cQ:= @StD.three
abbrev cZ:= @Yields.assertF
abbrev fC (x:DAlt) (a:Option Addr) (b:Nat) (A1:Option Addr) (c:Nat) (A2:Option Addr) (d:Nat) (e:Option Addr) (f:Nat):Array Value:=#[iV x.P.Op,sV x.P.Name,iV x.P.N,sl a x.P.Kids b,iV x.E.Op,sV x.E.Name,iV x.E.N,sl A1 x.E.Names c,sl A2 x.E.Kids d,sl e x.E.Alts f]
abbrev gu (x:DFun) (a:Option Addr) (b:Nat) (A1:Option Addr) (c:Nat) (A2:Option Addr) (d:Nat) (e:Option Addr) (f:Nat):Array Value:=#[sV x.Name,sl a x.Vars b,iV x.E.Op,sV x.E.Name,iV x.E.N,sl A1 x.E.Names c,sl A2 x.E.Kids d,sl e x.E.Alts f]
abbrev gm (x:DGoal) (a:Option Addr) (b:Nat) (A1:Option Addr) (c:Nat) (A2:Option Addr) (d:Nat) (e:Option Addr) (f:Nat):Array Value:=#[sl a x.Vars b,iV x.E.Op,sV x.E.Name,iV x.E.N,sl A1 x.E.Names c,sl A2 x.E.Kids d,sl e x.E.Alts f]
abbrev ca (x:DExpr) (a:Option Addr) (b:Nat) (A1:Option Addr) (c:Nat) (A2:Option Addr) (d:Nat):Array Value:=#[iV x.Op,sV x.Name,iV x.N,sl a x.Names b,sl A1 x.Kids c,sl A2 x.Alts d]
abbrev gv (x:DAnswer) (a:Option Addr) (b:Nat) (A1:Option Addr) (c:Nat):Array Value:=#[iV x.V.Op,sV x.V.Name,iV x.V.N,sl a x.V.Kids b,sl A1 x.B c]
abbrev bd (x:DDecls) (a:Option Addr) (b:Nat) (A1:Option Addr) (c:Nat) (A2:Option Addr) (d:Nat):Array Value:=#[sl a x.Datas b,sl A1 x.Classes c,sl A2 x.Insts d]
abbrev eJ (x:DData) (a:Option Addr) (b:Nat) (A1:Option Addr) (c:Nat):Array Value:=#[sV x.Name,sl a x.Vars b,sl A1 x.Cons c]
abbrev gr (x:DInner):Array Value:=#[iV x.kids,.bool x.name,.bool x.names]
abbrev bP (g:Nat):Prop:=∀{F}{a0:DExpr}{a1 a2 a3 a b c d e f h i j}(k:Fsl 16 Kind.str F d e a0.Names) (l:Fsl 104 KDExpr F f h a0.Kids) (m:Fsl 160 KDAlt F i j a0.Alts) {r}(_:m_core_size_f1 g a0 a1 a2 a3=some r),
    CallSp Tryz.prog 82 #[.agg (ca a0 d e f h i j),iV a1,pP a 0,pP b 0,pP c 0] F [bK a #[iV a2] 3,bK b #[.bool a3] 4,bK c #[.func (.func 82) #[] #[pP a 0,pP b 0,pP c 0]] 151] (fun u F' H'=>u=(.tuple #[])∧H'=[bK a #[iV r.1] 3,bK b #[.bool r.2] 4,bK c #[.func (.func 82) #[] #[pP a 0,pP b 0,pP c 0]] 151])
theorem eh (E:bP g):bP (g+1):=by
 intro F a0 a1 a2 a3 d c b u v m n o p c4 G H r hm
 rw [m_core_size_f1] at hm
 refine f1 Tryz.func82 z z fun c5 c6 c7=>ssr<|ba z fun f=>snn<|ssr<|ld 1 r6 z<|yv (Yields.addw z z) z<|pk1<|s1 r6 z<|snn<|x1<|oC hm (fun x h s=>h [(1,iV a1),(3,pP c 0),(4,pP b 0),(5,pP f 0),(18,.bool x)]∧s F [bK d #[iV (Mir.w64 (a2+1))] 3,bK c #[.bool a3] 4,bK b #[.func (.func 82) #[] #[pP d 0,pP c 0,pP b 0]] 151,bK f (ca a0 u v m n o p) 64]) (fun x hm=>?_) fun x hm a w=>?_
 ·refine q0<|ld 0 r6 z<|?_
  rcases iS hm with⟨y,hm⟩|⟨y,hm⟩
  ·cases hm
   exact yv (t3 y (t5 z z)) z<|mv z<|un z z<|un z z<|pt z<|u1<|eN [0,1,1,0] z
  cases hm
  exact yv (s2 y (t5 z z)) z<|mv z<|mw z z<|yw (r2 z z) z z<|pf z<|u1<|eN [0,1,1,0] z
 rintro⟨ha,hs⟩
 refine us ha hs<|cB hm z (fun c8 hm=>?_) fun c9 hm=>?_
 ·refine oC hm (fun A h s=>h []∧s F [bK d #[iV (Mir.w64 (a2+1))] 3,bK c #[.bool A] 4,bK b #[.func (.func 82) #[] #[pP d 0,pP c 0,pP b 0]] 151]) (fun A hm=>?_) fun A hm a w=>?_
  ·refine q0<|?_
   rcases iS hm with⟨B,hm⟩|⟨B,hm⟩
   ·have N:(a3)=true:=B
    try rw [N]
    cases hm
    exact ld 1 dr z<|mv z<|un z z<|un z z<|pt z<|pk1<|s1 dr z<|u1<|eN [1,0,0] z
   have P:(a3)=false:=w2 B
   try rw [P]
   cases hm
   exact ld 1 dr z<|mv z<|mw z z<|yw (r2 z z) z z<|pf z<|pk1<|s1 dr z<|u1<|eN [1,0,0] z
  rintro⟨ha,hs⟩
  cases hm
  exact us ha hs<|u2<|v0<|St.doneR0 z ⟨z,z⟩ (aF [0,0,0] z)
 refine skn<|oC hm (fun q h s=>∃i,m3 F i∧h [(1,iV a1),(4,pP b 0),(5,pP f 0)]∧s i [bK d #[iV q.1] 3,bK c #[.bool q.2] 4,bK b #[.func (.func 82) #[] #[pP d 0,pP c 0,pP b 0]] 151,bK f (ca a0 u v m n o p) 64]) (fun q hm=>?_) fun q hm a w=>?_
 ·refine ssr<|fa w7 z<|ld 3 da z<|yv (u0 ek z) z<|mv z<|snn<|t1<|lM hm (fun k h s=>∃t,m3 F t∧h [(1,iV a1),(4,pP b 0),(5,pP f 0),(25,sl m a0.Kids n),(26,lV a0.Kids),(27,nV k.2.2)]∧s t [bK d #[iV k.1] 3,bK c #[.bool k.2.1] 4,bK b #[.func (.func 82) #[] #[pP d 0,pP c 0,pP b 0]] 151,bK f (ca a0 u v m n o p) 64]) ?_ ?_
  ·intro a w ha hs
   exact⟨F,(l0 _),cv ha,(am [0,0,0,0] hs z)⟩
  rintro k d1 d2 hm I a w ⟨t,C,ha,hs⟩
  refine us ha hs<|ssr<|yv (r2 z z) z<|snn<|x1<|cP hm z (fun Q hm=>?_) fun d3 hm=>?_
  ·refine skn<|x1<|t1<|ssr<|oS hm fun R S hm=>?_
   obtain⟨d4,d5,U,V,W⟩:=(x0 C G).nidx S
   obtain⟨d6,d7,d8,d9,e0,e1,rfl,X,Y,Z⟩:=DExpr.opn V
   refine yv (t2 U el z z) z<|yv (v1 z (k3 W m7)) z<|aa eK z fun e2=>sN m7 z z<|snn<|q0<|ld 3 fZ z<|lk 0 m7 z z<|mv z<|yv (Yields.subw z z) z<|pk3<|pk3<|pk3<|oS hm fun J a4 hm=>cl (E (a0:=R) X Y Z a4) z z<|?_
   rintro _ a5 _ ⟨rfl,rfl⟩ a6
   cases hm
   exact u1<|f2<|s4<|q0<|yv (s3 (j:=1) z z z (by have q_0:=Q;have q_1:=G.bnd.2;omega)) z<|mv z<|snn fun a w ha hs=>⟨(J.1,J.2,k.2.2+1),aL I,a5,(s0 C a6),cv ha,(am [0,0,0,1] hs z)⟩
  cases hm
  obtain rfl:=aR I
  exact u4<|p0<|p0<|u3 fun a w ha hs=>⟨t,C,cv ha,(am [0,0,0,0] hs z)⟩
 rintro⟨i,a7,ha,hs⟩
 refine us ha hs<|ssr<|fa u9 z<|ld 3 en z<|yv (u0 eY z) z<|mv z<|snn<|t1<|lM hm (fun l h s=>∃D,m3 i D∧h [(1,iV a1),(4,pP b 0),(38,sl o a0.Alts p),(39,lV a0.Alts),(40,nV l.2.2)]∧s D [bK d #[iV l.1] 3,bK c #[.bool l.2.1] 4,bK b #[.func (.func 82) #[] #[pP d 0,pP c 0,pP b 0]] 151]) ?_ ?_
 ·intro a w ha hs
  exact⟨i,(l0 _),cv ha,(am [0,0,0] hs z)⟩
 rintro l e3 e4 hm K a w ⟨D,L,ha,hs⟩
 refine us ha hs<|ssr<|yv (r2 z z) z<|snn<|x1<|cP hm z (fun a8 hm=>?_) fun e5 hm=>?_
 ·refine skn<|x1<|t1<|ssr<|oS hm fun e a9 hm=>?_
  obtain⟨e6,e7,b0,b1,b2⟩:=(x0 (s0 a7 L) H).nidx a9
  obtain⟨e8,e9,b3,b5,b6,b7,b8,b9,rfl,fo,cs,cu,c0⟩:=DAlt.opn b1
  refine yv (t2 b0 fr z z) z<|yv (v1 z (k3 b2 ci)) z<|aa eD z fun f0=>sN ci z z<|snn<|q0<|ld 3 fZ z<|fa af z<|yv (v1 z (n7 (vs:=[iV e.E.Op,sV e.E.Name,iV e.E.N,sl b3 e.E.Names b5,sl b6 e.E.Kids b7,sl b8 e.E.Alts b9]) 0 z m7 z z)) z<|mv z<|yv (Yields.subw z z) z<|pk3<|pk3<|pk3<|oS hm fun M c1 hm=>cl (E (a0:=e.E) cs cu c0 c1) z z<|?_
  rintro _ c2 _ ⟨rfl,rfl⟩ c3
  cases hm
  exact u1<|f2<|s4<|q0<|yv (s3 (j:=1) z z z (by have q_0:=a8;have q_1:=H.bnd.2;omega)) z<|mv z<|snn fun a w ha hs=>⟨(M.1,M.2,l.2.2+1),aL K,c2,(s0 L c3),cv ha,(am [0,0,0] hs z)⟩
 cases hm
 obtain rfl:=aR K
 exact u4<|p0<|p0<|u3<|St.endR0 z ⟨z,z⟩ (aF [0,0,0] z)
theorem cL:∀{g},bP g
 |0=>by intros;rename_i hm;exact nN hm
 |_+1=>eh cL
theorem fi {a0:DExpr}(a:Fsl 16 Kind.str F b c a0.Names) (d:Fsl 104 KDExpr F e f a0.Kids) (h:Fsl 160 KDAlt F i j a0.Alts) (hm:m_core_size g a0=some r):
    CallSp Tryz.prog 58 #[.agg (ca a0 b c e f i j)] F [] (fun u F' H'=>u=(.tuple #[iV r.1,.bool r.2])∧H'=[]):=by
 unfold m_core_size at hm
 refine f1 Tryz.func58 z z fun l m n=>ssr<|ba z fun o=>sg z<|sg z<|snn<|ssr<|al eL z fun p=>al gp z fun q=>pk1<|s1 r6 z<|pk1<|s1 dr z<|snn<|ssr<|al gy z fun s=>snn<|ssr<|yv (aH (fun _ _=>ev0) (fun _ ha=>ev3 ha z z z)) z<|s1 fZ z<|snn<|ssr<|ld 0 fZ z<|lk 3 m7 z z<|pk1<|pk2<|oS hm fun t k hm=>cl (cL (a0:=a0) a d h k) z z<|?_
 rintro _ v _ ⟨rfl,rfl⟩ w
 cases hm
 exact snn<|x1<|ds [] hmix<|tk [2,3] 0 z (p3 0 r6 z) z z k1<|tk [2,3] 1 z (p3 1 dr z) z z k1<|tp 2 z (fun _=>w4 z) z z<|tp 3 z (fun _=>w4 z) z z<|dn<|s4<|u2<|x9 z z z ⟨z,z⟩ (aF [] z)
theorem cM {a0:DExpr}(e:Fsl 16 Kind.str F f i a0.Names) (j:Fsl 104 KDExpr F k l a0.Kids) (m:Fsl 160 KDAlt F n o a0.Alts) (hm:m_core_IsLarge g a0=some r):
    CallSp Tryz.prog 32 #[.agg (ca a0 f i k l n o)] F [] (fun u F' H'=>u=(.bool r)∧H'=[]):=by
 unfold m_core_IsLarge at hm
 refine f1 Tryz.func32 z z fun x y A=>ssr<|ba z fun B=>sg z<|snn<|ssr<|lk 0 m7 z z<|oS hm fun d p hm=>cl (fi (a0:=a0) e j m p) z z<|?_
 rintro _ q _ ⟨rfl,rfl⟩ C
 refine mv z<|yv (r0 z z) z<|yv (r0 z z) z<|sg z<|sg z<|snn<|oC hm (fun b h s=>h [(2,.bool b)]∧s q []) (fun b hm=>?_) fun b hm a w=>?_
 ·refine q0<|?_
  rcases iS hm with⟨c,hm⟩|⟨c,hm⟩
  ·have t:(d.2)=true:=c
   try rw [t]
   cases hm
   exact mv z<|mv z<|un z z<|un z z<|pt z<|sg z<|u1<|eN [] z
  have v:(d.2)=false:=w2 c
  try rw [v]
  cases hm
  exact mv z<|mv z<|mw z z<|yw (t5 z z) z z<|pf z<|sg z<|u1<|eN [] z
 rintro⟨ha,hs⟩
 cases hm
 exact us ha hs<|u2<|k0 z z ⟨z,z⟩ (aF [] z)
theorem eX {a0:DDecls}(v:Fsl 64 KDData F c d a0.Datas) (N:Fsl 64 KDClass F e f a0.Classes) (P:Fsl 80 KDInst F i k a0.Insts) (hm:m_data_large g a0=some r):
    CallSp Tryz.prog 59 #[.agg (bd a0 c d e f i k)] F [] (fun u F' H'=>u=(iV r)∧H'=[]):=by
 unfold m_data_large at hm
 refine f1 Tryz.func59 z z fun Q R S=>ssr<|ba z fun b=>sg z<|snn<|oC hm (fun o h s=>h [(1,pP b 0),(3,.bool o)]∧s F [bK b (bd a0 c d e f i k) 93]) (fun o hm=>?_) fun o hm a w=>?_
 ·refine q0<|fa bq z<|ld 0 ft z<|yv (u0 fE z) z<|?_
  rcases iS hm with⟨p,hm⟩|⟨p,hm⟩
  ·cases hm
   exact yv (t3 p (t5 z z)) z<|mv z<|un z z<|un z z<|un z z<|un z z<|pt z<|mv z<|un z z<|un z z<|un z z<|un z z<|pt z<|sg z<|u1<|eN [0] z
  refine yv (s2 p (t5 z z)) z<|mv z<|fw ay z z<|lw 0 fG z z<|yw (u0 fD z) z z<|?_
  rcases iS hm with⟨q,hm⟩|⟨q,hm⟩
  ·cases hm
   exact yw (t3 q (t5 z z)) z z<|pf z<|mv z<|un z z<|un z z<|un z z<|un z z<|pt z<|sg z<|u1<|eN [0] z
  cases hm
  exact yw (s2 q (t5 z z)) z z<|pf z<|mv z<|fw bU z z<|lw 0 gd z z<|yw (u0 gc z) z z<|yw (t5 z z) z z<|pf z<|sg z<|u1<|eN [0] z
 rintro⟨ha,hs⟩
 refine us ha hs<|oC hm (fun l h s=>h [(1,pP b 0),(3,.bool l)]∧s F [bK b (bd a0 c d e f i k) 93]) (fun l hm=>?_) fun l hm a w=>?_
 ·refine ssr<|fa bq z<|ld 0 ft z<|yv (u0 fE z) z<|mv z<|snn<|t1<|lM hm (fun m h s=>h [(1,pP b 0),(3,.bool m.1),(27,sl c a0.Datas d),(28,lV a0.Datas),(29,nV m.2)]∧s F [bK b (bd a0 c d e f i k) 93]) ?_ ?_
  ·intro a w ha hs
   exact⟨cv ha,(am [0] hs z)⟩
  rintro m U V hm x a w ⟨ha,hs⟩
  refine us ha hs<|ssr<|yv (r2 z z) z<|snn<|x1<|cP hm z (fun B hm=>?_) fun W hm=>?_
  ·refine skn<|oC hm (fun n h s=>h [(1,pP b 0),(3,.bool n),(27,sl c a0.Datas d),(28,lV a0.Datas),(29,nV m.2)]∧s F [bK b (bd a0 c d e f i k) 93]) (fun n hm=>?_) fun n hm a w=>?_
   ·refine t1<|ssr<|oS hm fun X C hm=>?_
    obtain⟨Y,Z,D,E,G⟩:=v.nidx C
    obtain⟨a1,a2,a3,a4,rfl,a5,a6⟩:=DData.opn E
    refine yv (t2 D dy z z) z<|yv (v1 z (k3 G aC)) z<|aa dS z fun a7=>sN aC z z<|snn<|q0<|?_
    rcases iS hm with⟨t,hm⟩|⟨t,hm⟩
    ·have H:(m.1)=true:=t
     try rw [H]
     cases hm
     exact mv z<|mv z<|un z z<|un z z<|un z z<|un z z<|pt z<|sg z<|u1<|f2 fun a w ha hs=>⟨cv ha,(am [1] hs z)⟩
    have I:(m.1)=false:=w2 t
    try rw [I]
    cases hm
    exact mv z<|mv z<|fw aU z z<|lw 0 fd z z<|yw (u0 fb z) z z<|yw (t5 z z) z z<|pf z<|sg z<|u1<|f2 fun a w ha hs=>⟨cv ha,(am [1] hs z)⟩
   rintro⟨ha,hs⟩
   cases hm
   exact us ha hs<|q0<|yv (s3 (j:=1) z z z (by have q_0:=B;have q_1:=v.bnd.2;omega)) z<|mv z<|snn fun a w ha hs=>⟨(n,m.2+1),aL x,cv ha,(am [0] hs z)⟩
  cases hm
  obtain rfl:=aR x
  exact u4<|p0<|p0<|u3 fun a w ha hs=>⟨cv ha,(am [0] hs z)⟩
 rintro⟨ha,hs⟩
 refine us ha hs<|oC hm (fun y h s=>h [(1,pP b 0),(3,.bool l)]∧s F [bK b (bd a0 c d e f i k) 93]) (fun y hm=>?_) fun y hm a w=>?_
 ·refine ssr<|fa ay z<|ld 0 fG z<|yv (u0 fD z) z<|mv z<|snn<|t1<|lM hm (fun J h s=>h [(1,pP b 0),(3,.bool l),(42,sl e a0.Classes f),(43,lV a0.Classes),(44,iV 0)]∧s F [bK b (bd a0 c d e f i k) 93]) ?_ ?_
  ·intro a w ha hs
   exact⟨cv ha,(am [0] hs z)⟩
  rintro J a8 a9 hm K a w ⟨ha,hs⟩
  refine us ha hs<|ssr<|yv (r2 z z) z<|snn<|x1<|cP hm z (fun b0 hm=>?_) fun b1 hm=>?_
  ·exact skn<|x1<|t1<|ssr<|nomatch (show(none:Option _)=some _ from hm)
  cases hm
  obtain rfl:=aR K
  exact u4<|p0<|p0<|u3 fun a w ha hs=>⟨cv ha,(am [0] hs z)⟩
 rintro⟨ha,hs⟩
 refine us ha hs<|oC hm (fun A h s=>h [(3,.bool l)]∧s F []) (fun A hm=>?_) fun A hm a w=>?_
 ·refine ssr<|fa bU z<|ld 0 gd z<|yv (u0 gc z) z<|mv z<|snn<|t1<|lM hm (fun L h s=>h [(3,.bool l),(57,sl i a0.Insts k),(58,lV a0.Insts),(59,iV 0)]∧s F []) ?_ ?_
  ·intro a w ha hs
   exact⟨cv ha,(am [] hs z)⟩
  rintro L b2 b3 hm M a w ⟨ha,hs⟩
  refine us ha hs<|ssr<|yv (r2 z z) z<|snn<|x1<|cP hm z (fun b5 hm=>?_) fun b6 hm=>?_
  ·exact skn<|x1<|t1<|ssr<|nomatch (show(none:Option _)=some _ from hm)
  cases hm
  obtain rfl:=aR M
  exact u4<|p0<|p0<|u3 fun a w ha hs=>⟨cv ha,(am [] hs z)⟩
 rintro⟨ha,hs⟩
 refine us ha hs<|x1<|ssr<|mv z<|snn<|cB hm z (fun b7 hm=>?_) fun b8 hm=>?_
 ·cases hm
  exact ssr<|sg z<|snn<|u2<|v0<|k0 z z ⟨z,z⟩ (aF [] z)
 cases hm
 exact skn<|ssr<|sg z<|snn<|u2<|k0 z z ⟨z,z⟩ (aF [] z)
theorem cW (hm:m_data_isName g a0 a1 a2=some r):
    CallSp Tryz.prog 106 #[sV a0,.int .u8 a1,.int .u8 a2] F [] (fun u F' H'=>u=(.bool r)∧H'=[]):=by
 unfold m_data_isName at hm
 refine f1 Tryz.func106 z z fun N P Q=>ssr<|sg z<|snn<|x1<|oC hm (fun c h s=>h [(0,sV a0),(28,.bool c)]∧s F []) (fun c hm=>?_) fun c hm a w=>?_
 ·refine q0<|mv z<|yv (ap fx z) z<|?_
  rcases iS hm with⟨d,hm⟩|⟨d,hm⟩
  ·cases hm
   exact yv (t3 d (r2 z z)) z<|mv z<|un z z<|un z z<|un z z<|pt z<|mv z<|un z z<|un z z<|un z z<|un z z<|pt z<|mv z<|un z z<|un z z<|un z z<|un z z<|pt z<|u1<|eN [] z
  refine yv (s2 d (r2 z z)) z<|mv z<|mw z z<|yw (ap fx z) z z<|?_
  rcases iS hm with⟨e,hm⟩|⟨e,hm⟩
  ·cases hm
   exact yw (t3 e (t5 z z)) z z<|pf z<|mv z<|un z z<|un z z<|un z z<|un z z<|pt z<|mv z<|un z z<|un z z<|un z z<|un z z<|pt z<|u1<|eN [] z
  refine yw (s2 e (t5 z z)) z z<|pf z<|mv z<|mw z z<|oS hm fun R I hm=>yw (m9 (nlit I) fx z z) z z<|mw z z<|?_
  rcases iS hm with⟨f,hm⟩|⟨f,hm⟩
  ·cases hm
   exact yw (t3 f (r2 z z)) z z<|pf z<|mv z<|un z z<|un z z<|un z z<|un z z<|pt z<|u1<|eN [] z
  refine yw (s2 f (r2 z z)) z z<|pf z<|mv z<|mw z z<|oS hm fun S J hm=>?_
  cases hm
  exact yw (m9 (nlit J) fx z z) z z<|mw z z<|yw (t5 z z) z z<|pf z<|u1<|eN [] z
 rintro⟨ha,hs⟩
 refine us ha hs<|cB hm z (fun U hm=>?_) fun V hm=>?_
 ·cases hm
  exact ssr<|sg z<|snn<|u2<|v0<|k0 z z ⟨z,z⟩ (aF [] z)
 refine skn<|oD hm (fun i h s=>∃H:Unit,i=.inl H∧h []∧s F []) (fun i hm k=>?_) fun i k a w=>?_
 ·refine ssr<|sg z<|snn<|t1<|lM hm (fun b h s=>h [(0,sV a0),(7,nV b)]∧s F []) ?_ ?_
  ·intro a w ha hs
   exact⟨cv ha,(am [] hs z)⟩
  rintro b W X hm l a w ⟨ha,hs⟩
  refine us ha hs<|x1<|ssr<|mv z<|mv z<|yv (ap fx z) z<|yv (r2 z z) z<|snn<|cP hm z (fun K hm=>?_) fun Y hm=>?_
  ·refine skn<|x1<|t1<|ssr<|mv z<|mv z<|oS hm fun Z L hm=>yv (m9 (nlit L) fx z z) z<|sg z<|snn<|oC hm (fun m h s=>h [(0,sV a0),(7,nV b),(64,.bool m)]∧s F []) (fun m hm=>?_) fun m hm a w=>?_
   ·refine q0<|mv z<|?_
    rcases iS hm with⟨n,hm⟩|⟨n,hm⟩
    ·refine yv (t3 n (u5 z z)) z<|mv z<|mw z z<|?_
     rcases iS hm with⟨o,hm⟩|⟨o,hm⟩
     ·cases hm
      exact yw (t3 o (u7 z z)) z z<|pt z<|mv z<|un z z<|un z z<|un z z<|k2 p1 z z<|k2 p1 z z<|un z z<|pt z<|mv z<|un z z<|un z z<|un z z<|k2 p1 z z<|k2 p1 z z<|un z z<|pt z<|mv z<|un z z<|un z z<|pt z<|yv (v7 z) z<|u1<|eN [] z
     refine yw (s2 o (u7 z z)) z z<|pt z<|mv z<|mw z z<|?_
     rcases iS hm with⟨p,hm⟩|⟨p,hm⟩
     ·refine yw (t3 p (u5 z z)) z z<|mw z z<|mw z z<|?_
      rcases iS hm with⟨q,hm⟩|⟨q,hm⟩
      ·cases hm
       exact yw (t3 q (u7 z z)) z z<|yw (f3 z z) z z<|pf z<|mv z<|un z z<|un z z<|un z z<|k2 p1 z z<|k2 p1 z z<|un z z<|pt z<|mv z<|un z z<|un z z<|pt z<|yv (v7 z) z<|u1<|eN [] z
      refine yw (s2 q (u7 z z)) z z<|yw (f3 z z) z z<|pf z<|mv z<|mw z z<|?_
      rcases iS hm with⟨t,hm⟩|⟨t,hm⟩
      ·refine yw (t3 t (u5 z z)) z z<|mw z z<|mw z z<|?_
       rcases iS hm with⟨v,hm⟩|⟨v,hm⟩
       ·cases hm
        exact yw (t3 v (u7 z z)) z z<|yw (f3 z z) z z<|pf z<|mv z<|un z z<|un z z<|pt z<|yv (v7 z) z<|u1<|eN [] z
       cases hm
       exact yw (s2 v (u7 z z)) z z<|yw (f3 z z) z z<|pf z<|mv z<|mw z z<|yw (w1 z z) z z<|pf z<|yv (p5 z) z<|u1<|eN [] z
      cases hm
      exact yw (s2 t (u5 z z)) z z<|mw z z<|un z z<|un z z<|yw (n3 z z) z z<|pf z<|mv z<|mw z z<|yw (w1 z z) z z<|pf z<|yv (p5 z) z<|u1<|eN [] z
     refine yw (s2 p (u5 z z)) z z<|mw z z<|un z z<|un z z<|yw (n3 z z) z z<|pf z<|mv z<|mw z z<|?_
     rcases iS hm with⟨x,hm⟩|⟨x,hm⟩
     ·refine yw (t3 x (u5 z z)) z z<|mw z z<|mw z z<|?_
      rcases iS hm with⟨y,hm⟩|⟨y,hm⟩
      ·cases hm
       exact yw (t3 y (u7 z z)) z z<|yw (f3 z z) z z<|pf z<|mv z<|un z z<|un z z<|pt z<|yv (v7 z) z<|u1<|eN [] z
      cases hm
      exact yw (s2 y (u7 z z)) z z<|yw (f3 z z) z z<|pf z<|mv z<|mw z z<|yw (w1 z z) z z<|pf z<|yv (p5 z) z<|u1<|eN [] z
     cases hm
     exact yw (s2 x (u5 z z)) z z<|mw z z<|un z z<|un z z<|yw (n3 z z) z z<|pf z<|mv z<|mw z z<|yw (w1 z z) z z<|pf z<|yv (p5 z) z<|u1<|eN [] z
    refine yv (s2 n (u5 z z)) z<|mv z<|un z z<|un z z<|pf z<|mv z<|mw z z<|?_
    rcases iS hm with⟨A,hm⟩|⟨A,hm⟩
    ·refine yw (t3 A (u5 z z)) z z<|mw z z<|mw z z<|?_
     rcases iS hm with⟨B,hm⟩|⟨B,hm⟩
     ·cases hm
      exact yw (t3 B (u7 z z)) z z<|yw (f3 z z) z z<|pf z<|mv z<|un z z<|un z z<|un z z<|k2 p1 z z<|k2 p1 z z<|un z z<|pt z<|mv z<|un z z<|un z z<|pt z<|yv (v7 z) z<|u1<|eN [] z
     refine yw (s2 B (u7 z z)) z z<|yw (f3 z z) z z<|pf z<|mv z<|mw z z<|?_
     rcases iS hm with⟨C,hm⟩|⟨C,hm⟩
     ·refine yw (t3 C (u5 z z)) z z<|mw z z<|mw z z<|?_
      rcases iS hm with⟨D,hm⟩|⟨D,hm⟩
      ·cases hm
       exact yw (t3 D (u7 z z)) z z<|yw (f3 z z) z z<|pf z<|mv z<|un z z<|un z z<|pt z<|yv (v7 z) z<|u1<|eN [] z
      cases hm
      exact yw (s2 D (u7 z z)) z z<|yw (f3 z z) z z<|pf z<|mv z<|mw z z<|yw (w1 z z) z z<|pf z<|yv (p5 z) z<|u1<|eN [] z
     cases hm
     exact yw (s2 C (u5 z z)) z z<|mw z z<|un z z<|un z z<|yw (n3 z z) z z<|pf z<|mv z<|mw z z<|yw (w1 z z) z z<|pf z<|yv (p5 z) z<|u1<|eN [] z
    refine yw (s2 A (u5 z z)) z z<|mw z z<|un z z<|un z z<|yw (n3 z z) z z<|pf z<|mv z<|mw z z<|?_
    rcases iS hm with⟨E,hm⟩|⟨E,hm⟩
    ·refine yw (t3 E (u5 z z)) z z<|mw z z<|mw z z<|?_
     rcases iS hm with⟨G,hm⟩|⟨G,hm⟩
     ·cases hm
      exact yw (t3 G (u7 z z)) z z<|yw (f3 z z) z z<|pf z<|mv z<|un z z<|un z z<|pt z<|yv (v7 z) z<|u1<|eN [] z
     cases hm
     exact yw (s2 G (u7 z z)) z z<|yw (f3 z z) z z<|pf z<|mv z<|mw z z<|yw (w1 z z) z z<|pf z<|yv (p5 z) z<|u1<|eN [] z
    cases hm
    exact yw (s2 E (u5 z z)) z z<|mw z z<|un z z<|un z z<|yw (n3 z z) z z<|pf z<|mv z<|mw z z<|yw (w1 z z) z z<|pf z<|yv (p5 z) z<|u1<|eN [] z
   rintro⟨ha,hs⟩
   refine us ha hs<|cB hm z (fun a3 hm=>?_) fun a4 hm=>?_
   ·cases hm
    obtain rfl:=aR l
    obtain rfl:=aR k
    exact ssr<|sg z<|snn<|u2<|m2<|v0<|v0<|m2<|v0<|k0 z z ⟨z,z⟩ (aF [] z)
   refine k4<|f2<|s4<|q0<|mv z<|oS hm fun a5 M hm=>?_
   cases hm
   exact yv (s3 (j:=1) z z z (by have q_0:=K;have q_1:=(Mir.small_le M);omega)) z<|sg z<|snn fun a w ha hs=>⟨b+1,aL l,cv ha,(am [] hs z)⟩
  cases hm
  obtain rfl:=aR l
  exact u4<|p0<|p0<|u3 fun a w ha hs=>⟨(),z,cv ha,(am [] hs z)⟩
 rintro⟨H,rfl,ha,hs⟩
 replace hm:=aL k
 cases hm
 exact us ha hs<|ssr<|sg z<|snn<|u2<|k0 z z ⟨z,z⟩ (aF [] z)
theorem cK (hm:m_data_isGreat g a0=some r):
    CallSp Tryz.prog 83 #[sV a0] F [] (fun u F' H'=>u=(.bool r)∧H'=[]):=by
 unfold m_data_isGreat at hm
 refine f1 Tryz.func83 z z fun b c d=>ssr<|sg z<|snn<|ssr<|mv z<|oS hm fun e a hm=>cl (cW a) z z<|?_
 rintro _ f _ ⟨rfl,rfl⟩ h
 cases hm
 exact sg z<|snn<|u2<|k0 z z ⟨z,z⟩ (aF [] z)
theorem bH (f:Fsl 16 Kind.str F i k a0) (hm:m_slices_Index_string_string g a0 a1=some r):
    CallSp Tryz.prog 107 #[sl i a0 k,sV a1] F [] (fun u F' H'=>u=(iV r)∧H'=[]):=by
 unfold m_slices_Index_string_string at hm
 refine f1 Tryz.func107 z z fun t v x=>ssr<|sg z<|snn<|oD hm (fun b h s=>∃l:Unit,b=.inl l∧h []∧s F []) (fun b hm c=>?_) fun b c a w=>?_
 ·refine ssr<|mv z<|yv (u0 bj z) z<|mv z<|snn<|t1<|lM hm (fun d h s=>h [(0,sl i a0 k),(1,sV a1),(7,lV a0),(8,nV d)]∧s F []) ?_ ?_
  ·intro a w ha hs
   exact⟨cv ha,(am [] hs z)⟩
  rintro d y A hm e a w ⟨ha,hs⟩
  refine us ha hs<|ssr<|yv (r2 z z) z<|snn<|x1<|cP hm z (fun m hm=>?_) fun B hm=>?_
  ·refine skn<|x1<|t1<|ssr<|mv z<|sg z<|snn<|ssr<|mv z<|mv z<|mv z<|oS hm fun C n hm=>?_
   obtain⟨D,E,o,p,q⟩:=f.nidx n
   obtain rfl:=p
   refine yv (t2 o bM z z) z<|yv (v1 z (k5 q r9 z)) z<|yv (v6 z z) z<|snn<|cP hm z (fun G hm=>?_) fun H hm=>?_
   ·cases hm
    obtain rfl:=aR e
    obtain rfl:=aR c
    exact ssr<|mv z<|sg z<|snn<|u2<|m2<|v0<|v0<|m2<|v0<|k0 z z ⟨z,z⟩ (aF [] z)
   cases hm
   exact k4<|f2<|s4<|q0<|yv (s3 (j:=1) z z z (by have q_0:=m;have q_1:=f.bnd.2;omega)) z<|mv z<|snn fun a w ha hs=>⟨d+1,aL e,cv ha,(am [] hs z)⟩
  cases hm
  obtain rfl:=aR e
  exact u4<|p0<|p0<|u3 fun a w ha hs=>⟨(),z,cv ha,(am [] hs z)⟩
 rintro⟨l,rfl,ha,hs⟩
 replace hm:=aL c
 cases hm
 exact us ha hs<|ssr<|sg z<|snn<|u2<|k0 z z ⟨z,z⟩ (aF [] z)
theorem k9 (a:Fsl 16 Kind.str F b c a0) (hm:m_slices_Contains_string_string g a0 a1=some r):
    CallSp Tryz.prog 86 #[sl b a0 c,sV a1] F [] (fun u F' H'=>u=(.bool r)∧H'=[]):=by
 unfold m_slices_Contains_string_string at hm
 refine f1 Tryz.func86 z z fun e f h=>ssr<|sg z<|snn<|ssr<|mv z<|mv z<|oS hm fun i d hm=>cl (bH a d) z z<|?_
 rintro _ j _ ⟨rfl,rfl⟩ k
 cases hm
 exact yv (u5 z z) z<|sg z<|snn<|u2<|k0 z z ⟨z,z⟩ (aF [] z)
theorem cJ (hm:m_data_isSmall g a0=some r):
    CallSp Tryz.prog 84 #[sV a0] F [] (fun u F' H'=>u=(.bool r)∧H'=[]):=by
 unfold m_data_isSmall at hm
 refine f1 Tryz.func84 z z fun t v x=>ssr<|sg z<|snn<|ssr<|v3 (e:=9) (cells:=#[sV [100,97,116,97],sV [99,108,97,115,115],sV [105,110,115,116,97,110,99,101],sV [111,112],sV [101,110,100],sV [119,104,101,114,101],sV [108,101,116],sV [105,110],sV [102,114,101,101],sV [99,97,115,101],sV [114,105,103,105,100],sV [111,102],sV [102,97,105,108]]) (A2 z) (fun _=>by kernel_rfl) z p1 fun j=>wr ([[100,97,116,97],[99,108,97,115,115],[105,110,115,116,97,110,99,101],[111,112],[101,110,100],[119,104,101,114,101],[108,101,116],[105,110],[102,114,101,101],[99,97,115,101],[114,105,103,105,100],[111,102],[102,97,105,108]]:List (List UInt8)) 1 z z<|sg z<|snn<|oC hm (fun b h s=>∃c,m3 F c∧h [(2,.bool b)]∧s c []) (fun b hm=>?_) fun b hm a w=>?_
 ·refine q0<|mv z<|oS hm fun i k hm=>cl (cW k) z z<|?_
  rintro _ l _ ⟨rfl,rfl⟩ d
  rcases iS hm with⟨f,hm⟩|⟨f,hm⟩
  ·have m:(i)=true:=f
   try rw [m]
   refine mv z<|mw z z<|mw z z<|oS hm fun y n hm=>f5 _ (CallSp.lend (Hl:=[rowo (bA j) ([[100,97,116,97],[99,108,97,115,115],[105,110,115,116,97,110,99,101],[111,112],[101,110,100],[119,104,101,114,101],[108,101,116],[105,110],[102,114,101,101],[99,97,115,101],[114,105,103,105,100],[111,102],[102,97,105,108]]:List (List UInt8)).length 13 9 1 [sV [100,97,116,97],sV [99,108,97,115,115],sV [105,110,115,116,97,110,99,101],sV [111,112],sV [101,110,100],sV [119,104,101,114,101],sV [108,101,116],sV [105,110],sV [102,114,101,101],sV [99,97,115,101],sV [114,105,103,105,100],sV [111,102],sV [102,97,105,108]]]) (fun m_ hm_ hd_ h1_ h2_=>(k9 (lentR hm_ 0 z z (g4 d (show Cat Kind.str F [sV [100,97,116,97],sV [99,108,97,115,115],sV [105,110,115,116,97,110,99,101],sV [111,112],sV [101,110,100],sV [119,104,101,114,101],sV [108,101,116],sV [105,110],sV [102,114,101,101],sV [99,97,115,101],sV [114,105,103,105,100],sV [111,102],sV [102,97,105,108]] ([[100,97,116,97],[99,108,97,115,115],[105,110,115,116,97,110,99,101],[111,112],[101,110,100],[119,104,101,114,101],[108,101,116],[105,110],[102,114,101,101],[99,97,115,101],[114,105,103,105,100],[111,102],[102,97,105,108]]:List (List UInt8)) from⟨[sV [100,97,116,97]],_,z,z,⟨[sV [99,108,97,115,115]],_,z,z,⟨[sV [105,110,115,116,97,110,99,101]],_,z,z,⟨[sV [111,112]],_,z,z,⟨[sV [101,110,100]],_,z,z,⟨[sV [119,104,101,114,101]],_,z,z,⟨[sV [108,101,116]],_,z,z,⟨[sV [105,110]],_,z,z,⟨[sV [102,114,101,101]],_,z,z,⟨[sV [99,97,115,101]],_,z,z,⟨[sV [114,105,103,105,100]],_,z,z,⟨[sV [111,102]],_,z,z,⟨[sV [102,97,105,108]],_,z,z,z⟩⟩⟩⟩⟩⟩⟩⟩⟩⟩⟩⟩⟩)) (show Bnd 16 ([[100,97,116,97],[99,108,97,115,115],[105,110,115,116,97,110,99,101],[111,112],[101,110,100],[119,104,101,114,101],[108,101,116],[105,110],[102,114,101,101],[99,97,115,101],[114,105,103,105,100],[111,102],[102,97,105,108]]:List (List UInt8)) from⟨by simp,by simp⟩) h1_ h2_) n).mono (fun _ _ _ h_ _ _=>h_))) z (A1 z) z en86.out z z z<|?_
   rintro _ o _ ⟨_,rfl,rfl,rfl⟩ p
   cases hm
   exact yw (p5 z) z z<|pt z<|sg z<|u1 fun a w ha hs=>⟨o,(s0 d p),cv ha,(am [] hs z)⟩
  have q:(i)=false:=w2 f
  try rw [q]
  cases hm
  exact mv z<|un z z<|un z z<|un z z<|un z z<|pf z<|sg z<|u1 fun a w ha hs=>⟨l,d,cv ha,(am [] hs z)⟩
 rintro⟨c,A,ha,hs⟩
 cases hm
 exact us ha hs<|u2<|k0 z z ⟨z,z⟩ (aF [] z)
theorem fh {a0:DDecls}(a3:Fsl 64 KDData F c d a0.Datas) (gS:Fsl 64 KDClass F e f a0.Classes) (gT:Fsl 80 KDInst F i k a0.Insts) (hm:m_data_args g a0=some r):
    CallSp Tryz.prog 60 #[.agg (bd a0 c d e f i k)] F [] (fun u F' H'=>u=(iV r)∧H'=[]):=by
 unfold m_data_args at hm
 refine f1 Tryz.func60 z z fun gU gV gW=>ssr<|ba z fun b=>sg z<|snn<|ssr<|sg z<|snn<|oC hm (fun n h s=>∃p,m3 F p∧h [(1,pP b 0),(3,.bool n)]∧s p [bK b (bd a0 c d e f i k) 93]) (fun n hm=>?_) fun n hm a w=>?_
 ·refine ssr<|fa bq z<|ld 0 ft z<|yv (u0 fE z) z<|mv z<|snn<|t1<|lM hm (fun l h s=>∃q,m3 F q∧h [(1,pP b 0),(3,.bool l.1),(23,sl c a0.Datas d),(24,lV a0.Datas),(25,nV l.2)]∧s q [bK b (bd a0 c d e f i k) 93]) ?_ ?_
  ·intro a w ha hs
   exact⟨F,(l0 _),cv ha,(am [0] hs z)⟩
  rintro l gX gY hm a4 a w ⟨q,N,ha,hs⟩
  refine us ha hs<|ssr<|yv (r2 z z) z<|snn<|x1<|cP hm z (fun b9 hm=>?_) fun gZ hm=>?_
  ·refine skn<|oC hm (fun H h s=>∃I,m3 q I∧h [(1,pP b 0),(3,.bool H),(23,sl c a0.Datas d),(24,lV a0.Datas),(25,nV l.2)]∧s I [bK b (bd a0 c d e f i k) 93]) (fun H hm=>?_) fun H hm a w=>?_
   ·refine t1<|ssr<|oS hm fun m cs hm=>?_
    obtain⟨g0,g1,cu,c0,c1⟩:=(x0 N a3).nidx cs
    obtain⟨x,y,A,B,rfl,a5,a6⟩:=DData.opn c0
    refine yv (t2 cu dy z z) z<|yv (v1 z (k3 c1 aC)) z<|aa dS z fun o=>sN aC z z<|snn<|oC hm (fun P h s=>∃C,m3 q C∧h [(1,pP b 0),(3,.bool P),(5,pP o 0),(23,sl c a0.Datas d),(24,lV a0.Datas),(25,nV l.2)]∧s C [bK b (bd a0 c d e f i k) 93,bK o (eJ m x y A B) 106]) (fun P hm=>?_) fun P hm a w=>?_
    ·refine q0<|?_
     rcases iS hm with⟨Q,hm⟩|⟨Q,hm⟩
     ·have c2:(l.1)=true:=Q
      try rw [c2]
      refine mv z<|mv z<|fw dJ z z<|lw 0 r9 z z<|oS hm fun a7 c3 hm=>f5 _ (cK c3) z (A1 z) z en83.out z z z<|?_
      rintro _ a8 _ ⟨rfl,rfl⟩ a9
      rcases iS hm with⟨R,hm⟩|⟨R,hm⟩
      ·have c4:(a7)=true:=R
       try rw [c4]
       cases hm
       exact pt z<|mv z<|fw bZ z z<|lw 0 aJ z z<|yw (u0 bj z) z z<|yw (u7 z z) z z<|pt z<|sg z<|u1 fun a w ha hs=>⟨a8,a9,cv ha,(am [1,0] hs z)⟩
      have c5:(a7)=false:=w2 R
      try rw [c5]
      cases hm
      exact pt z<|mv z<|un z z<|un z z<|un z z<|un z z<|pf z<|sg z<|u1 fun a w ha hs=>⟨a8,a9,cv ha,(am [1,0] hs z)⟩
     have c6:(l.1)=false:=w2 Q
     try rw [c6]
     cases hm
     exact mv z<|mv z<|un z z<|un z z<|un z z<|pf z<|mv z<|un z z<|un z z<|un z z<|un z z<|pf z<|sg z<|u1 fun a w ha hs=>⟨q,(l0 _),cv ha,(am [1,0] hs z)⟩
    rintro⟨C,S,ha,hs⟩
    refine us ha hs<|oC hm (fun U h s=>∃G,m3 C G∧h [(1,pP b 0),(3,.bool U),(5,pP o 0),(23,sl c a0.Datas d),(24,lV a0.Datas),(25,nV l.2)]∧s G [bK b (bd a0 c d e f i k) 93,bK o (eJ m x y A B) 106]) (fun U hm=>?_) fun U hm a w=>?_
    ·refine ssr<|fa bZ z<|ld 1 aJ z<|yv (u0 bj z) z<|mv z<|snn<|t1<|lM hm (fun t h s=>∃D,m3 C D∧h [(1,pP b 0),(3,.bool t.1),(5,pP o 0),(23,sl c a0.Datas d),(24,lV a0.Datas),(25,nV l.2),(42,sl x m.Vars y),(43,lV m.Vars),(44,nV t.2)]∧s D [bK b (bd a0 c d e f i k) 93,bK o (eJ m x y A B) 106]) ?_ ?_
     ·intro a w ha hs
      exact⟨C,(l0 _),cv ha,(am [0,0] hs z)⟩
     rintro t g2 g3 hm b0 a w ⟨D,V,ha,hs⟩
     refine us ha hs<|ssr<|yv (r2 z z) z<|snn<|x1<|cP hm z (fun c7 hm=>?_) fun g7 hm=>?_
     ·refine skn<|oC hm (fun J h s=>∃K,m3 D K∧h [(1,pP b 0),(3,.bool J),(5,pP o 0),(23,sl c a0.Datas d),(24,lV a0.Datas),(25,nV l.2),(42,sl x m.Vars y),(43,lV m.Vars),(44,nV t.2)]∧s K [bK b (bd a0 c d e f i k) 93,bK o (eJ m x y A B) 106]) (fun J hm=>?_) fun J hm a w=>?_
      ·refine t1<|ssr<|oS hm fun hb c8 hm=>?_
       obtain⟨hc,hd,c9,d1,d2⟩:=(x0 (s0 S V) a5).nidx c8
       obtain rfl:=d1
       refine yv (t2 c9 bM z z) z<|yv (v1 z (k5 d2 r9 z)) z<|sg z<|snn<|q0<|?_
       rcases iS hm with⟨W,hm⟩|⟨W,hm⟩
       ·have d3:(t.1)=true:=W
        try rw [d3]
        refine mv z<|mv z<|mw z z<|oS hm fun he d4 hm=>f5 _ (cJ d4) z (A1 z) z en84.out z z z<|?_
        rintro _ d5 _ ⟨rfl,rfl⟩ d6
        cases hm
        exact pt z<|sg z<|u1<|f2 fun a w ha hs=>⟨d5,d6,cv ha,(am [0,0] hs z)⟩
       have d7:(t.1)=false:=w2 W
       try rw [d7]
       cases hm
       exact mv z<|mv z<|un z z<|un z z<|pf z<|sg z<|u1<|f2 fun a w ha hs=>⟨D,(l0 _),cv ha,(am [0,0] hs z)⟩
      rintro⟨K,d8,ha,hs⟩
      cases hm
      exact us ha hs<|q0<|yv (s3 (j:=1) z z z (by have q_0:=c7;have q_1:=a5.bnd.2;omega)) z<|mv z<|snn fun a w ha hs=>⟨(J,t.2+1),aL b0,K,(s0 V d8),cv ha,(am [0,0] hs z)⟩
     cases hm
     obtain rfl:=aR b0
     exact u4<|p0<|p0<|u3 fun a w ha hs=>⟨D,V,cv ha,(am [0,0] hs z)⟩
    rintro⟨G,b1,ha,hs⟩
    refine us ha hs<|ssr<|fa aU z<|ld 1 fd z<|yv (u0 fb z) z<|mv z<|snn<|t1<|lM hm (fun v h s=>∃E,m3 G E∧h [(1,pP b 0),(3,.bool v.1),(23,sl c a0.Datas d),(24,lV a0.Datas),(25,nV l.2),(55,sl A m.Cons B),(56,lV m.Cons),(57,nV v.2)]∧s E [bK b (bd a0 c d e f i k) 93]) ?_ ?_
    ·intro a w ha hs
     exact⟨G,(l0 _),cv ha,(am [0] hs z)⟩
    rintro v hf hg hm b2 a w ⟨E,X,ha,hs⟩
    refine us ha hs<|ssr<|yv (r2 z z) z<|snn<|x1<|cP hm z (fun d9 hm=>?_) fun hh hm=>?_
    ·refine skn<|oC hm (fun L h s=>∃M,m3 E M∧h [(1,pP b 0),(3,.bool L),(23,sl c a0.Datas d),(24,lV a0.Datas),(25,nV l.2),(55,sl A m.Cons B),(56,lV m.Cons),(57,nV v.2)]∧s M [bK b (bd a0 c d e f i k) 93]) (fun L hm=>?_) fun L hm a w=>?_
     ·refine t1<|ssr<|oS hm fun hi e0 hm=>?_
      obtain⟨hj,hk,e1,e2,e3⟩:=(x0 (s0 S (s0 b1 X)) a6).nidx e0
      obtain⟨hl,hn,rfl,ho⟩:=DCon.opn e2
      refine yv (t2 e1 fy z z) z<|yv (v1 z (k3 e3 di)) z<|aa fv z fun hp=>sN di z z<|snn<|q0<|?_
      rcases iS hm with⟨Y,hm⟩|⟨Y,hm⟩
      ·have e4:(v.1)=true:=Y
       try rw [e4]
       refine mv z<|mv z<|fw cO z z<|lw 0 r9 z z<|oS hm fun b3 e5 hm=>f5 _ (cK e5) z (A1 z) z en83.out z z z<|?_
       rintro _ b5 _ ⟨rfl,rfl⟩ b6
       rcases iS hm with⟨Z,hm⟩|⟨Z,hm⟩
       ·have e6:(b3)=true:=Z
        try rw [e6]
        cases hm
        exact pt z<|mv z<|fw bY z z<|lw 0 cT z z<|yw (u0 ch z) z z<|yw (u7 z z) z z<|pt z<|sg z<|u1<|f2 fun a w ha hs=>⟨b5,b6,cv ha,(am [1] hs z)⟩
       have e7:(b3)=false:=w2 Z
       try rw [e7]
       cases hm
       exact pt z<|mv z<|un z z<|un z z<|un z z<|un z z<|pf z<|sg z<|u1<|f2 fun a w ha hs=>⟨b5,b6,cv ha,(am [1] hs z)⟩
      have e8:(v.1)=false:=w2 Y
      try rw [e8]
      cases hm
      exact mv z<|mv z<|un z z<|un z z<|un z z<|pf z<|mv z<|un z z<|un z z<|un z z<|un z z<|pf z<|sg z<|u1<|f2 fun a w ha hs=>⟨E,(l0 _),cv ha,(am [1] hs z)⟩
     rintro⟨M,e9,ha,hs⟩
     cases hm
     exact us ha hs<|q0<|yv (s3 (j:=1) z z z (by have q_0:=d9;have q_1:=a6.bnd.2;omega)) z<|mv z<|snn fun a w ha hs=>⟨(L,v.2+1),aL b2,M,(s0 X e9),cv ha,(am [0] hs z)⟩
    cases hm
    obtain rfl:=aR b2
    exact u4<|p0<|p0<|u3<|f2 fun a w ha hs=>⟨E,(s0 S (s0 b1 X)),cv ha,(am [0] hs z)⟩
   rintro⟨I,fo,ha,hs⟩
   cases hm
   exact us ha hs<|q0<|yv (s3 (j:=1) z z z (by have q_0:=b9;have q_1:=a3.bnd.2;omega)) z<|mv z<|snn fun a w ha hs=>⟨(H,l.2+1),aL a4,I,(s0 N fo),cv ha,(am [0] hs z)⟩
  cases hm
  obtain rfl:=aR a4
  exact u4<|p0<|p0<|u3 fun a w ha hs=>⟨q,N,cv ha,(am [0] hs z)⟩
 rintro⟨p,hq,ha,hs⟩
 refine us ha hs<|oC hm (fun b7 h s=>h [(1,pP b 0),(3,.bool n)]∧s p [bK b (bd a0 c d e f i k) 93]) (fun b7 hm=>?_) fun b7 hm a w=>?_
 ·refine ssr<|fa ay z<|ld 0 fG z<|yv (u0 fD z) z<|mv z<|snn<|t1<|lM hm (fun f0 h s=>h [(1,pP b 0),(3,.bool n),(76,sl e a0.Classes f),(77,lV a0.Classes),(78,iV 0)]∧s p [bK b (bd a0 c d e f i k) 93]) ?_ ?_
  ·intro a w ha hs
   exact⟨cv ha,(am [0] hs z)⟩
  rintro f0 hr ht hm gP a w ⟨ha,hs⟩
  refine us ha hs<|ssr<|yv (r2 z z) z<|snn<|x1<|cP hm z (fun hu hm=>?_) fun hv hm=>?_
  ·exact skn<|x1<|t1<|ssr<|nomatch (show(none:Option _)=some _ from hm)
  cases hm
  obtain rfl:=aR gP
  exact u4<|p0<|p0<|u3 fun a w ha hs=>⟨cv ha,(am [0] hs z)⟩
 rintro⟨ha,hs⟩
 refine us ha hs<|oC hm (fun b8 h s=>h [(3,.bool n)]∧s p []) (fun b8 hm=>?_) fun b8 hm a w=>?_
 ·refine ssr<|fa bU z<|ld 0 gd z<|yv (u0 gc z) z<|mv z<|snn<|t1<|lM hm (fun gQ h s=>h [(1,pP b 0),(3,.bool n),(123,sl i a0.Insts k),(124,lV a0.Insts),(125,iV 0)]∧s p [bK b (bd a0 c d e f i k) 93]) ?_ ?_
  ·intro a w ha hs
   exact⟨cv ha,(am [0] hs z)⟩
  rintro gQ hw hx hm gR a w ⟨ha,hs⟩
  refine us ha hs<|ssr<|yv (r2 z z) z<|snn<|x1<|cP hm z (fun hy hm=>?_) fun hz hm=>?_
  ·exact skn<|x1<|t1<|ssr<|nomatch (show(none:Option _)=some _ from hm)
  cases hm
  obtain rfl:=aR gR
  exact u4<|p0<|p0<|u3 fun a w ha hs=>⟨cv ha,(am [] hs z)⟩
 rintro⟨ha,hs⟩
 refine us ha hs<|x1<|ssr<|mv z<|yv (p5 z) z<|snn<|?_
 refine m5 z ?_ ?_
 ·intro a1
  replace a1:¬(n=true):=nb_t a1
  replace hm:=iF hm a1
  cases hm
  exact ssr<|sg z<|snn<|u2<|v0<|k0 z z ⟨z,z⟩ (aF [] z)
 intro a2
 replace a2:n=true:=nb_f a2
 replace hm:=iT hm a2
 cases hm
 exact skn<|ssr<|sg z<|snn<|u2<|k0 z z ⟨z,z⟩ (aF [] z)
abbrev aK (g:Nat):Prop:=∀{F}{a0:DType}{a1 a2 a b c d}(e:Fsl 40 KDType F c d a0.Args) {r}(_:m_types_IsLarge_f1 g a0 a1 a2=some r),
    CallSp Tryz.prog 128 #[.agg #[sV a0.Name,sl c a0.Args d],iV a1,pP a 0,pP b 0] F [bK a #[iV a2] 3,bK b #[.func (.func 128) #[] #[pP a 0,pP b 0]] 211] (fun u F' H'=>u=(.bool r.1)∧H'=[bK a #[iV r.2] 3,bK b #[.func (.func 128) #[] #[pP a 0,pP b 0]] 211])
theorem du (x:aK g):aK (g+1):=by
 intro F a0 a1 a2 c b q t u r hm
 rw [m_types_IsLarge_f1] at hm
 refine f1 Tryz.func128 z z fun L M N=>ssr<|ba z fun v=>sg z<|snn<|ssr<|ld 1 r6 z<|yv (Yields.addw z z) z<|pk1<|s1 r6 z<|snn<|x1<|oC hm (fun f h s=>h [(1,iV a1),(3,pP b 0),(4,pP v 0),(16,.bool f)]∧s F [bK c #[iV (Mir.w64 (a2+1))] 3,bK b #[.func (.func 128) #[] #[pP c 0,pP b 0]] 211,bK v #[sV a0.Name,sl q a0.Args t] 146]) (fun f hm=>?_) fun f hm a w=>?_
 ·refine q0<|ld 0 r6 z<|?_
  rcases iS hm with⟨i,hm⟩|⟨i,hm⟩
  ·cases hm
   exact yv (t3 i (t5 z z)) z<|mv z<|un z z<|un z z<|pt z<|u1<|eN [0,1,0] z
  cases hm
  exact yv (s2 i (t5 z z)) z<|mv z<|mw z z<|yw (r2 z z) z z<|pf z<|u1<|eN [0,1,0] z
 rintro⟨ha,hs⟩
 refine us ha hs<|cB hm z (fun P hm=>?_) fun Q hm=>?_
 ·cases hm
  exact ssr<|sg z<|snn<|u2<|v0<|k0 z z ⟨z,z⟩ (aF [0,0] z)
 refine skn<|oD hm (fun k h s=>∃l:Int,k=.inl l∧∃m,m3 F m∧h []∧s m [bK c #[iV l] 3,bK b #[.func (.func 128) #[] #[pP c 0,pP b 0]] 211]) (fun k hm n=>?_) fun k n a w=>?_
 ·refine ssr<|fa ao z<|ld 2 cT z<|yv (u0 ch z) z<|mv z<|snn<|t1<|lM hm (fun d h s=>∃e,m3 F e∧h [(1,iV a1),(3,pP b 0),(18,sl q a0.Args t),(19,lV a0.Args),(20,nV d.2)]∧s e [bK c #[iV d.1] 3,bK b #[.func (.func 128) #[] #[pP c 0,pP b 0]] 211]) ?_ ?_
  ·intro a w ha hs
   exact⟨F,(l0 _),cv ha,(am [0,0] hs z)⟩
  rintro d R S hm o a w ⟨e,p,ha,hs⟩
  refine us ha hs<|ssr<|yv (r2 z z) z<|snn<|x1<|cP hm z (fun y hm=>?_) fun U hm=>?_
  ·refine skn<|x1<|t1<|ssr<|oS hm fun A B hm=>?_
   obtain⟨V,W,C,D,E⟩:=(x0 p u).nidx B
   obtain⟨X,Y,rfl,G⟩:=DType.opn D
   refine yv (t2 C dz z z) z<|yv (v1 z (k3 E p7)) z<|aa cm z fun Z=>sN p7 z z<|snn<|ssr<|ld 2 gi z<|lk 0 p7 z z<|mv z<|yv (Yields.subw z z) z<|pk2<|pk2<|oS hm fun H I hm=>cl (x (a0:=A) G I) z z<|?_
   rintro _ J _ ⟨rfl,rfl⟩ K
   refine snn<|cB hm z (fun a3 hm=>?_) fun a4 hm=>?_
   ·cases hm
    obtain rfl:=aR o
    obtain rfl:=aR n
    exact ssr<|sg z<|snn<|u2<|m2<|v0<|v0<|m2<|v0<|k0 z z ⟨z,z⟩ (aF [0,0] z)
   cases hm
   exact k4<|f2<|s4<|q0<|yv (s3 (j:=1) z z z (by have q_0:=y;have q_1:=u.bnd.2;omega)) z<|mv z<|snn fun a w ha hs=>⟨(H.2,d.2+1),aL o,J,(s0 p K),cv ha,(am [0,0] hs z)⟩
  cases hm
  obtain rfl:=aR o
  exact u4<|p0<|p0<|u3 fun a w ha hs=>⟨d.1,z,e,p,cv ha,(am [0,0] hs z)⟩
 rintro⟨l,rfl,m,a5,ha,hs⟩
 replace hm:=aL n
 cases hm
 exact us ha hs<|ssr<|sg z<|snn<|u2<|k0 z z ⟨z,z⟩ (aF [0,0] z)
theorem bI:∀{g},aK g
 |0=>by intros;rename_i hm;exact nN hm
 |_+1=>du bI
theorem dU {a0:DType}(a:Fsl 40 KDType F b c a0.Args) (hm:m_types_IsLarge g a0=some r):
    CallSp Tryz.prog 108 #[.agg #[sV a0.Name,sl b a0.Args c]] F [] (fun u F' H'=>u=(.bool r)∧H'=[]):=by
 unfold m_types_IsLarge at hm
 refine f1 Tryz.func108 z z fun e f h=>ssr<|ba z fun i=>sg z<|snn<|ssr<|al eL z fun j=>s1 r6 z<|snn<|ssr<|al gx z fun k=>snn<|ssr<|yv (aH (fun _ _=>ev0) (fun _ ha=>ev2 ha z z)) z<|s1 gi z<|snn<|ssr<|ld 0 gi z<|lk 2 p7 z z<|pk1<|oS hm fun l d hm=>cl (bI (a0:=a0) a d) z z<|?_
 rintro _ m _ ⟨rfl,rfl⟩ n
 cases hm
 exact sg z<|snn<|u2<|k0 z z ⟨z,z⟩ (aF [] z)
theorem bm (hm:m_types_isSmall g a0=some r):
    CallSp Tryz.prog 120 #[.int .u8 a0] F [] (fun u F' H'=>u=(.bool r)∧H'=[]):=by
 unfold m_types_isSmall at hm
 refine f1 Tryz.func120 z z fun d e f=>ssr<|sg z<|snn<|oC hm (fun b h s=>h [(2,.bool b)]∧s F []) (fun b hm=>?_) fun b hm a w=>?_
 ·refine q0<|mv z<|?_
  rcases iS hm with⟨c,hm⟩|⟨c,hm⟩
  ·cases hm
   exact yv (t3 c (u5 z z)) z<|mv z<|mw z z<|yw (u7 z z) z z<|pt z<|sg z<|u1<|eN [] z
  cases hm
  exact yv (s2 c (u5 z z)) z<|mv z<|un z z<|un z z<|pf z<|sg z<|u1<|eN [] z
 rintro⟨ha,hs⟩
 cases hm
 exact us ha hs<|u2<|k0 z z ⟨z,z⟩ (aF [] z)
theorem er {a0:DType}(m:Fsl 40 KDType F e f a0.Args) (hm:m_types_IsVar g a0=some r):
    CallSp Tryz.prog 129 #[.agg #[sV a0.Name,sl e a0.Args f]] F [] (fun u F' H'=>u=(.bool r)∧H'=[]):=by
 unfold m_types_IsVar at hm
 refine f1 Tryz.func129 z z fun n o p=>ssr<|ba z fun q=>sg z<|snn<|oC hm (fun b h s=>∃c,m3 F c∧h [(2,.bool b)]∧s c []) (fun b hm=>?_) fun b hm a w=>?_
 ·refine q0<|fa ae z<|ld 0 r9 z<|yv (ap fx z) z<|?_
  rcases iS hm with⟨d,hm⟩|⟨d,hm⟩
  ·refine yv (t3 d (t5 z z)) z<|mv z<|fw ae z z<|lw 0 r9 z z<|oS hm fun t i hm=>yw (m9 (nlit i) fx z z) z z<|oS hm fun v j hm=>f5 _ (bm j) z (A1 z) z en120.out z z z<|?_
   rintro _ k _ ⟨rfl,rfl⟩ l
   cases hm
   exact pt z<|sg z<|u1 fun a w ha hs=>⟨k,l,cv ha,(am [] hs z)⟩
  cases hm
  exact yv (s2 d (t5 z z)) z<|mv z<|un z z<|un z z<|un z z<|un z z<|pf z<|sg z<|u1 fun a w ha hs=>⟨F,(l0 _),cv ha,(am [] hs z)⟩
 rintro⟨c,x,ha,hs⟩
 cases hm
 exact us ha hs<|u2<|k0 z z ⟨z,z⟩ (aF [] z)
theorem dM (hm:m_types_IsLetter g a0=some r):
    CallSp Tryz.prog 122 #[.int .u8 a0] F [] (fun u F' H'=>u=(.bool r)∧H'=[]):=by
 unfold m_types_IsLetter at hm
 refine f1 Tryz.func122 z z fun n o p=>ssr<|sg z<|snn<|oC hm (fun b h s=>∃c,m3 F c∧h [(2,.bool b)]∧s c []) (fun b hm=>?_) fun b hm a w=>?_
 ·refine q0<|mv z<|oS hm fun j k hm=>cl (bm k) z z<|?_
  rintro _ d _ ⟨rfl,rfl⟩ e
  rcases iS hm with⟨f,hm⟩|⟨f,hm⟩
  ·have l:(j)=true:=f
   try rw [l]
   cases hm
   exact mv z<|un z z<|un z z<|un z z<|k2 p1 z z<|k2 p1 z z<|un z z<|pt z<|sg z<|u1 fun a w ha hs=>⟨d,e,cv ha,(am [] hs z)⟩
  have m:(j)=false:=w2 f
  try rw [m]
  refine mv z<|mw z z<|?_
  rcases iS hm with⟨i,hm⟩|⟨i,hm⟩
  ·cases hm
   exact yw (t3 i (u5 z z)) z z<|mw z z<|mw z z<|yw (u7 z z) z z<|yw (f3 z z) z z<|pf z<|sg z<|u1 fun a w ha hs=>⟨d,e,cv ha,(am [] hs z)⟩
  cases hm
  exact yw (s2 i (u5 z z)) z z<|mw z z<|un z z<|un z z<|yw (n3 z z) z z<|pf z<|sg z<|u1 fun a w ha hs=>⟨d,e,cv ha,(am [] hs z)⟩
 rintro⟨c,q,ha,hs⟩
 cases hm
 exact us ha hs<|u2<|k0 z z ⟨z,z⟩ (aF [] z)
theorem dV (hm:m_types_IsDigit g a0=some r):
    CallSp Tryz.prog 123 #[.int .u8 a0] F [] (fun u F' H'=>u=(.bool r)∧H'=[]):=by
 unfold m_types_IsDigit at hm
 refine f1 Tryz.func123 z z fun d e f=>ssr<|sg z<|snn<|oC hm (fun b h s=>h [(2,.bool b)]∧s F []) (fun b hm=>?_) fun b hm a w=>?_
 ·refine q0<|mv z<|?_
  rcases iS hm with⟨c,hm⟩|⟨c,hm⟩
  ·cases hm
   exact yv (t3 c (u5 z z)) z<|mv z<|mw z z<|yw (u7 z z) z z<|pt z<|sg z<|u1<|eN [] z
  cases hm
  exact yv (s2 c (u5 z z)) z<|mv z<|un z z<|un z z<|pf z<|sg z<|u1<|eN [] z
 rintro⟨ha,hs⟩
 cases hm
 exact us ha hs<|u2<|k0 z z ⟨z,z⟩ (aF [] z)
theorem cF (hm:m_types_IsTail g a0=some r):
    CallSp Tryz.prog 101 #[.int .u8 a0] F [] (fun u F' H'=>u=(.bool r)∧H'=[]):=by
 unfold m_types_IsTail at hm
 refine f1 Tryz.func101 z z fun x y A=>ssr<|sg z<|snn<|oC hm (fun b h s=>∃c,m3 F c∧h [(2,.bool b)]∧s c []) (fun b hm=>?_) fun b hm a w=>?_
 ·refine q0<|mv z<|oS hm fun i m hm=>cl (dM m) z z<|?_
  rintro _ n _ ⟨rfl,rfl⟩ d
  rcases iS hm with⟨e,hm⟩|⟨e,hm⟩
  ·have o:(i)=true:=e
   try rw [o]
   cases hm
   exact mv z<|un z z<|un z z<|pt z<|mv z<|un z z<|un z z<|pt z<|sg z<|u1 fun a w ha hs=>⟨n,d,cv ha,(am [] hs z)⟩
  have p:(i)=false:=w2 e
  try rw [p]
  refine mv z<|mw z z<|oS hm fun j q hm=>f5 _ (dV q) z (A1 z) z en123.out z z z<|?_
  rintro _ k _ ⟨rfl,rfl⟩ l
  rcases iS hm with⟨f,hm⟩|⟨f,hm⟩
  ·have t:(j)=true:=f
   try rw [t]
   cases hm
   exact pf z<|mv z<|un z z<|un z z<|pt z<|sg z<|u1 fun a w ha hs=>⟨k,(s0 d l),cv ha,(am [] hs z)⟩
  have v:(j)=false:=w2 f
  try rw [v]
  cases hm
  exact pf z<|mv z<|mw z z<|yw (w1 z z) z z<|pf z<|sg z<|u1 fun a w ha hs=>⟨k,(s0 d l),cv ha,(am [] hs z)⟩
 rintro⟨c,B,ha,hs⟩
 cases hm
 exact us ha hs<|u2<|k0 z z ⟨z,z⟩ (aF [] z)
theorem cU (hm:m_types_isRun g a0=some r):
    CallSp Tryz.prog 103 #[sV a0] F [] (fun u F' H'=>u=(.bool r)∧H'=[]):=by
 unfold m_types_isRun at hm
 refine f1 Tryz.func103 z z fun C D E=>ssr<|sg z<|snn<|x1<|oC hm (fun c h s=>h [(0,sV a0),(11,.bool c)]∧s F []) (fun c hm=>?_) fun c hm a w=>?_
 ·refine q0<|mv z<|yv (ap fx z) z<|?_
  rcases iS hm with⟨d,hm⟩|⟨d,hm⟩
  ·cases hm
   exact yv (t3 d (r2 z z)) z<|mv z<|un z z<|un z z<|un z z<|pt z<|u1<|eN [] z
  cases hm
  exact yv (s2 d (r2 z z)) z<|mv z<|mw z z<|yw (ap fx z) z z<|yw (t5 z z) z z<|pf z<|u1<|eN [] z
 rintro⟨ha,hs⟩
 refine us ha hs<|cB hm z (fun G hm=>?_) fun H hm=>?_
 ·cases hm
  exact ssr<|sg z<|snn<|u2<|v0<|k0 z z ⟨z,z⟩ (aF [] z)
 refine skn<|oD hm (fun e h s=>∃o:Unit,e=.inl o∧∃f,m3 F f∧h []∧s f []) (fun e hm i=>?_) fun e i a w=>?_
 ·refine ssr<|sg z<|snn<|t1<|lM hm (fun k h s=>∃b,m3 F b∧h [(0,sV a0),(3,nV k)]∧s b []) ?_ ?_
  ·intro a w ha hs
   exact⟨F,(l0 _),cv ha,(am [] hs z)⟩
  rintro k I J hm l a w ⟨b,p,ha,hs⟩
  refine us ha hs<|x1<|ssr<|mv z<|mv z<|yv (ap fx z) z<|yv (r2 z z) z<|snn<|cP hm z (fun t hm=>?_) fun K hm=>?_
  ·refine skn<|x1<|t1<|ssr<|mv z<|mv z<|oS hm fun L v hm=>yv (m9 (nlit v) fx z z) z<|oS hm fun q x hm=>cl (cF x) z z<|?_
   rintro _ y _ ⟨rfl,rfl⟩ A
   refine yv (p5 z) z<|snn<|?_
   refine m5 z ?_ ?_
   ·intro m
    replace m:¬(q=true):=nb_t m
    replace hm:=iF hm m
    cases hm
    obtain rfl:=aR l
    obtain rfl:=aR i
    exact ssr<|sg z<|snn<|u2<|m2<|v0<|v0<|m2<|v0<|k0 z z ⟨z,z⟩ (aF [] z)
   intro n
   replace n:q=true:=nb_f n
   replace hm:=iT hm n
   refine k4<|f2<|s4<|q0<|mv z<|oS hm fun M B hm=>?_
   cases hm
   exact yv (s3 (j:=1) z z z (by have q_0:=t;have q_1:=(Mir.small_le B);omega)) z<|sg z<|snn fun a w ha hs=>⟨k+1,aL l,y,(s0 p A),cv ha,(am [] hs z)⟩
  cases hm
  obtain rfl:=aR l
  exact u4<|p0<|p0<|u3 fun a w ha hs=>⟨(),z,b,p,cv ha,(am [] hs z)⟩
 rintro⟨o,rfl,f,N,ha,hs⟩
 replace hm:=aL i
 cases hm
 exact us ha hs<|ssr<|sg z<|snn<|u2<|k0 z z ⟨z,z⟩ (aF [] z)
theorem ep (hm:m_types_words g=some r):
    CallSp Tryz.prog 121 #[] F [] (fun u F' H'=>∃a d0,u=(sl a r d0)∧Fsl 16 Kind.str F' a d0 r∧H'=[]):=by
 unfold m_types_words at hm
 cases hm
 exact f1 Tryz.func121 z z fun d f h=>ssr<|sg z<|snn<|ssr<|v3 (e:=9) (cells:=#[sV [100,97,116,97],sV [99,108,97,115,115],sV [105,110,115,116,97,110,99,101],sV [111,112],sV [101,110,100],sV [119,104,101,114,101],sV [108,101,116],sV [105,110],sV [102,114,101,101],sV [99,97,115,101],sV [114,105,103,105,100],sV [111,102],sV [102,97,105,108]]) (A2 z) (fun _=>by kernel_rfl) z p1 fun b=>wr ([[100,97,116,97],[99,108,97,115,115],[105,110,115,116,97,110,99,101],[111,112],[101,110,100],[119,104,101,114,101],[108,101,116],[105,110],[102,114,101,101],[99,97,115,101],[114,105,103,105,100],[111,102],[102,97,105,108]]:List (List UInt8)) 1 z z<|sg z<|snn<|u2<|fz z (n5 (D:=Kind.str) z (n5 z (n5 z (n5 z (n5 z (n5 z (n5 z (n5 z (n5 z (n5 z (n5 z (n5 z (n5 z z))))))))))))) (bl 16 z) fun i j c=>k0 z z ⟨(bA b),13,z,c,z⟩ (aF [] z)
theorem co (hm:m_types_IsSmall g a0=some r):
    CallSp Tryz.prog 100 #[sV a0] F [] (fun u F' H'=>u=(.bool r)∧H'=[]):=by
 unfold m_types_IsSmall at hm
 refine f1 Tryz.func100 z z fun Q R S=>ssr<|sg z<|snn<|x1<|oC hm (fun c h s=>∃b,m3 F b∧h [(0,sV a0),(13,.bool c)]∧s b []) (fun c hm=>?_) fun c hm a w=>?_
 ·refine q0<|mv z<|oS hm fun m v hm=>cl (cU v) z z<|?_
  rintro _ x _ ⟨rfl,rfl⟩ n
  rcases iS hm with⟨d,hm⟩|⟨d,hm⟩
  ·have y:(m)=true:=d
   try rw [y]
   refine yv (v7 z) z<|mv z<|mw z z<|oS hm fun U A hm=>yw (m9 (nlit A) fx z z) z z<|oS hm fun V B hm=>f5 _ (bm B) z (A1 z) z en120.out z z z<|?_
   rintro _ C _ ⟨rfl,rfl⟩ D
   cases hm
   exact yw (p5 z) z z<|pf z<|u1 fun a w ha hs=>⟨C,(s0 n D),cv ha,(am [] hs z)⟩
  have E:(m)=false:=w2 d
  try rw [E]
  cases hm
  exact yv (an z) z<|mv z<|un z z<|un z z<|un z z<|un z z<|pt z<|u1 fun a w ha hs=>⟨x,n,cv ha,(am [] hs z)⟩
 rintro⟨b,W,ha,hs⟩
 refine us ha hs<|cB hm z (fun X hm=>?_) fun Y hm=>?_
 ·cases hm
  exact ssr<|sg z<|snn<|u2<|v0<|k0 z z ⟨z,z⟩ (aF [] z)
 refine skn<|oD hm (fun e h s=>∃o:Unit,e=.inl o∧∃f,m3 b f∧h []∧s f []) (fun e hm i=>?_) fun e i a w=>?_
 ·refine ssr<|oS hm fun p G hm=>cl (ep G) z z<|?_
  rintro _ q _ ⟨H,I,rfl,t,rfl⟩ J
  refine yv (u0 bj z) z<|mv z<|snn<|t1<|lM hm (fun k h s=>h [(0,sV a0),(14,sl H p I),(15,lV p),(16,nV k)]∧s q []) ?_ ?_
  ·intro a w ha hs
   exact⟨cv ha,(am [] hs z)⟩
  rintro k Z a1 hm l a w ⟨ha,hs⟩
  refine us ha hs<|ssr<|yv (r2 z z) z<|snn<|x1<|cP hm z (fun K hm=>?_) fun a2 hm=>?_
  ·refine skn<|x1<|t1<|ssr<|oS hm fun a3 L hm=>?_
   obtain⟨a4,a5,M,N,P⟩:=t.nidx L
   obtain rfl:=N
   refine yv (t2 M bM z z) z<|yv (v1 z (k5 P r9 z)) z<|sg z<|snn<|ssr<|mv z<|mv z<|yv (v6 z z) z<|snn<|cP hm z (fun a6 hm=>?_) fun a7 hm=>?_
   ·cases hm
    obtain rfl:=aR l
    obtain rfl:=aR i
    exact ssr<|sg z<|snn<|u2<|m2<|v0<|v0<|m2<|v0<|k0 z z ⟨z,z⟩ (aF [] z)
   cases hm
   exact k4<|f2<|s4<|q0<|yv (s3 (j:=1) z z z (by have q_0:=K;have q_1:=t.bnd.2;omega)) z<|mv z<|snn fun a w ha hs=>⟨k+1,aL l,cv ha,(am [] hs z)⟩
  cases hm
  obtain rfl:=aR l
  exact u4<|p0<|p0<|u3 fun a w ha hs=>⟨(),z,q,J,cv ha,(am [] hs z)⟩
 rintro⟨o,rfl,f,a8,ha,hs⟩
 replace hm:=aL i
 cases hm
 exact us ha hs<|ssr<|sg z<|snn<|u2<|k0 z z ⟨z,z⟩ (aF [] z)
theorem ar (hm:m_types_IsGreat g a0=some r):
    CallSp Tryz.prog 74 #[sV a0] F [] (fun u F' H'=>u=(.bool r)∧H'=[]):=by
 unfold m_types_IsGreat at hm
 refine f1 Tryz.func74 z z fun p q t=>ssr<|sg z<|snn<|oC hm (fun b h s=>∃c,m3 F c∧h [(2,.bool b)]∧s c []) (fun b hm=>?_) fun b hm a w=>?_
 ·refine q0<|mv z<|oS hm fun j k hm=>cl (cU k) z z<|?_
  rintro _ d _ ⟨rfl,rfl⟩ e
  rcases iS hm with⟨f,hm⟩|⟨f,hm⟩
  ·have l:(j)=true:=f
   try rw [l]
   refine mv z<|mw z z<|oS hm fun v m hm=>yw (m9 (nlit m) fx z z) z z<|?_
   rcases iS hm with⟨i,hm⟩|⟨i,hm⟩
   ·refine yw (t3 i (u5 z z)) z z<|pt z<|mv z<|mw z z<|oS hm fun x n hm=>?_
    cases hm
    exact yw (m9 (nlit n) fx z z) z z<|yw (u7 z z) z z<|pt z<|sg z<|u1 fun a w ha hs=>⟨d,e,cv ha,(am [] hs z)⟩
   cases hm
   exact yw (s2 i (u5 z z)) z z<|pt z<|mv z<|un z z<|un z z<|un z z<|pf z<|sg z<|u1 fun a w ha hs=>⟨d,e,cv ha,(am [] hs z)⟩
  have o:(j)=false:=w2 f
  try rw [o]
  cases hm
  exact mv z<|un z z<|un z z<|un z z<|pf z<|mv z<|un z z<|un z z<|un z z<|pf z<|sg z<|u1 fun a w ha hs=>⟨d,e,cv ha,(am [] hs z)⟩
 rintro⟨c,y,ha,hs⟩
 cases hm
 exact us ha hs<|u2<|k0 z z ⟨z,z⟩ (aF [] z)
theorem ee {a0:DType}(q:Fsl 40 KDType F t v a0.Args) (hm:m_types_isNode g a0=some r):
    CallSp Tryz.prog 111 #[.agg #[sV a0.Name,sl t a0.Args v]] F [] (fun u F' H'=>u=(.bool r)∧H'=[]):=by
 unfold m_types_isNode at hm
 refine f1 Tryz.func111 z z fun G H I=>ssr<|ba z fun J=>sg z<|snn<|x1<|t1<|ssr<|fa ae z<|ld 0 r9 z<|yv (v6 z z) z<|sg z<|snn<|cP hm z (fun K hm=>?_) fun L hm=>?_
 ·cases hm
  exact ssr<|fa ao z<|ld 0 cT z<|yv (u0 ch z) z<|yv (w1 z z) z<|sg z<|snn<|u2<|m2<|v0<|k0 z z ⟨z,z⟩ (aF [] z)
 refine ssr<|lk 0 p7 z z<|oS hm fun M x hm=>cl (er (a0:=a0) q x) z z<|?_
 rintro _ j _ ⟨rfl,rfl⟩ N
 refine sg z<|snn<|cB hm z (fun P hm=>?_) fun Q hm=>?_
 ·refine oC hm (fun b h s=>∃c,m3 j c∧h [(2,.bool b)]∧s c []) (fun b hm=>?_) fun b hm a w=>?_
  ·refine q0<|fa ae z<|ld 0 r9 z<|oS hm fun k y hm=>cl (co y) z z<|?_
   rintro _ l _ ⟨rfl,rfl⟩ m
   rcases iS hm with⟨d,hm⟩|⟨d,hm⟩
   ·have A:(k)=true:=d
    try rw [A]
    cases hm
    exact mv z<|fw ao z z<|lw 0 cT z z<|yw (u0 ch z) z z<|yw (w1 z z) z z<|pt z<|sg z<|u1 fun a w ha hs=>⟨l,m,cv ha,(am [] hs z)⟩
   have B:(k)=false:=w2 d
   try rw [B]
   cases hm
   exact mv z<|un z z<|un z z<|un z z<|un z z<|pf z<|sg z<|u1 fun a w ha hs=>⟨l,m,cv ha,(am [] hs z)⟩
  rintro⟨c,R,ha,hs⟩
  cases hm
  exact us ha hs<|u2<|m2<|v0<|k0 z z ⟨z,z⟩ (aF [] z)
 refine k4<|f2<|s4<|oC hm (fun e h s=>∃f,m3 j f∧h [(2,.bool e)]∧s f []) (fun e hm=>?_) fun e hm a w=>?_
 ·refine q0<|fa ae z<|ld 0 r9 z<|oS hm fun n C hm=>cl (ar C) z z<|?_
  rintro _ o _ ⟨rfl,rfl⟩ p
  rcases iS hm with⟨i,hm⟩|⟨i,hm⟩
  ·have D:(n)=true:=i
   try rw [D]
   cases hm
   exact mv z<|fw ao z z<|lw 0 cT z z<|yw (u0 ch z) z z<|yw (u7 z z) z z<|pt z<|sg z<|u1 fun a w ha hs=>⟨o,p,cv ha,(am [] hs z)⟩
  have E:(n)=false:=w2 i
  try rw [E]
  cases hm
  exact mv z<|un z z<|un z z<|un z z<|un z z<|pf z<|sg z<|u1 fun a w ha hs=>⟨o,p,cv ha,(am [] hs z)⟩
 rintro⟨f,S,ha,hs⟩
 cases hm
 exact us ha hs<|u2<|k0 z z ⟨z,z⟩ (aF [] z)
theorem dc {a0:DType}(c:Fsl 40 KDType F d e a0.Args) (hm:m_types_Validate_f1 g a0 a1=some r):
    CallSp Tryz.prog 110 #[.agg #[sV a0.Name,sl d a0.Args e],pP b 0] F [bK b #[.bool a1] 4] (fun u F' H'=>u=(.tuple #[])∧H'=[bK b #[.bool r] 4]):=by
 unfold m_types_Validate_f1 at hm
 refine f1 Tryz.func110 z z fun j k l=>ssr<|ba z fun m=>snn<|q0<|?_
 rcases iS hm with⟨a,hm⟩|⟨a,hm⟩
 ·have f:(a1)=true:=a
  try rw [f]
  refine ld 1 dr z<|mv z<|yw (g5 0 p7 z) z z<|oS hm fun n h hm=>f5 _ (ee (a0:=a0) c h) z (A1 z) z en111.out z z z<|?_
  rintro _ o _ ⟨rfl,rfl⟩ p
  cases hm
  exact pt z<|pk1<|s1 dr z<|u1<|St.endR0 z ⟨z,z⟩ (aF [0] z)
 have i:(a1)=false:=w2 a
 try rw [i]
 cases hm
 exact ld 1 dr z<|mv z<|un z z<|un z z<|pf z<|pk1<|s1 dr z<|u1<|St.endR0 z ⟨z,z⟩ (aF [0] z)
abbrev cn (g:Nat):Prop:=∀{F}{a0:DType}{a1 a b c}(d:Fsl 40 KDType F b c a0.Args) {r}(_:m_types_each g a0 a1=some r),
    CallSp Tryz.prog 109 #[.agg #[sV a0.Name,sl b a0.Args c],.func (.func 110) #[] #[pP a 0]] F [bK a #[.bool a1] 4] (fun u F' H'=>u=(.tuple #[])∧H'=[bK a #[.bool r] 4])
theorem eM (l:cn g):cn (g+1):=by
 intro F a0 a1 e m n c r hm
 rw [m_types_each] at hm
 refine f1 Tryz.func109 z z fun G H I=>ssr<|ba z fun J=>snn<|ssr<|mv z<|lk 0 p7 z z<|pk1<|oS hm fun K o hm=>cl (dc (a0:=a0) c o) z z<|?_
 rintro _ f _ ⟨rfl,rfl⟩ p
 refine snn<|ssr<|fa ao z<|ld 1 cT z<|yv (u0 ch z) z<|mv z<|snn<|t1<|lM hm (fun b h s=>∃d,m3 f d∧h [(1,.func (.func 110) #[] #[pP e 0]),(10,sl m a0.Args n),(11,lV a0.Args),(12,nV b.2)]∧s d [bK e #[.bool b.1] 4]) ?_ ?_
 ·intro a w ha hs
  exact⟨f,(l0 _),cv ha,(am [0] hs z)⟩
 rintro b L M hm i a w ⟨d,k,ha,hs⟩
 refine us ha hs<|ssr<|yv (r2 z z) z<|snn<|x1<|cP hm z (fun q hm=>?_) fun N hm=>?_
 ·refine skn<|x1<|t1<|ssr<|oS hm fun t u hm=>?_
  obtain⟨P,Q,v,x,y⟩:=(x0 (s0 p k) c).nidx u
  obtain⟨R,S,rfl,A⟩:=DType.opn x
  refine yv (t2 v dz z z) z<|yv (v1 z (k3 y p7)) z<|aa cm z fun U=>sN p7 z z<|snn<|q0<|lk 0 p7 z z<|mv z<|pk1<|oS hm fun B C hm=>cl (l (a0:=t) A C) z z<|?_
  rintro _ D _ ⟨rfl,rfl⟩ E
  cases hm
  exact u1<|f2<|s4<|q0<|yv (s3 (j:=1) z z z (by have q_0:=q;have q_1:=c.bnd.2;omega)) z<|mv z<|snn fun a w ha hs=>⟨(B,b.2+1),aL i,D,(s0 k E),cv ha,(am [0] hs z)⟩
 cases hm
 obtain rfl:=aR i
 exact u4<|p0<|p0<|u3<|St.endR0 z ⟨z,z⟩ (aF [0] z)
theorem dj:∀{g},cn g
 |0=>by intros;rename_i hm;exact nN hm
 |_+1=>eM dj
theorem dL {a0:DType}(c:Fsl 40 KDType F e f a0.Args) (hm:m_types_Validate g a0=some r):
    CallSp Tryz.prog 87 #[.agg #[sV a0.Name,sl e a0.Args f]] F [] (fun u F' H'=>u=(iV r)∧H'=[]):=by
 unfold m_types_Validate at hm
 refine f1 Tryz.func87 z z fun k l m=>ssr<|ba z fun n=>sg z<|snn<|x1<|ssr<|lk 0 p7 z z<|oS hm fun o h hm=>cl (dU (a0:=a0) c h) z z<|?_
 rintro _ p _ ⟨rfl,rfl⟩ i
 refine snn<|cB hm z (fun q hm=>?_) fun s hm=>?_
 ·cases hm
  exact ssr<|sg z<|snn<|u2<|v0<|k0 z z ⟨z,z⟩ (aF [] z)
 refine skn<|ssr<|al gp z fun t=>s1 dr z<|snn<|ssr<|lk 1 p7 z z<|yv (aH (fun _ _=>ev0) (fun _ ha=>ev1 ha z)) z<|oS hm fun d j hm=>cl (dj (a0:=a0) (x0 i c) j) z z<|?_
 rintro _ v _ ⟨rfl,rfl⟩ w
 refine snn<|x1<|ssr<|ld 0 dr z<|yv (p5 z) z<|snn<|?_
 refine m5 z ?_ ?_
 ·intro a
  replace a:¬(d=true):=nb_t a
  replace hm:=iF hm a
  cases hm
  exact ssr<|sg z<|snn<|u2<|v0<|k0 z z ⟨z,z⟩ (aF [] z)
 intro b
 replace b:d=true:=nb_f b
 replace hm:=iT hm b
 cases hm
 exact skn<|ssr<|sg z<|snn<|u2<|k0 z z ⟨z,z⟩ (aF [] z)
theorem eT {a0:DDecls}(S:Fsl 64 KDData F b c a0.Datas) (c8:Fsl 64 KDClass F e f a0.Classes) (c9:Fsl 80 KDInst F i k a0.Insts) (hm:m_data_texts g a0=some r):
    CallSp Tryz.prog 61 #[.agg (bd a0 b c e f i k)] F [] (fun u F' H'=>u=(iV r)∧H'=[]):=by
 unfold m_data_texts at hm
 refine f1 Tryz.func61 z z fun d1 d2 d3=>ssr<|ba z fun d=>sg z<|snn<|oD hm (fun y h s=>∃U:Unit,y=.inl U∧∃p,m3 F p∧h [(1,pP d 0)]∧s p [bK d (bd a0 b c e f i k) 93]) (fun y hm A=>?_) fun y A a w=>?_
 ·refine ssr<|fa bq z<|ld 0 ft z<|yv (u0 fE z) z<|mv z<|snn<|t1<|lM hm (fun l h s=>∃m,m3 F m∧h [(1,pP d 0),(16,sl b a0.Datas c),(17,lV a0.Datas),(18,nV l)]∧s m [bK d (bd a0 b c e f i k) 93]) ?_ ?_
  ·intro a w ha hs
   exact⟨F,(l0 _),cv ha,(am [0] hs z)⟩
  rintro l d4 d5 hm B a w ⟨m,C,ha,hs⟩
  refine us ha hs<|ssr<|yv (r2 z z) z<|snn<|x1<|cP hm z (fun a3 hm=>?_) fun d6 hm=>?_
  ·refine skn<|oD hm (fun D h s=>∃V:Unit,D=.inl V∧∃t,m3 m t∧h [(1,pP d 0),(16,sl b a0.Datas c),(17,lV a0.Datas),(18,nV l)]∧s t [bK d (bd a0 b c e f i k) 93]) (fun D hm E=>?_) fun D E a w=>?_
   ·refine t1<|ssr<|oS hm fun o a4 hm=>?_
    obtain⟨d7,d8,a5,a6,a7⟩:=(x0 C S).nidx a4
    obtain⟨d9,e0,G,H,rfl,e1,W⟩:=DData.opn a6
    refine yv (t2 a5 dy z z) z<|yv (v1 z (k3 a7 aC)) z<|aa dS z fun e2=>sN aC z z<|snn<|ssr<|fa aU z<|ld 0 fd z<|yv (u0 fb z) z<|mv z<|snn<|t1<|lM hm (fun q h s=>∃n,m3 m n∧h [(1,pP d 0),(16,sl b a0.Datas c),(17,lV a0.Datas),(18,nV l),(23,sl G o.Cons H),(24,lV o.Cons),(25,nV q)]∧s n [bK d (bd a0 b c e f i k) 93]) ?_ ?_
    ·intro a w ha hs
     exact⟨m,(l0 _),cv ha,(am [1] hs z)⟩
    rintro q e3 e4 hm I a w ⟨n,J,ha,hs⟩
    refine us ha hs<|ssr<|yv (r2 z z) z<|snn<|x1<|cP hm z (fun a8 hm=>?_) fun e5 hm=>?_
    ·refine skn<|oD hm (fun K h s=>∃X:Unit,K=.inl X∧∃v,m3 n v∧h [(1,pP d 0),(16,sl b a0.Datas c),(17,lV a0.Datas),(18,nV l),(23,sl G o.Cons H),(24,lV o.Cons),(25,nV q)]∧s v [bK d (bd a0 b c e f i k) 93]) (fun K hm L=>?_) fun K L a w=>?_
     ·refine t1<|ssr<|oS hm fun Y a9 hm=>?_
      obtain⟨e6,e7,b0,b1,b2⟩:=(x0 J W).nidx a9
      obtain⟨b3,b5,rfl,Z⟩:=DCon.opn b1
      refine yv (t2 b0 fy z z) z<|yv (v1 z (k3 b2 di)) z<|aa fv z fun e8=>sN di z z<|snn<|ssr<|fa bY z<|ld 0 cT z<|yv (u0 ch z) z<|mv z<|snn<|t1<|lM hm (fun M h s=>∃x,m3 n x∧h [(1,pP d 0),(16,sl b a0.Datas c),(17,lV a0.Datas),(18,nV l),(23,sl G o.Cons H),(24,lV o.Cons),(25,nV q),(30,sl b3 Y.Args b5),(31,lV Y.Args),(32,nV M)]∧s x [bK d (bd a0 b c e f i k) 93]) ?_ ?_
      ·intro a w ha hs
       exact⟨n,(l0 _),cv ha,(am [1] hs z)⟩
      rintro M e9 fo hm N a w ⟨x,P,ha,hs⟩
      refine us ha hs<|ssr<|yv (r2 z z) z<|snn<|x1<|cP hm z (fun b6 hm=>?_) fun f0 hm=>?_
      ·refine skn<|x1<|t1<|ssr<|oS hm fun b7 b8 hm=>?_
       obtain⟨gP,gQ,b9,cs,cu⟩:=(x0 P Z).nidx b8
       obtain⟨gR,gS,rfl,c0⟩:=DType.opn cs
       refine yv (t2 b9 dz z z) z<|yv (v1 z (k3 cu p7)) z<|aa cm z fun gT=>sN p7 z z<|snn<|ssr<|lk 0 p7 z z<|oS hm fun a1 c1 hm=>cl (dL (a0:=b7) c0 c1) z z<|?_
       rintro _ c2 _ ⟨rfl,rfl⟩ c3
       refine sg z<|snn<|ssr<|mv z<|yv (p4 z z) z<|snn<|?_
       refine m5 z ?_ ?_
       ·intro Q
        replace Q:¬(a1=0):=nd_t Q
        replace hm:=iF hm Q
        cases hm
        obtain rfl:=aR N
        obtain rfl:=aR L
        obtain rfl:=aR I
        obtain rfl:=aR E
        obtain rfl:=aR B
        obtain rfl:=aR A
        exact ssr<|mv z<|sg z<|snn<|u2<|m2<|v0<|v0<|m2<|m2<|v0<|v0<|m2<|m2<|v0<|v0<|m2<|v0<|k0 z z ⟨z,z⟩ (aF [] z)
       intro R
       replace R:a1=0:=nd_f R
       replace hm:=iT hm R
       cases hm
       exact k4<|f2<|s4<|q0<|yv (s3 (j:=1) z z z (by have q_0:=b6;have q_1:=Z.bnd.2;omega)) z<|mv z<|snn fun a w ha hs=>⟨M+1,aL N,c2,(s0 P c3),cv ha,(am [1] hs z)⟩
      cases hm
      obtain rfl:=aR N
      exact u4<|p0<|p0<|u3<|f2 fun a w ha hs=>⟨(),z,x,P,cv ha,(am [0] hs z)⟩
     rintro⟨X,rfl,v,c4,ha,hs⟩
     replace hm:=aL L
     cases hm
     exact us ha hs<|q0<|yv (s3 (j:=1) z z z (by have q_0:=a8;have q_1:=W.bnd.2;omega)) z<|mv z<|snn fun a w ha hs=>⟨q+1,aL I,v,(s0 J c4),cv ha,(am [0] hs z)⟩
    cases hm
    obtain rfl:=aR I
    exact u4<|p0<|p0<|u3<|f2 fun a w ha hs=>⟨(),z,n,J,cv ha,(am [0] hs z)⟩
   rintro⟨V,rfl,t,c5,ha,hs⟩
   replace hm:=aL E
   cases hm
   exact us ha hs<|q0<|yv (s3 (j:=1) z z z (by have q_0:=a3;have q_1:=S.bnd.2;omega)) z<|mv z<|snn fun a w ha hs=>⟨l+1,aL B,t,(s0 C c5),cv ha,(am [0] hs z)⟩
  cases hm
  obtain rfl:=aR B
  exact u4<|p0<|p0<|u3 fun a w ha hs=>⟨(),z,m,C,cv ha,(am [0] hs z)⟩
 rintro⟨U,rfl,p,gU,ha,hs⟩
 replace hm:=aL A
 refine us ha hs<|oC hm (fun a2 h s=>h []∧s p []) (fun a2 hm=>?_) fun a2 hm a w=>?_
 ·refine ssr<|fa ay z<|ld 0 fG z<|yv (u0 fD z) z<|mv z<|snn<|t1<|lM hm (fun c6 h s=>h [(45,sl e a0.Classes f),(46,lV a0.Classes),(47,iV 0)]∧s p []) ?_ ?_
  ·intro a w ha hs
   exact⟨cv ha,(am [] hs z)⟩
  rintro c6 gV gW hm c7 a w ⟨ha,hs⟩
  refine us ha hs<|ssr<|yv (r2 z z) z<|snn<|x1<|cP hm z (fun gX hm=>?_) fun gY hm=>?_
  ·exact skn<|x1<|t1<|ssr<|nomatch (show(none:Option _)=some _ from hm)
  cases hm
  obtain rfl:=aR c7
  exact u4<|p0<|p0<|u3 fun a w ha hs=>⟨cv ha,(am [] hs z)⟩
 rintro⟨ha,hs⟩
 cases hm
 exact us ha hs<|ssr<|sg z<|snn<|u2<|k0 z z ⟨z,z⟩ (aF [] z)
theorem gl (hm:m_data_Base g=some r):
    CallSp Tryz.prog 45 #[] F [] (fun u F' H'=>∃n d0,u=(sl n r d0)∧Fsl 64 KDData F' n d0 r∧H'=[]):=by
 unfold m_data_Base at hm
 cases hm
 exact f1 Tryz.func45 z z fun U V W=>ssr<|sg z<|snn<|ssr<|yv (v2 (v:=(.agg #[sV [97],nS])) (A2 z) (fun _=>by kernel_rfl)) z<|yv (v2 (v:=(.agg #[sV [98],nS])) (A2 z) (fun _=>by kernel_rfl)) z<|aa cm z fun X=>aa cm z fun Y=>pk1<|sN p7 z z<|pk1<|sN p7 z z<|snn<|ssr<|lk 1 p7 z z<|v3 (e:=146) (cells:=#[sV [97],nS]) (A2 z) (fun _=>by kernel_rfl) z p1 fun o=>wr ([(DType.mk [97] ([]:List DType))]:List DType) 2 z z<|yv (v2 (v:=(.agg #[sV [76,105,115,116],.slice (bA o) ([(DType.mk [97] ([]:List DType))]:List DType).length 1])) (A2 z) (fun _=>by kernel_rfl)) z<|aa cm z fun Z=>sN p7 z z<|snn<|ssr<|yv (v2 (v:=(.agg #[sV [85,110,105,116],nS])) (A2 z) (fun _=>by kernel_rfl)) z<|v3 (e:=109) (cells:=#[sV [85,110,105,116],nS]) (A2 z) (fun _=>by kernel_rfl) z p1 fun p=>wr ([(DCon.mk [85,110,105,116] ([]:List DType))]:List DCon) 2 z z<|yv (v2 (v:=(.agg #[sV [85,110,105,116],nS,.slice (bA p) ([(DCon.mk [85,110,105,116] ([]:List DType))]:List DCon).length 1])) (A2 z) (fun _=>by kernel_rfl)) z<|yv (v2 (v:=(.agg #[sV [70,97,108,115,101],nS])) (A2 z) (fun _=>by kernel_rfl)) z<|yv (v2 (v:=(.agg #[sV [84,114,117,101],nS])) (A2 z) (fun _=>by kernel_rfl)) z<|v3 (e:=109) (cells:=#[sV [70,97,108,115,101],nS,sV [84,114,117,101],nS]) (A2 z) (fun _=>by kernel_rfl) z p1 fun q=>wr ([(DCon.mk [70,97,108,115,101] ([]:List DType)),(DCon.mk [84,114,117,101] ([]:List DType))]:List DCon) 2 z z<|yv (v2 (v:=(.agg #[sV [66,111,111,108],nS,.slice (bA q) ([(DCon.mk [70,97,108,115,101] ([]:List DType)),(DCon.mk [84,114,117,101] ([]:List DType))]:List DCon).length 2])) (A2 z) (fun _=>by kernel_rfl)) z<|v3 (e:=9) (cells:=#[sV [97]]) (A2 z) (fun _=>by kernel_rfl) z p1 fun s=>wr ([[97]]:List (List UInt8)) 1 z z<|yv (v2 (v:=(.agg #[sV [78,105,108],nS])) (A2 z) (fun _=>by kernel_rfl)) z<|lk 6 p7 z z<|lk 3 p7 z z<|pk4<|fz z (n5 (D:=KDType) (DType.shut r3) z) (bl 40 z) fun a0 l E=>v3 (e:=146) (cells:=#[sV [97],nS,sV [76,105,115,116],.slice (bA o) ([(DType.mk [97] ([]:List DType))]:List DType).length 1]) (A2 z) (fun _=>by kernel_rfl) z p1 fun t=>wr ([(DType.mk [97] ([]:List DType)),(DType.mk [76,105,115,116] ([(DType.mk [97] ([]:List DType))]:List DType))]:List DType) 2 z z<|yv (v2 (v:=(.agg #[sV [67,111,110,115],.slice (bA t) ([(DType.mk [97] ([]:List DType)),(DType.mk [76,105,115,116] ([(DType.mk [97] ([]:List DType))]:List DType))]:List DType).length 2])) (A2 z) (fun _=>by kernel_rfl)) z<|fz z (n5 (D:=KDType) (DType.shut r3) (n5 (DType.shut E) z)) (bl 40 z) fun a1 m G=>v3 (e:=109) (cells:=#[sV [78,105,108],nS,sV [67,111,110,115],.slice (bA t) ([(DType.mk [97] ([]:List DType)),(DType.mk [76,105,115,116] ([(DType.mk [97] ([]:List DType))]:List DType))]:List DType).length 2]) (A2 z) (fun _=>by kernel_rfl) z p1 fun w=>wr ([(DCon.mk [78,105,108] ([]:List DType)),(DCon.mk [67,111,110,115] ([(DType.mk [97] ([]:List DType)),(DType.mk [76,105,115,116] ([(DType.mk [97] ([]:List DType))]:List DType))]:List DType))]:List DCon) 2 z z<|yv (v2 (v:=(.agg #[sV [76,105,115,116],.slice (bA s) ([[97]]:List (List UInt8)).length 1,.slice (bA w) ([(DCon.mk [78,105,108] ([]:List DType)),(DCon.mk [67,111,110,115] ([(DType.mk [97] ([]:List DType)),(DType.mk [76,105,115,116] ([(DType.mk [97] ([]:List DType))]:List DType))]:List DType))]:List DCon).length 2])) (A2 z) (fun _=>by kernel_rfl)) z<|v3 (e:=9) (cells:=#[sV [97],sV [98]]) (A2 z) (fun _=>by kernel_rfl) z p1 fun x=>wr ([[97],[98]]:List (List UInt8)) 1 z z<|lk 7 p7 z z<|lk 6 p7 z z<|v3 (e:=146) (cells:=#[sV [97],nS,sV [98],nS]) (A2 z) (fun _=>by kernel_rfl) z p1 fun y=>wr ([(DType.mk [97] ([]:List DType)),(DType.mk [98] ([]:List DType))]:List DType) 2 z z<|yv (v2 (v:=(.agg #[sV [80,97,105,114],.slice (bA y) ([(DType.mk [97] ([]:List DType)),(DType.mk [98] ([]:List DType))]:List DType).length 2])) (A2 z) (fun _=>by kernel_rfl)) z<|fz z (n5 (D:=KDType) (DType.shut r3) (n5 (DType.shut r3) z)) (bl 40 z) fun a2 k H=>v3 (e:=109) (cells:=#[sV [80,97,105,114],.slice (bA y) ([(DType.mk [97] ([]:List DType)),(DType.mk [98] ([]:List DType))]:List DType).length 2]) (A2 z) (fun _=>by kernel_rfl) z p1 fun A=>wr ([(DCon.mk [80,97,105,114] ([(DType.mk [97] ([]:List DType)),(DType.mk [98] ([]:List DType))]:List DType))]:List DCon) 2 z z<|yv (v2 (v:=(.agg #[sV [80,97,105,114],.slice (bA x) ([[97],[98]]:List (List UInt8)).length 2,.slice (bA A) ([(DCon.mk [80,97,105,114] ([(DType.mk [97] ([]:List DType)),(DType.mk [98] ([]:List DType))]:List DType))]:List DCon).length 1])) (A2 z) (fun _=>by kernel_rfl)) z<|yv (v2 (v:=(.agg #[sV [90,101,114,111],nS])) (A2 z) (fun _=>by kernel_rfl)) z<|yv (v2 (v:=(.agg #[sV [78,97,116],nS])) (A2 z) (fun _=>by kernel_rfl)) z<|v3 (e:=146) (cells:=#[sV [78,97,116],nS]) (A2 z) (fun _=>by kernel_rfl) z p1 fun B=>wr ([(DType.mk [78,97,116] ([]:List DType))]:List DType) 2 z z<|yv (v2 (v:=(.agg #[sV [83,117,99,99],.slice (bA B) ([(DType.mk [78,97,116] ([]:List DType))]:List DType).length 1])) (A2 z) (fun _=>by kernel_rfl)) z<|fz z (n5 (D:=KDType) (DType.shut r3) z) (bl 40 z) fun a3 a I=>v3 (e:=109) (cells:=#[sV [90,101,114,111],nS,sV [83,117,99,99],.slice (bA B) ([(DType.mk [78,97,116] ([]:List DType))]:List DType).length 1]) (A2 z) (fun _=>by kernel_rfl) z p1 fun C=>wr ([(DCon.mk [90,101,114,111] ([]:List DType)),(DCon.mk [83,117,99,99] ([(DType.mk [78,97,116] ([]:List DType))]:List DType))]:List DCon) 2 z z<|yv (v2 (v:=(.agg #[sV [78,97,116],nS,.slice (bA C) ([(DCon.mk [90,101,114,111] ([]:List DType)),(DCon.mk [83,117,99,99] ([(DType.mk [78,97,116] ([]:List DType))]:List DType))]:List DCon).length 2])) (A2 z) (fun _=>by kernel_rfl)) z<|pk6<|fz z (g4 (s0 l (s0 m (s0 k a))) (n5 (D:=KDCon) (DCon.shut r3) z)) (bl 40 z) fun a4 b J=>pk5<|fz z (g4 (s0 l (s0 m (s0 k (s0 a b)))) (n5 (D:=KDCon) (DCon.shut r3) (n5 (DCon.shut r3) z))) (bl 40 z) fun a5 c K=>pk4<|fz z (g4 (s0 l (s0 m (s0 k (s0 a (s0 b c))))) (n5 (D:=Kind.str) z z)) (bl 16 z) fun a6 d L=>pk3<|fz z (g4 (s0 k (s0 a (s0 b (s0 c d)))) (n5 (D:=KDCon) (DCon.shut r3) (n5 (DCon.shut G) z))) (bl 40 z) fun a7 f M=>pk2<|fz z (g4 (s0 k (s0 a (s0 b (s0 c (s0 d f))))) (n5 (D:=Kind.str) z (n5 z z))) (bl 16 z) fun a8 h N=>pk1<|fz z (g4 (s0 a (s0 b (s0 c (s0 d (s0 f h))))) (n5 (D:=KDCon) (DCon.shut H) z)) (bl 40 z) fun a9 i P=>fz z (g4 (s0 b (s0 c (s0 d (s0 f (s0 h i))))) (n5 (D:=KDCon) (DCon.shut r3) (n5 (DCon.shut I) z))) (bl 40 z) fun b0 j Q=>v3 (e:=106) (cells:=#[sV [85,110,105,116],nS,.slice (bA p) ([(DCon.mk [85,110,105,116] ([]:List DType))]:List DCon).length 1,sV [66,111,111,108],nS,.slice (bA q) ([(DCon.mk [70,97,108,115,101] ([]:List DType)),(DCon.mk [84,114,117,101] ([]:List DType))]:List DCon).length 2,sV [76,105,115,116],.slice (bA s) ([[97]]:List (List UInt8)).length 1,.slice (bA w) ([(DCon.mk [78,105,108] ([]:List DType)),(DCon.mk [67,111,110,115] ([(DType.mk [97] ([]:List DType)),(DType.mk [76,105,115,116] ([(DType.mk [97] ([]:List DType))]:List DType))]:List DType))]:List DCon).length 2,sV [80,97,105,114],.slice (bA x) ([[97],[98]]:List (List UInt8)).length 2,.slice (bA A) ([(DCon.mk [80,97,105,114] ([(DType.mk [97] ([]:List DType)),(DType.mk [98] ([]:List DType))]:List DType))]:List DCon).length 1,sV [78,97,116],nS,.slice (bA C) ([(DCon.mk [90,101,114,111] ([]:List DType)),(DCon.mk [83,117,99,99] ([(DType.mk [78,97,116] ([]:List DType))]:List DType))]:List DCon).length 2]) (A2 z) (fun _=>by kernel_rfl) z p1 fun R=>wr ([(DData.mk [85,110,105,116] ([]:List (List UInt8)) ([(DCon.mk [85,110,105,116] ([]:List DType))]:List DCon)),(DData.mk [66,111,111,108] ([]:List (List UInt8)) ([(DCon.mk [70,97,108,115,101] ([]:List DType)),(DCon.mk [84,114,117,101] ([]:List DType))]:List DCon)),(DData.mk [76,105,115,116] ([[97]]:List (List UInt8)) ([(DCon.mk [78,105,108] ([]:List DType)),(DCon.mk [67,111,110,115] ([(DType.mk [97] ([]:List DType)),(DType.mk [76,105,115,116] ([(DType.mk [97] ([]:List DType))]:List DType))]:List DType))]:List DCon)),(DData.mk [80,97,105,114] ([[97],[98]]:List (List UInt8)) ([(DCon.mk [80,97,105,114] ([(DType.mk [97] ([]:List DType)),(DType.mk [98] ([]:List DType))]:List DType))]:List DCon)),(DData.mk [78,97,116] ([]:List (List UInt8)) ([(DCon.mk [90,101,114,111] ([]:List DType)),(DCon.mk [83,117,99,99] ([(DType.mk [78,97,116] ([]:List DType))]:List DType))]:List DCon))]:List DData) 3 z z<|sg z<|snn<|u2<|fz z (n5 (D:=KDData) (DData.shut r3 (x0 (s0 c (s0 d (s0 f (s0 h (s0 i j))))) J)) (n5 (DData.shut r3 (x0 (s0 d (s0 f (s0 h (s0 i j)))) K)) (n5 (DData.shut (x0 (s0 f (s0 h (s0 i j))) L) (x0 (s0 h (s0 i j)) M)) (n5 (DData.shut (x0 (s0 i j) N) (x0 j P)) (n5 (DData.shut r3 Q) z))))) (bl 64 z) fun b4 b7 S=>k0 z z ⟨(bA R),5,z,S,z⟩ (aF [] z)
theorem t8 (hm:m_data_Base_2 g=some r):
    CallSp Tryz.prog 45 #[] F [] (fun u F' H'=>∃x d0 y,u=(sl x r d0)∧Cat KDData F' y r∧Bnd 64 r∧H'=[rowo x r.length d0 106 3 y]):=by
 unfold m_data_Base_2 at hm
 cases hm
 exact f1 Tryz.func45 z z fun V W X=>ssr<|sg z<|snn<|ssr<|yv (v2 (v:=(.agg #[sV [97],nS])) (A2 z) (fun _=>by kernel_rfl)) z<|yv (v2 (v:=(.agg #[sV [98],nS])) (A2 z) (fun _=>by kernel_rfl)) z<|aa cm z fun Y=>aa cm z fun Z=>pk1<|sN p7 z z<|pk1<|sN p7 z z<|snn<|ssr<|lk 1 p7 z z<|v3 (e:=146) (cells:=#[sV [97],nS]) (A2 z) (fun _=>by kernel_rfl) z p1 fun A=>wr ([(DType.mk [97] ([]:List DType))]:List DType) 2 z z<|yv (v2 (v:=(.agg #[sV [76,105,115,116],.slice (bA A) ([(DType.mk [97] ([]:List DType))]:List DType).length 1])) (A2 z) (fun _=>by kernel_rfl)) z<|aa cm z fun a0=>sN p7 z z<|snn<|ssr<|yv (v2 (v:=(.agg #[sV [85,110,105,116],nS])) (A2 z) (fun _=>by kernel_rfl)) z<|v3 (e:=109) (cells:=#[sV [85,110,105,116],nS]) (A2 z) (fun _=>by kernel_rfl) z p1 fun k=>wr ([(DCon.mk [85,110,105,116] ([]:List DType))]:List DCon) 2 z z<|yv (v2 (v:=(.agg #[sV [85,110,105,116],nS,.slice (bA k) ([(DCon.mk [85,110,105,116] ([]:List DType))]:List DCon).length 1])) (A2 z) (fun _=>by kernel_rfl)) z<|yv (v2 (v:=(.agg #[sV [70,97,108,115,101],nS])) (A2 z) (fun _=>by kernel_rfl)) z<|yv (v2 (v:=(.agg #[sV [84,114,117,101],nS])) (A2 z) (fun _=>by kernel_rfl)) z<|v3 (e:=109) (cells:=#[sV [70,97,108,115,101],nS,sV [84,114,117,101],nS]) (A2 z) (fun _=>by kernel_rfl) z p1 fun l=>wr ([(DCon.mk [70,97,108,115,101] ([]:List DType)),(DCon.mk [84,114,117,101] ([]:List DType))]:List DCon) 2 z z<|yv (v2 (v:=(.agg #[sV [66,111,111,108],nS,.slice (bA l) ([(DCon.mk [70,97,108,115,101] ([]:List DType)),(DCon.mk [84,114,117,101] ([]:List DType))]:List DCon).length 2])) (A2 z) (fun _=>by kernel_rfl)) z<|v3 (e:=9) (cells:=#[sV [97]]) (A2 z) (fun _=>by kernel_rfl) z p1 fun m=>wr ([[97]]:List (List UInt8)) 1 z z<|yv (v2 (v:=(.agg #[sV [78,105,108],nS])) (A2 z) (fun _=>by kernel_rfl)) z<|lk 6 p7 z z<|lk 3 p7 z z<|pk4<|fz z (n5 (D:=KDType) (DType.shut r3) z) (bl 40 z) fun a1 t G=>v3 (e:=146) (cells:=#[sV [97],nS,sV [76,105,115,116],.slice (bA A) ([(DType.mk [97] ([]:List DType))]:List DType).length 1]) (A2 z) (fun _=>by kernel_rfl) z p1 fun B=>wr ([(DType.mk [97] ([]:List DType)),(DType.mk [76,105,115,116] ([(DType.mk [97] ([]:List DType))]:List DType))]:List DType) 2 z z<|yv (v2 (v:=(.agg #[sV [67,111,110,115],.slice (bA B) ([(DType.mk [97] ([]:List DType)),(DType.mk [76,105,115,116] ([(DType.mk [97] ([]:List DType))]:List DType))]:List DType).length 2])) (A2 z) (fun _=>by kernel_rfl)) z<|fz z (n5 (D:=KDType) (DType.shut r3) (n5 (DType.shut G) z)) (bl 40 z) fun a2 w H=>v3 (e:=109) (cells:=#[sV [78,105,108],nS,sV [67,111,110,115],.slice (bA B) ([(DType.mk [97] ([]:List DType)),(DType.mk [76,105,115,116] ([(DType.mk [97] ([]:List DType))]:List DType))]:List DType).length 2]) (A2 z) (fun _=>by kernel_rfl) z p1 fun n=>wr ([(DCon.mk [78,105,108] ([]:List DType)),(DCon.mk [67,111,110,115] ([(DType.mk [97] ([]:List DType)),(DType.mk [76,105,115,116] ([(DType.mk [97] ([]:List DType))]:List DType))]:List DType))]:List DCon) 2 z z<|yv (v2 (v:=(.agg #[sV [76,105,115,116],.slice (bA m) ([[97]]:List (List UInt8)).length 1,.slice (bA n) ([(DCon.mk [78,105,108] ([]:List DType)),(DCon.mk [67,111,110,115] ([(DType.mk [97] ([]:List DType)),(DType.mk [76,105,115,116] ([(DType.mk [97] ([]:List DType))]:List DType))]:List DType))]:List DCon).length 2])) (A2 z) (fun _=>by kernel_rfl)) z<|v3 (e:=9) (cells:=#[sV [97],sV [98]]) (A2 z) (fun _=>by kernel_rfl) z p1 fun o=>wr ([[97],[98]]:List (List UInt8)) 1 z z<|lk 7 p7 z z<|lk 6 p7 z z<|v3 (e:=146) (cells:=#[sV [97],nS,sV [98],nS]) (A2 z) (fun _=>by kernel_rfl) z p1 fun C=>wr ([(DType.mk [97] ([]:List DType)),(DType.mk [98] ([]:List DType))]:List DType) 2 z z<|yv (v2 (v:=(.agg #[sV [80,97,105,114],.slice (bA C) ([(DType.mk [97] ([]:List DType)),(DType.mk [98] ([]:List DType))]:List DType).length 2])) (A2 z) (fun _=>by kernel_rfl)) z<|fz z (n5 (D:=KDType) (DType.shut r3) (n5 (DType.shut r3) z)) (bl 40 z) fun a3 p I=>v3 (e:=109) (cells:=#[sV [80,97,105,114],.slice (bA C) ([(DType.mk [97] ([]:List DType)),(DType.mk [98] ([]:List DType))]:List DType).length 2]) (A2 z) (fun _=>by kernel_rfl) z p1 fun q=>wr ([(DCon.mk [80,97,105,114] ([(DType.mk [97] ([]:List DType)),(DType.mk [98] ([]:List DType))]:List DType))]:List DCon) 2 z z<|yv (v2 (v:=(.agg #[sV [80,97,105,114],.slice (bA o) ([[97],[98]]:List (List UInt8)).length 2,.slice (bA q) ([(DCon.mk [80,97,105,114] ([(DType.mk [97] ([]:List DType)),(DType.mk [98] ([]:List DType))]:List DType))]:List DCon).length 1])) (A2 z) (fun _=>by kernel_rfl)) z<|yv (v2 (v:=(.agg #[sV [90,101,114,111],nS])) (A2 z) (fun _=>by kernel_rfl)) z<|yv (v2 (v:=(.agg #[sV [78,97,116],nS])) (A2 z) (fun _=>by kernel_rfl)) z<|v3 (e:=146) (cells:=#[sV [78,97,116],nS]) (A2 z) (fun _=>by kernel_rfl) z p1 fun E=>wr ([(DType.mk [78,97,116] ([]:List DType))]:List DType) 2 z z<|yv (v2 (v:=(.agg #[sV [83,117,99,99],.slice (bA E) ([(DType.mk [78,97,116] ([]:List DType))]:List DType).length 1])) (A2 z) (fun _=>by kernel_rfl)) z<|fz z (n5 (D:=KDType) (DType.shut r3) z) (bl 40 z) fun a4 a J=>v3 (e:=109) (cells:=#[sV [90,101,114,111],nS,sV [83,117,99,99],.slice (bA E) ([(DType.mk [78,97,116] ([]:List DType))]:List DType).length 1]) (A2 z) (fun _=>by kernel_rfl) z p1 fun s=>wr ([(DCon.mk [90,101,114,111] ([]:List DType)),(DCon.mk [83,117,99,99] ([(DType.mk [78,97,116] ([]:List DType))]:List DType))]:List DCon) 2 z z<|yv (v2 (v:=(.agg #[sV [78,97,116],nS,.slice (bA s) ([(DCon.mk [90,101,114,111] ([]:List DType)),(DCon.mk [83,117,99,99] ([(DType.mk [78,97,116] ([]:List DType))]:List DType))]:List DCon).length 2])) (A2 z) (fun _=>by kernel_rfl)) z<|pk6<|fz z (g4 (s0 t (s0 w (s0 p a))) (n5 (D:=KDCon) (DCon.shut r3) z)) (bl 40 z) fun a5 b K=>pk5<|fz z (g4 (s0 t (s0 w (s0 p (s0 a b)))) (n5 (D:=KDCon) (DCon.shut r3) (n5 (DCon.shut r3) z))) (bl 40 z) fun a6 c L=>pk4<|fz z (g4 (s0 t (s0 w (s0 p (s0 a (s0 b c))))) (n5 (D:=Kind.str) z z)) (bl 16 z) fun a7 d M=>pk3<|fz z (g4 (s0 p (s0 a (s0 b (s0 c d)))) (n5 (D:=KDCon) (DCon.shut r3) (n5 (DCon.shut H) z))) (bl 40 z) fun a8 f N=>pk2<|fz z (g4 (s0 p (s0 a (s0 b (s0 c (s0 d f))))) (n5 (D:=Kind.str) z (n5 z z))) (bl 16 z) fun a9 h P=>pk1<|fz z (g4 (s0 a (s0 b (s0 c (s0 d (s0 f h))))) (n5 (D:=KDCon) (DCon.shut I) z)) (bl 40 z) fun b0 i Q=>fz z (g4 (s0 b (s0 c (s0 d (s0 f (s0 h i))))) (n5 (D:=KDCon) (DCon.shut r3) (n5 (DCon.shut J) z))) (bl 40 z) fun R j S=>v3 (e:=106) (cells:=#[sV [85,110,105,116],nS,.slice (bA k) ([(DCon.mk [85,110,105,116] ([]:List DType))]:List DCon).length 1,sV [66,111,111,108],nS,.slice (bA l) ([(DCon.mk [70,97,108,115,101] ([]:List DType)),(DCon.mk [84,114,117,101] ([]:List DType))]:List DCon).length 2,sV [76,105,115,116],.slice (bA m) ([[97]]:List (List UInt8)).length 1,.slice (bA n) ([(DCon.mk [78,105,108] ([]:List DType)),(DCon.mk [67,111,110,115] ([(DType.mk [97] ([]:List DType)),(DType.mk [76,105,115,116] ([(DType.mk [97] ([]:List DType))]:List DType))]:List DType))]:List DCon).length 2,sV [80,97,105,114],.slice (bA o) ([[97],[98]]:List (List UInt8)).length 2,.slice (bA q) ([(DCon.mk [80,97,105,114] ([(DType.mk [97] ([]:List DType)),(DType.mk [98] ([]:List DType))]:List DType))]:List DCon).length 1,sV [78,97,116],nS,.slice (bA s) ([(DCon.mk [90,101,114,111] ([]:List DType)),(DCon.mk [83,117,99,99] ([(DType.mk [78,97,116] ([]:List DType))]:List DType))]:List DCon).length 2]) (A2 z) (fun _=>by kernel_rfl) z p1 fun U=>wr ([(DData.mk [85,110,105,116] ([]:List (List UInt8)) ([(DCon.mk [85,110,105,116] ([]:List DType))]:List DCon)),(DData.mk [66,111,111,108] ([]:List (List UInt8)) ([(DCon.mk [70,97,108,115,101] ([]:List DType)),(DCon.mk [84,114,117,101] ([]:List DType))]:List DCon)),(DData.mk [76,105,115,116] ([[97]]:List (List UInt8)) ([(DCon.mk [78,105,108] ([]:List DType)),(DCon.mk [67,111,110,115] ([(DType.mk [97] ([]:List DType)),(DType.mk [76,105,115,116] ([(DType.mk [97] ([]:List DType))]:List DType))]:List DType))]:List DCon)),(DData.mk [80,97,105,114] ([[97],[98]]:List (List UInt8)) ([(DCon.mk [80,97,105,114] ([(DType.mk [97] ([]:List DType)),(DType.mk [98] ([]:List DType))]:List DType))]:List DCon)),(DData.mk [78,97,116] ([]:List (List UInt8)) ([(DCon.mk [90,101,114,111] ([]:List DType)),(DCon.mk [83,117,99,99] ([(DType.mk [78,97,116] ([]:List DType))]:List DType))]:List DCon))]:List DData) 3 z z<|sg z<|snn<|u2<|k0 z z ⟨(bA U),5,[sV [85,110,105,116],nS,.slice (bA k) ([(DCon.mk [85,110,105,116] ([]:List DType))]:List DCon).length 1,sV [66,111,111,108],nS,.slice (bA l) ([(DCon.mk [70,97,108,115,101] ([]:List DType)),(DCon.mk [84,114,117,101] ([]:List DType))]:List DCon).length 2,sV [76,105,115,116],.slice (bA m) ([[97]]:List (List UInt8)).length 1,.slice (bA n) ([(DCon.mk [78,105,108] ([]:List DType)),(DCon.mk [67,111,110,115] ([(DType.mk [97] ([]:List DType)),(DType.mk [76,105,115,116] ([(DType.mk [97] ([]:List DType))]:List DType))]:List DType))]:List DCon).length 2,sV [80,97,105,114],.slice (bA o) ([[97],[98]]:List (List UInt8)).length 2,.slice (bA q) ([(DCon.mk [80,97,105,114] ([(DType.mk [97] ([]:List DType)),(DType.mk [98] ([]:List DType))]:List DType))]:List DCon).length 1,sV [78,97,116],nS,.slice (bA s) ([(DCon.mk [90,101,114,111] ([]:List DType)),(DCon.mk [83,117,99,99] ([(DType.mk [78,97,116] ([]:List DType))]:List DType))]:List DCon).length 2],z,(show Cat KDData R [sV [85,110,105,116],nS,.slice (bA k) ([(DCon.mk [85,110,105,116] ([]:List DType))]:List DCon).length 1,sV [66,111,111,108],nS,.slice (bA l) ([(DCon.mk [70,97,108,115,101] ([]:List DType)),(DCon.mk [84,114,117,101] ([]:List DType))]:List DCon).length 2,sV [76,105,115,116],.slice (bA m) ([[97]]:List (List UInt8)).length 1,.slice (bA n) ([(DCon.mk [78,105,108] ([]:List DType)),(DCon.mk [67,111,110,115] ([(DType.mk [97] ([]:List DType)),(DType.mk [76,105,115,116] ([(DType.mk [97] ([]:List DType))]:List DType))]:List DType))]:List DCon).length 2,sV [80,97,105,114],.slice (bA o) ([[97],[98]]:List (List UInt8)).length 2,.slice (bA q) ([(DCon.mk [80,97,105,114] ([(DType.mk [97] ([]:List DType)),(DType.mk [98] ([]:List DType))]:List DType))]:List DCon).length 1,sV [78,97,116],nS,.slice (bA s) ([(DCon.mk [90,101,114,111] ([]:List DType)),(DCon.mk [83,117,99,99] ([(DType.mk [78,97,116] ([]:List DType))]:List DType))]:List DCon).length 2] ([(DData.mk [85,110,105,116] ([]:List (List UInt8)) ([(DCon.mk [85,110,105,116] ([]:List DType))]:List DCon)),(DData.mk [66,111,111,108] ([]:List (List UInt8)) ([(DCon.mk [70,97,108,115,101] ([]:List DType)),(DCon.mk [84,114,117,101] ([]:List DType))]:List DCon)),(DData.mk [76,105,115,116] ([[97]]:List (List UInt8)) ([(DCon.mk [78,105,108] ([]:List DType)),(DCon.mk [67,111,110,115] ([(DType.mk [97] ([]:List DType)),(DType.mk [76,105,115,116] ([(DType.mk [97] ([]:List DType))]:List DType))]:List DType))]:List DCon)),(DData.mk [80,97,105,114] ([[97],[98]]:List (List UInt8)) ([(DCon.mk [80,97,105,114] ([(DType.mk [97] ([]:List DType)),(DType.mk [98] ([]:List DType))]:List DType))]:List DCon)),(DData.mk [78,97,116] ([]:List (List UInt8)) ([(DCon.mk [90,101,114,111] ([]:List DType)),(DCon.mk [83,117,99,99] ([(DType.mk [78,97,116] ([]:List DType))]:List DType))]:List DCon))]:List DData) from⟨[sV [85,110,105,116],nS,.slice (bA k) ([(DCon.mk [85,110,105,116] ([]:List DType))]:List DCon).length 1],_,z,(DData.shut r3 (x0 (s0 c (s0 d (s0 f (s0 h (s0 i j))))) K)),⟨[sV [66,111,111,108],nS,.slice (bA l) ([(DCon.mk [70,97,108,115,101] ([]:List DType)),(DCon.mk [84,114,117,101] ([]:List DType))]:List DCon).length 2],_,z,(DData.shut r3 (x0 (s0 d (s0 f (s0 h (s0 i j)))) L)),⟨[sV [76,105,115,116],.slice (bA m) ([[97]]:List (List UInt8)).length 1,.slice (bA n) ([(DCon.mk [78,105,108] ([]:List DType)),(DCon.mk [67,111,110,115] ([(DType.mk [97] ([]:List DType)),(DType.mk [76,105,115,116] ([(DType.mk [97] ([]:List DType))]:List DType))]:List DType))]:List DCon).length 2],_,z,(DData.shut (x0 (s0 f (s0 h (s0 i j))) M) (x0 (s0 h (s0 i j)) N)),⟨[sV [80,97,105,114],.slice (bA o) ([[97],[98]]:List (List UInt8)).length 2,.slice (bA q) ([(DCon.mk [80,97,105,114] ([(DType.mk [97] ([]:List DType)),(DType.mk [98] ([]:List DType))]:List DType))]:List DCon).length 1],_,z,(DData.shut (x0 (s0 i j) P) (x0 j Q)),⟨[sV [78,97,116],nS,.slice (bA s) ([(DCon.mk [90,101,114,111] ([]:List DType)),(DCon.mk [83,117,99,99] ([(DType.mk [78,97,116] ([]:List DType))]:List DType))]:List DCon).length 2],_,z,(DData.shut r3 S),z⟩⟩⟩⟩⟩),(show Bnd 64 ([(DData.mk [85,110,105,116] ([]:List (List UInt8)) ([(DCon.mk [85,110,105,116] ([]:List DType))]:List DCon)),(DData.mk [66,111,111,108] ([]:List (List UInt8)) ([(DCon.mk [70,97,108,115,101] ([]:List DType)),(DCon.mk [84,114,117,101] ([]:List DType))]:List DCon)),(DData.mk [76,105,115,116] ([[97]]:List (List UInt8)) ([(DCon.mk [78,105,108] ([]:List DType)),(DCon.mk [67,111,110,115] ([(DType.mk [97] ([]:List DType)),(DType.mk [76,105,115,116] ([(DType.mk [97] ([]:List DType))]:List DType))]:List DType))]:List DCon)),(DData.mk [80,97,105,114] ([[97],[98]]:List (List UInt8)) ([(DCon.mk [80,97,105,114] ([(DType.mk [97] ([]:List DType)),(DType.mk [98] ([]:List DType))]:List DType))]:List DCon)),(DData.mk [78,97,116] ([]:List (List UInt8)) ([(DCon.mk [90,101,114,111] ([]:List DType)),(DCon.mk [83,117,99,99] ([(DType.mk [78,97,116] ([]:List DType))]:List DType))]:List DCon))]:List DData) from⟨by simp,by simp⟩),z⟩ (aF [0] z)
theorem dT {a0:DDecls}(d:Fsl 64 KDData F e f a0.Datas) (w:Fsl 64 KDClass F i j a0.Classes) (x:Fsl 80 KDInst F k l a0.Insts) (hm:m_data_all g a0=some r):
    CallSp Tryz.prog 88 #[.agg (bd a0 e f i j k l)] F [] (fun u F' H'=>∃a d0,u=(sl a r d0)∧Fsl 64 KDData F' a d0 r∧H'=[]):=by
 unfold m_data_all at hm
 refine f1 Tryz.func88 z z fun y A B=>ssr<|ba z fun C=>sg z<|snn<|x1<|ds [3] hmix<|tp 1 z (fun _=>w3 bq z) z z<|tk [1,4] 2 z (p3 0 ft z) z z k1<|oN 0 z z fun m=>oS hm fun D n hm=>cl (t8 n) z z<|?_
 rintro _ E _ ⟨G,H,I,rfl,o,J,rfl⟩ b
 refine m1 m (fun _=>(aG [1] b (l0 _) z))<|oN 3 z z fun p=>oS hm fun K c hm=>?_
 cases hm
 exact pS c dy z z z z o (x0 b d) z fun q s L t=>m1 p (fun h=>by cases h)<|tp 4 z (fun _=>w4 z) z z<|dn<|s4<|u2<|fz z t (f4 c) fun M N v=>k0 z z ⟨q,s,z,v,z⟩ (aF [] z)
theorem ad (i:Fsl 16 Kind.str F l m a0) (hm:m_data_alike g a0=some r):
    CallSp Tryz.prog 89 #[sl l a0 m] F [] (fun u F' H'=>u=(.bool r)∧H'=[]):=by
 unfold m_data_alike at hm
 refine f1 Tryz.func89 z z fun K L M=>ssr<|sg z<|snn<|ssr<|n4 (P:=Tryz.prog) t0 p1 z fun n=>sg z<|snn<|oD hm (fun c h s=>∃o:Unit,c=.inl o∧h []∧s F []) (fun c hm d=>?_) fun c d a w=>?_
 ·refine ssr<|mv z<|yv (u0 bj z) z<|mv z<|snn<|t1<|lM hm (fun b h s=>∃e,Mrel Kind.bool false F e b.1∧h [(3,.map (some n)),(7,sl l a0 m),(8,lV a0),(9,nV b.2)]∧s F [mapv t0 n e]) ?_ ?_
  ·intro a w ha hs
   exact⟨[],(mN Kind.bool false),cv ha,(am [0] hs z)⟩
  rintro b N Q hm f a w ⟨e,p,ha,hs⟩
  refine us ha hs<|ssr<|yv (r2 z z) z<|snn<|x1<|cP hm z (fun t hm=>?_) fun R hm=>?_
  ·refine skn<|x1<|t1<|ssr<|oS hm fun v x hm=>?_
   obtain⟨S,U,y,A,B⟩:=i.nidx x
   obtain rfl:=A
   refine yv (t2 y bM z z) z<|yv (v1 z (k5 B r9 z)) z<|sg z<|snn<|x1<|ssr<|mv z<|mv z<|oS hm fun V C hm=>?_
   obtain⟨W,D,X,q,E⟩:=p6 (k:=v) p (show Mval Kind.bool false _ (.bool false) false from⟨[.bool false],z,z⟩)
   rw [Mir.getD_some C] at q
   obtain rfl:=q
   obtain rfl:=(List.cons.inj (if_neg (show¬(false=true) by decide)▸E)).1
   refine yv (f7 z z 0 z ec em gp D) z<|snn<|cB hm z (fun Y hm=>?_) fun Z hm=>?_
   ·cases hm
    obtain rfl:=aR f
    obtain rfl:=aR d
    exact ssr<|sg z<|snn<|u2<|v0<|m2<|v0<|v0<|m2<|v0<|k0 z z ⟨z,z⟩ (aF [] z)
   refine skn<|q0<|mv z<|mv z<|oS hm fun G H hm=>?_
   cases hm
   exact mP H p ⟨[.bool true],z,z⟩ ec em z fun I J=>u1<|f2<|s4<|q0<|yv (s3 (j:=1) z z z (by have q_0:=t;have q_1:=i.bnd.2;omega)) z<|mv z<|snn fun a w ha hs=>⟨(G,b.2+1),aL f,I,J,cv ha,(am [0] hs z)⟩
  cases hm
  obtain rfl:=aR f
  exact u4<|p0<|p0<|u3 fun a w ha hs=>⟨(),z,cv ha,(am [] hs z)⟩
 rintro⟨o,rfl,ha,hs⟩
 replace hm:=aL d
 cases hm
 exact us ha hs<|ssr<|sg z<|snn<|u2<|k0 z z ⟨z,z⟩ (aF [] z)
theorem eS {a0:DDecls}(e6:Fsl 64 KDData F y A a0.Datas) (e7:Fsl 64 KDClass F p q a0.Classes) (e8:Fsl 80 KDInst F t v a0.Insts) (hm:m_data_twice g a0=some r):
    CallSp Tryz.prog 62 #[.agg (bd a0 y A p q t v)] F [] (fun u F' H'=>u=(iV r)∧H'=[]):=by
 unfold m_data_twice at hm
 refine f1 Tryz.func62 z z fun hV hW hX=>ssr<|ba z fun f=>sg z<|snn<|ssr<|v3 (e:=9) (cells:=#[sV [73,110,116]]) (A2 z) (fun _=>by kernel_rfl) z p1 fun e9=>wr ([[73,110,116]]:List (List UInt8)) 1 z z<|v3 (e:=9) (cells:=#[]) (vs:=#[]) (fun a _=>by simp) (fun _=>by kernel_rfl) z p1 fun c=>wr ([]:List (List UInt8)) 1 z z<|sg z<|sg z<|snn<|ssr<|sg z<|sg z<|sg z<|snn<|ssr<|sg z<|snn<|oC hm (fun b h s=>∃k l B m n C o,m3 F o∧Cat Kind.str o B b.1∧Bnd 16 b.1∧Cat Kind.str o C b.2.1∧Bnd 16 b.2.1∧h [(1,pP f 0),(3,sl k b.1 l),(4,.slice (bA c) ([]:List (List UInt8)).length 0),(5,sl m b.2.1 n),(6,nS),(7,nS),(8,.bool b.2.2)]∧s o [bK f (bd a0 y A p q t v) 93,rowo k b.1.length l 9 1 B,rowo m b.2.1.length n 9 1 C,rowo (bA c) ([]:List (List UInt8)).length 0 9 1 []]) (fun b hm=>?_) fun b hm a w=>?_
 ·refine ssr<|lk 2 fJ z z<|oS hm fun D fo hm=>cl (dT (a0:=a0) e6 e7 e8 fo) z z<|?_
  rintro _ c2 _ ⟨R,S,rfl,c3,rfl⟩ c4
  refine yv (u0 fE z) z<|mv z<|snn<|t1<|lM hm (fun d h s=>∃U V W E G J x,m3 c2 x∧Cat Kind.str x W d.1∧Bnd 16 d.1∧Cat Kind.str x J d.2.1∧Bnd 16 d.2.1∧h [(1,pP f 0),(3,sl U d.1 V),(4,.slice (bA c) ([]:List (List UInt8)).length 0),(5,sl E d.2.1 G),(6,nS),(7,nS),(8,.bool d.2.2.1),(22,sl R D S),(23,lV D),(24,nV d.2.2.2)]∧s x [bK f (bd a0 y A p q t v) 93,rowo U d.1.length V 9 1 W,rowo E d.2.1.length G 9 1 J,rowo (bA c) ([]:List (List UInt8)).length 0 9 1 []]) ?_ ?_
  ·exact n6 9 1 fun a w ha hs=>⟨(bA e9),1,[sV [73,110,116]],none,0,[],c2,(l0 _),(g4 c4 (show Cat Kind.str F [sV [73,110,116]] ([[73,110,116]]:List (List UInt8)) from⟨[sV [73,110,116]],_,z,z,z⟩)),(show Bnd 16 ([[73,110,116]]:List (List UInt8)) from⟨by simp,by simp⟩),(show Cat Kind.str _ [] [] from z),r8,cv ha,(am [3,2,0,0] hs z)⟩
  rintro d hY hZ hm c5 a w ⟨U,V,W,E,G,J,x,b0,c6,f0,c7,c8,ha,hs⟩
  refine us ha hs<|ssr<|yv (r2 z z) z<|snn<|x1<|cP hm z (fun gP hm=>?_) fun h0 hm=>?_
  ·refine skn<|oC hm (fun i h s=>∃X Y Z a1 a2 a3 K,m3 x K∧Cat Kind.str K Z i.1∧Bnd 16 i.1∧Cat Kind.str K a3 i.2.1∧Bnd 16 i.2.1∧h [(1,pP f 0),(3,sl X i.1 Y),(4,.slice (bA c) ([]:List (List UInt8)).length 0),(5,sl a1 i.2.1 a2),(6,nS),(7,nS),(8,.bool i.2.2),(22,sl R D S),(23,lV D),(24,nV d.2.2.2)]∧s K [bK f (bd a0 y A p q t v) 93,rowo X i.1.length Y 9 1 Z,rowo a1 i.2.1.length a2 9 1 a3,rowo (bA c) ([]:List (List UInt8)).length 0 9 1 []]) (fun i hm=>?_) fun i hm a w=>?_
   ·refine t1<|ssr<|oS hm fun M gQ hm=>?_
    obtain⟨h1,h2,gR,gS,gT⟩:=(x0 b0 c3).nidx gQ
    obtain⟨gU,gV,c9,d1,rfl,gW,d2⟩:=DData.opn gS
    refine yv (t2 gR dy z z) z<|yv (v1 z (k3 gT aC)) z<|aa dS z fun d3=>sN aC z z<|snn<|ssr<|mv z<|fa dJ z<|ld 0 r9 z<|v3 (e:=9) (cells:=#[sV M.Name]) (A2 z) (fun _=>by kernel_rfl) z p1 fun h3=>oS hm fun a4 d4 hm=>pk3<|pL d4 bM z z z z z c6 ⟨[sV M.Name],_,z,z,z⟩ z fun N P b1 gX=>sg z<|snn<|oC hm (fun a5 h s=>∃L,m3 x L∧h [(1,pP f 0),(3,sl N a4 P),(4,.slice (bA c) ([]:List (List UInt8)).length 0),(5,sl E d.2.1 G),(6,nS),(7,nS),(8,.bool a5),(10,pP d3 0),(22,sl R D S),(23,lV D),(24,nV d.2.2.2)]∧s L [bK f (bd a0 y A p q t v) 93,bK d3 (eJ M gU gV c9 d1) 106,rowo N a4.length P 9 1 b1,rowo E d.2.1.length G 9 1 J,rowo (bA c) ([]:List (List UInt8)).length 0 9 1 []]) (fun a5 hm=>?_) fun a5 hm a w=>?_
    ·refine q0<|?_
     rcases iS hm with⟨b2,hm⟩|⟨b2,hm⟩
     ·have gY:(d.2.2.1)=true:=b2
      try rw [gY]
      cases hm
      exact mv z<|mv z<|un z z<|un z z<|un z z<|pt z<|sg z<|u1 fun a w ha hs=>⟨x,(l0 _),cv ha,(am [2,1,0,0,0] hs z)⟩
     have gZ:(d.2.2.1)=false:=w2 b2
     try rw [gZ]
     refine mv z<|mv z<|fw bZ z z<|lw 1 aJ z z<|oS hm fun h4 g0 hm=>f5 _ (ad gW g0) z (A1 z) z en89.out z z z<|?_
     rintro _ g1 _ ⟨rfl,rfl⟩ g2
     cases hm
     exact pf z<|sg z<|u1 fun a w ha hs=>⟨g1,g2,cv ha,(am [2,1,0,0,0] hs z)⟩
    rintro⟨L,a6,ha,hs⟩
    refine us ha hs<|ssr<|fa aU z<|ld 1 fd z<|yv (u0 fb z) z<|mv z<|snn<|t1<|lM hm (fun H h s=>∃a7 a8 a9,Cat Kind.str L a9 H.1∧Bnd 16 H.1∧h [(1,pP f 0),(3,sl N a4 P),(4,.slice (bA c) ([]:List (List UInt8)).length 0),(5,sl a7 H.1 a8),(6,nS),(7,nS),(8,.bool a5),(22,sl R D S),(23,lV D),(24,nV d.2.2.2),(40,sl c9 M.Cons d1),(41,lV M.Cons),(42,nV H.2)]∧s L [bK f (bd a0 y A p q t v) 93,rowo N a4.length P 9 1 b1,rowo a7 H.1.length a8 9 1 a9,rowo (bA c) ([]:List (List UInt8)).length 0 9 1 []]) ?_ ?_
    ·intro a w ha hs
     exact⟨E,G,J,(g4 a6 c7),c8,cv ha,(am [0,1,1,1] hs z)⟩
    rintro H h5 h6 hm d5 a w ⟨a7,a8,a9,d6,g3,ha,hs⟩
    refine us ha hs<|ssr<|yv (r2 z z) z<|snn<|x1<|cP hm z (fun g7 hm=>?_) fun h7 hm=>?_
    ·refine skn<|x1<|t1<|ssr<|oS hm fun d7 hb hm=>?_
     obtain⟨h8,h9,hc,hd,he⟩:=(x0 a6 d2).nidx hb
     obtain⟨ia,ib,rfl,ic⟩:=DCon.opn hd
     refine yv (t2 hc fy z z) z<|yv (v1 z (k3 he di)) z<|aa fv z fun ie=>sN di z z<|snn<|q0<|mv z<|fa cO z<|ld 0 r9 z<|v3 (e:=9) (cells:=#[sV d7.Name]) (A2 z) (fun _=>by kernel_rfl) z p1 fun ig=>oS hm fun hf d8 hm=>?_
     cases hm
     exact pk4<|pL d8 bM z z z z z d6 ⟨[sV d7.Name],_,z,z,z⟩ z fun hg hh hi hj=>sg z<|u1<|f2<|s4<|q0<|yv (s3 (j:=1) z z z (by have q_0:=g7;have q_1:=d2.bnd.2;omega)) z<|mv z<|snn fun a w ha hs=>⟨(hf,H.2+1),aL d5,hg,hh,hi,hj,(f4 d8),cv ha,(am [2,2,0,1] hs z)⟩
    cases hm
    obtain rfl:=aR d5
    exact u4<|p0<|p0<|u3<|f2 fun a w ha hs=>⟨N,P,b1,a7,a8,a9,L,a6,(g4 a6 gX),(f4 d4),d6,g3,cv ha,(am [0,0,0,0] hs z)⟩
   rintro⟨X,Y,Z,a1,a2,a3,K,hk,hl,hn,ho,hp,ha,hs⟩
   cases hm
   exact us ha hs<|q0<|yv (s3 (j:=1) z z z (by have q_0:=gP;have q_1:=c3.bnd.2;omega)) z<|mv z<|snn fun a w ha hs=>⟨(i.1,i.2.1,i.2.2,d.2.2.2+1),aL c5,X,Y,Z,a1,a2,a3,K,(s0 b0 hk),hl,hn,ho,hp,cv ha,(am [0,0,0,0] hs z)⟩
  cases hm
  obtain rfl:=aR c5
  exact u4<|p0<|p0<|u3 fun a w ha hs=>⟨U,V,W,E,G,J,x,(s0 c4 b0),c6,f0,c7,c8,cv ha,(am [0,0,0,0] hs z)⟩
 rintro⟨k,l,B,m,n,C,o,hq,hr,ht,hu,hv,ha,hs⟩
 refine us ha hs<|oC hm (fun d9 h s=>h [(1,pP f 0),(3,sl k b.1 l),(4,.slice (bA c) ([]:List (List UInt8)).length 0),(5,sl m b.2.1 n),(6,nS),(7,nS),(8,.bool b.2.2)]∧s o [bK f (bd a0 y A p q t v) 93,rowo k b.1.length l 9 1 B,rowo m b.2.1.length n 9 1 C,rowo (bA c) ([]:List (List UInt8)).length 0 9 1 []]) (fun d9 hm=>?_) fun d9 hm a w=>?_
 ·refine ssr<|fa ay z<|ld 0 fG z<|yv (u0 fD z) z<|mv z<|snn<|t1<|lM hm (fun hw h s=>h [(1,pP f 0),(3,sl k b.1 l),(4,.slice (bA c) ([]:List (List UInt8)).length 0),(5,sl m b.2.1 n),(6,nS),(7,nS),(8,.bool b.2.2),(54,sl p a0.Classes q),(55,lV a0.Classes),(56,iV 0)]∧s o [bK f (bd a0 y A p q t v) 93,rowo k b.1.length l 9 1 B,rowo m b.2.1.length n 9 1 C,rowo (bA c) ([]:List (List UInt8)).length 0 9 1 []]) ?_ ?_
  ·intro a w ha hs
   exact⟨cv ha,(am [0,0,0,0] hs z)⟩
  rintro hw ih ii hm hx a w ⟨ha,hs⟩
  refine us ha hs<|ssr<|yv (r2 z z) z<|snn<|x1<|cP hm z (fun ij hm=>?_) fun ik hm=>?_
  ·exact skn<|x1<|t1<|ssr<|nomatch (show(none:Option _)=some _ from hm)
  cases hm
  obtain rfl:=aR hx
  exact u4<|p0<|p0<|u3 fun a w ha hs=>⟨cv ha,(am [0,0,0,0] hs z)⟩
 rintro⟨ha,hs⟩
 refine us ha hs<|oC hm (fun e0 h s=>h [(3,sl k b.1 l),(4,.slice (bA c) ([]:List (List UInt8)).length 0),(5,sl m b.2.1 n),(6,nS),(7,nS),(8,.bool b.2.2)]∧s o [rowo k b.1.length l 9 1 B,rowo m b.2.1.length n 9 1 C,rowo (bA c) ([]:List (List UInt8)).length 0 9 1 []]) (fun e0 hm=>?_) fun e0 hm a w=>?_
 ·refine ssr<|fa bU z<|ld 0 gd z<|yv (u0 gc z) z<|mv z<|snn<|t1<|lM hm (fun hy h s=>h [(3,sl k b.1 l),(4,.slice (bA c) ([]:List (List UInt8)).length 0),(5,sl m b.2.1 n),(6,nS),(7,nS),(8,.bool b.2.2),(80,sl t a0.Insts v),(81,lV a0.Insts),(82,iV 0)]∧s o [rowo k b.1.length l 9 1 B,rowo m b.2.1.length n 9 1 C,rowo (bA c) ([]:List (List UInt8)).length 0 9 1 []]) ?_ ?_
  ·intro a w ha hs
   exact⟨cv ha,(am [1,1,1] hs z)⟩
  rintro hy il im hm hz a w ⟨ha,hs⟩
  refine us ha hs<|ssr<|yv (r2 z z) z<|snn<|x1<|cP hm z (fun io hm=>?_) fun ip hm=>?_
  ·exact skn<|x1<|t1<|ssr<|nomatch (show(none:Option _)=some _ from hm)
  cases hm
  obtain rfl:=aR hz
  exact u4<|p0<|p0<|u3 fun a w ha hs=>⟨cv ha,(am [0,0,0] hs z)⟩
 rintro⟨ha,hs⟩
 refine us ha hs<|x1<|oC hm (fun b3 h s=>∃b6,m3 o b6∧h [(116,.bool b3)]∧s b6 []) (fun b3 hm=>?_) fun b3 hm a w=>?_
 ·refine q0<|?_
  rcases iS hm with⟨b8,hm⟩|⟨b8,hm⟩
  ·have hA:(b.2.2)=true:=b8
   try rw [hA]
   cases hm
   exact mv z<|mv z<|un z z<|un z z<|pt z<|mv z<|un z z<|un z z<|pt z<|mv z<|un z z<|un z z<|pt z<|mv z<|un z z<|un z z<|pt z<|mv z<|un z z<|un z z<|pt z<|u1 fun a w ha hs=>⟨o,(l0 _),cv ha,(am [] hs z)⟩
  have hB:(b.2.2)=false:=w2 b8
  try rw [hB]
  refine mv z<|mv z<|mw z z<|oS hm fun e1 hC hm=>f5 _ (CallSp.lend (Hl:=[rowo k b.1.length l 9 1 B]) (fun m_ hm_ hd_ h1_ h2_=>(ad (lentR hm_ 0 z z hr ht h1_ h2_) hC).mono (fun _ _ _ h_ _ _=>h_))) z (A1 z) z en89.out z z z<|?_
  rintro _ hD _ ⟨_,rfl,rfl,rfl⟩ I
  rcases iS hm with⟨b9,hm⟩|⟨b9,hm⟩
  ·have hE:(e1)=true:=b9
   try rw [hE]
   cases hm
   exact pf z<|mv z<|un z z<|un z z<|pt z<|mv z<|un z z<|un z z<|pt z<|mv z<|un z z<|un z z<|pt z<|mv z<|un z z<|un z z<|pt z<|u1 fun a w ha hs=>⟨hD,I,cv ha,(am [] hs z)⟩
  have hF:(e1)=false:=w2 b9
  try rw [hF]
  refine pf z<|mv z<|mw z z<|pk1<|oS hm fun e2 hG hm=>f5 _ (CallSp.lend (Hl:=[rowo m b.2.1.length n 9 1 C]) (fun m_ hm_ hd_ h1_ h2_=>(ad (lentR hm_ 0 z z (g4 I hu) hv h1_ h2_) hG).mono (fun _ _ _ h_ _ _=>h_))) z (A1 z) z en89.out z z z<|?_
  rintro _ hH _ ⟨_,rfl,rfl,rfl⟩ Q
  rcases iS hm with⟨cs,hm⟩|⟨cs,hm⟩
  ·have hI:(e2)=true:=cs
   try rw [hI]
   cases hm
   exact pf z<|mv z<|un z z<|un z z<|pt z<|mv z<|un z z<|un z z<|pt z<|mv z<|un z z<|un z z<|pt z<|u1 fun a w ha hs=>⟨hH,(s0 I Q),cv ha,(am [] hs z)⟩
  have hJ:(e2)=false:=w2 cs
  try rw [hJ]
  refine pf z<|mv z<|mw z z<|pk2<|oS hm fun e3 hK hm=>f5 _ (CallSp.lend (Hl:=[rowo (bA c) ([]:List (List UInt8)).length 0 9 1 []]) (fun m_ hm_ hd_ h1_ h2_=>(ad (lentR hm_ 0 z z (g4 (s0 hq (s0 I Q)) (show Cat Kind.str F [] ([]:List (List UInt8)) from z)) (show Bnd 16 ([]:List (List UInt8)) from⟨by simp,by simp⟩) h1_ h2_) hK).mono (fun _ _ _ h_ _ _=>h_))) z (A1 z) z en89.out z z z<|?_
  rintro _ hL _ ⟨_,rfl,rfl,rfl⟩ cu
  rcases iS hm with⟨c0,hm⟩|⟨c0,hm⟩
  ·have hM:(e3)=true:=c0
   try rw [hM]
   cases hm
   exact pf z<|mv z<|un z z<|un z z<|pt z<|mv z<|un z z<|un z z<|pt z<|u1 fun a w ha hs=>⟨hL,(s0 I (s0 Q cu)),cv ha,(am [] hs z)⟩
  have hN:(e3)=false:=w2 c0
  try rw [hN]
  refine pf z<|mv z<|mw z z<|oS hm fun e4 hO hm=>f5 _ (ad r3 hO) z (A1 z) z en89.out z z z<|?_
  rintro _ hP _ ⟨rfl,rfl⟩ e5
  rcases iS hm with⟨c1,hm⟩|⟨c1,hm⟩
  ·have hQ:(e4)=true:=c1
   try rw [hQ]
   cases hm
   exact pf z<|mv z<|un z z<|un z z<|pt z<|u1 fun a w ha hs=>⟨hP,(s0 I (s0 Q (s0 cu e5))),cv ha,(am [] hs z)⟩
  have hR:(e4)=false:=w2 c1
  try rw [hR]
  refine pf z<|mv z<|mw z z<|oS hm fun iq hS hm=>f5 _ (ad r3 hS) z (A1 z) z en89.out z z z<|?_
  rintro _ hT _ ⟨rfl,rfl⟩ hU
  cases hm
  exact pf z<|u1 fun a w ha hs=>⟨hT,(s0 I (s0 Q (s0 cu (s0 e5 hU)))),cv ha,(am [] hs z)⟩
 rintro⟨b6,ir,ha,hs⟩
 refine us ha hs<|cB hm z (fun it hm=>?_) fun iu hm=>?_
 ·cases hm
  exact ssr<|sg z<|snn<|u2<|v0<|k0 z z ⟨z,z⟩ (aF [] z)
 cases hm
 exact skn<|ssr<|sg z<|snn<|u2<|k0 z z ⟨z,z⟩ (aF [] z)
theorem cx {a0:DDecls}(H:Fsl 64 KDData F d e a0.Datas) (c0:Fsl 64 KDClass F n o a0.Classes) (c1:Fsl 80 KDInst F p q a0.Insts) (hm:m_data_allTypes g a0=some r):
    CallSp Tryz.prog 90 #[.agg (bd a0 d e n o p q)] F [] (fun u F' H'=>∃I d0,u=(sl I r d0)∧Fsl 40 KDType F' I d0 r∧H'=[]):=by
 unfold m_data_allTypes at hm
 refine f1 Tryz.func90 z z fun c2 c3 c4=>ssr<|ba z fun f=>sg z<|snn<|ssr<|sg z<|snn<|oC hm (fun b h s=>∃i k t,Cat KDType F t b∧Bnd 40 b∧h [(1,pP f 0),(3,sl i b k)]∧s F [bK f (bd a0 d e n o p q) 93,rowo i b.length k 146 2 t]) (fun b hm=>?_) fun b hm a w=>?_
 ·refine ssr<|fa bq z<|ld 0 ft z<|yv (u0 fE z) z<|mv z<|snn<|t1<|lM hm (fun c h s=>∃v x y,Cat KDType F y c.1∧Bnd 40 c.1∧h [(1,pP f 0),(3,sl v c.1 x),(13,sl d a0.Datas e),(14,lV a0.Datas),(15,nV c.2)]∧s F [bK f (bd a0 d e n o p q) 93,rowo v c.1.length x 146 2 y]) ?_ ?_
  ·exact n6 146 2 fun a w ha hs=>⟨none,0,[],(show Cat KDType _ [] [] from z),r8,cv ha,(am [1,0] hs z)⟩
  rintro c c5 c6 hm J a w ⟨v,x,y,K,L,ha,hs⟩
  refine us ha hs<|ssr<|yv (r2 z z) z<|snn<|x1<|cP hm z (fun U hm=>?_) fun c7 hm=>?_
  ·refine skn<|oC hm (fun l h s=>∃A B C,Cat KDType F C l∧Bnd 40 l∧h [(1,pP f 0),(3,sl A l B),(13,sl d a0.Datas e),(14,lV a0.Datas),(15,nV c.2)]∧s F [bK f (bd a0 d e n o p q) 93,rowo A l.length B 146 2 C]) (fun l hm=>?_) fun l hm a w=>?_
   ·refine t1<|ssr<|oS hm fun M V hm=>?_
    obtain⟨c9,d1,W,X,Y⟩:=H.nidx V
    obtain⟨d2,d3,Z,a1,rfl,d4,N⟩:=DData.opn X
    refine yv (t2 W dy z z) z<|yv (v1 z (k3 Y aC)) z<|aa dS z fun d5=>sN aC z z<|snn<|ssr<|fa aU z<|ld 0 fd z<|yv (u0 fb z) z<|mv z<|snn<|t1<|lM hm (fun m h s=>∃D E G,Cat KDType F G m.1∧Bnd 40 m.1∧h [(1,pP f 0),(3,sl D m.1 E),(13,sl d a0.Datas e),(14,lV a0.Datas),(15,nV c.2),(20,sl Z M.Cons a1),(21,lV M.Cons),(22,nV m.2)]∧s F [bK f (bd a0 d e n o p q) 93,rowo D m.1.length E 146 2 G]) ?_ ?_
    ·intro a w ha hs
     exact⟨v,x,y,K,L,cv ha,(am [1,1] hs z)⟩
    rintro m d6 d7 hm P a w ⟨D,E,G,Q,a2,ha,hs⟩
    refine us ha hs<|ssr<|yv (r2 z z) z<|snn<|x1<|cP hm z (fun a3 hm=>?_) fun d8 hm=>?_
    ·refine skn<|x1<|t1<|ssr<|oS hm fun d9 a4 hm=>?_
     obtain⟨e0,e1,a5,a6,a7⟩:=N.nidx a4
     obtain⟨e2,e3,rfl,a8⟩:=DCon.opn a6
     refine yv (t2 a5 fy z z) z<|yv (v1 z (k3 a7 di)) z<|aa fv z fun e4=>sN di z z<|snn<|q0<|mv z<|fa bY z<|ld 0 cT z<|oS hm fun a9 R hm=>?_
     cases hm
     exact pk2<|pS R dz z z z z Q a8 z fun b0 b1 b2 b3=>sg z<|u1<|f2<|s4<|q0<|yv (s3 (j:=1) z z z (by have q_0:=a3;have q_1:=N.bnd.2;omega)) z<|mv z<|snn fun a w ha hs=>⟨(a9,m.2+1),aL P,b0,b1,b2,b3,(f4 R),cv ha,(am [2,0] hs z)⟩
    cases hm
    obtain rfl:=aR P
    exact u4<|p0<|p0<|u3<|f2 fun a w ha hs=>⟨D,E,G,Q,a2,cv ha,(am [0,0] hs z)⟩
   rintro⟨A,B,C,b5,b6,ha,hs⟩
   cases hm
   exact us ha hs<|q0<|yv (s3 (j:=1) z z z (by have q_0:=U;have q_1:=H.bnd.2;omega)) z<|mv z<|snn fun a w ha hs=>⟨(l,c.2+1),aL J,A,B,C,b5,b6,cv ha,(am [0,0] hs z)⟩
  cases hm
  obtain rfl:=aR J
  exact u4<|p0<|p0<|u3 fun a w ha hs=>⟨v,x,y,K,L,cv ha,(am [0,0] hs z)⟩
 rintro⟨i,k,t,b7,b8,ha,hs⟩
 refine us ha hs<|oC hm (fun S h s=>h [(3,sl i b k)]∧s F [rowo i b.length k 146 2 t]) (fun S hm=>?_) fun S hm a w=>?_
 ·refine ssr<|fa ay z<|ld 0 fG z<|yv (u0 fD z) z<|mv z<|snn<|t1<|lM hm (fun b9 h s=>h [(3,sl i b k),(33,sl n a0.Classes o),(34,lV a0.Classes),(35,iV 0)]∧s F [rowo i b.length k 146 2 t]) ?_ ?_
  ·intro a w ha hs
   exact⟨cv ha,(am [1] hs z)⟩
  rintro b9 e5 e6 hm cs a w ⟨ha,hs⟩
  refine us ha hs<|ssr<|yv (r2 z z) z<|snn<|x1<|cP hm z (fun e7 hm=>?_) fun e8 hm=>?_
  ·exact skn<|x1<|t1<|ssr<|nomatch (show(none:Option _)=some _ from hm)
  cases hm
  obtain rfl:=aR cs
  exact u4<|p0<|p0<|u3 fun a w ha hs=>⟨cv ha,(am [0] hs z)⟩
 rintro⟨ha,hs⟩
 cases hm
 exact us ha hs<|ssr<|mv z<|sg z<|snn<|u2<|fz z b7 b8 fun e9 fo cu=>k0 z z ⟨i,k,z,cu,z⟩ (aF [] z)
abbrev cw (g:Nat):Prop:=∀{F}{a0:DType}{a b}(d:Fsl 40 KDType F a b a0.Args) {r}(_:m_data_nodes g a0=some r),
    CallSp Tryz.prog 93 #[.agg #[sV a0.Name,sl a a0.Args b]] F [] (fun u F' H'=>∃c d0,u=(sl c r d0)∧Fsl 40 KDType F' c d0 r∧H'=[])
theorem eU (B:cw g):cw (g+1):=by
 intro F a0 d f q r hm
 rw [m_data_nodes] at hm
 refine f1 Tryz.func93 z z fun Z a1 a2=>ssr<|ba z fun a3=>sg z<|snn<|ssr<|lk 0 p7 z z<|v3 (e:=146) (cells:=#[sV a0.Name,sl d a0.Args f]) (A2 z) (fun _=>by kernel_rfl) z p1 fun C=>wr ([a0]:List DType) 2 z z<|sg z<|snn<|oC hm (fun c h s=>∃k l t m,m3 F m∧Cat KDType m t c∧Bnd 40 c∧h [(3,sl k c l)]∧s m [rowo k c.length l 146 2 t]) (fun c hm=>?_) fun c hm a w=>?_
 ·refine ssr<|fa ao z<|ld 1 cT z<|yv (u0 ch z) z<|mv z<|snn<|t1<|lM hm (fun b h s=>∃n o p i,m3 F i∧Cat KDType i p b.1∧Bnd 40 b.1∧h [(3,sl n b.1 o),(9,sl d a0.Args f),(10,lV a0.Args),(11,nV b.2)]∧s i [rowo n b.1.length o 146 2 p]) ?_ ?_
  ·intro a w ha hs
   exact⟨(bA C),1,[sV a0.Name,sl d a0.Args f],F,(l0 _),(show Cat KDType F [sV a0.Name,sl d a0.Args f] ([a0]:List DType) from⟨[sV a0.Name,sl d a0.Args f],_,z,(DType.of q),z⟩),(show Bnd 40 ([a0]:List DType) from⟨by simp,by simp⟩),cv ha,(am [0] hs z)⟩
  rintro b a4 a5 hm v a w ⟨n,o,p,i,u,x,D,ha,hs⟩
  refine us ha hs<|ssr<|yv (r2 z z) z<|snn<|x1<|cP hm z (fun E hm=>?_) fun a6 hm=>?_
  ·refine skn<|x1<|t1<|ssr<|oS hm fun G H hm=>?_
   obtain⟨a7,a8,I,J,K⟩:=(x0 u q).nidx H
   obtain⟨a9,b0,rfl,L⟩:=DType.opn J
   refine yv (t2 I dz z z) z<|yv (v1 z (k3 K p7)) z<|aa cm z fun b1=>sN p7 z z<|snn<|q0<|mv z<|lk 0 p7 z z<|oS hm fun b4 M hm=>cl (B (a0:=G) L M) z z<|?_
   rintro _ N _ ⟨b5,b6,rfl,P,rfl⟩ y
   refine oS hm fun Q A hm=>?_
   cases hm
   exact pk1<|pS A dz z z z z (g4 y x) P z fun R S U V=>sg z<|u1<|f2<|s4<|q0<|yv (s3 (j:=1) z z z (by have q_0:=E;have q_1:=q.bnd.2;omega)) z<|mv z<|snn fun a w ha hs=>⟨(Q,b.2+1),aL v,R,S,U,N,(s0 u y),V,(f4 A),cv ha,(am [0] hs z)⟩
  cases hm
  obtain rfl:=aR v
  exact u4<|p0<|p0<|u3 fun a w ha hs=>⟨n,o,p,i,u,x,D,cv ha,(am [0] hs z)⟩
 rintro⟨k,l,t,m,b7,W,X,ha,hs⟩
 cases hm
 exact us ha hs<|ssr<|mv z<|sg z<|snn<|u2<|fz z W X fun b8 b9 Y=>k0 z z ⟨k,l,z,Y,z⟩ (aF [] z)
theorem ce:∀{g},cw g
 |0=>by intros;rename_i hm;exact nN hm
 |_+1=>eU ce
theorem dq {a0:DType}(l:Fsl 40 KDType F e f a0.Args) (hm:m_data_isVar g a0=some r):
    CallSp Tryz.prog 94 #[.agg #[sV a0.Name,sl e a0.Args f]] F [] (fun u F' H'=>u=(.bool r)∧H'=[]):=by
 unfold m_data_isVar at hm
 refine f1 Tryz.func94 z z fun m n o=>ssr<|ba z fun p=>sg z<|snn<|oC hm (fun b h s=>∃c,m3 F c∧h [(2,.bool b)]∧s c []) (fun b hm=>?_) fun b hm a w=>?_
 ·refine q0<|fa ao z<|ld 0 cT z<|yv (u0 ch z) z<|?_
  rcases iS hm with⟨d,hm⟩|⟨d,hm⟩
  ·refine yv (t3 d (w1 z z)) z<|mv z<|fw ae z z<|lw 0 r9 z z<|oS hm fun q i hm=>f5 _ (cJ i) z (A1 z) z en84.out z z z<|?_
   rintro _ j _ ⟨rfl,rfl⟩ k
   cases hm
   exact pt z<|sg z<|u1 fun a w ha hs=>⟨j,k,cv ha,(am [] hs z)⟩
  cases hm
  exact yv (s2 d (w1 z z)) z<|mv z<|un z z<|un z z<|un z z<|pf z<|sg z<|u1 fun a w ha hs=>⟨F,(l0 _),cv ha,(am [] hs z)⟩
 rintro⟨c,t,ha,hs⟩
 cases hm
 exact us ha hs<|u2<|k0 z z ⟨z,z⟩ (aF [] z)
theorem eW {a0:DDecls}(x:Fsl 64 KDData F y A a0.Datas) (B:Fsl 64 KDClass F C D a0.Classes) (E:Fsl 80 KDInst F G H a0.Insts) (hm:m_data_named g a0 a1=some r):
    CallSp Tryz.prog 85 #[.agg (bd a0 y A C D G H),sV a1] F [] (fun u F' H'=>∃k l m n,u=(.tuple #[.agg (eJ r.1 k l m n),.bool r.2])∧Fsl 16 Kind.str F' k l r.1.Vars∧Fsl 40 KDCon F' m n r.1.Cons∧H'=[]):=by
 unfold m_data_named at hm
 refine f1 Tryz.func85 z z fun Z a2 a3=>ssr<|ba z fun a4=>aa dS z fun b=>sg z<|snn<|x1<|ssr<|mv z<|yv (v6 z z) z<|snn<|cP hm z (fun a5 hm=>?_) fun a6 hm=>?_
 ·cases hm
  exact ssr<|yv (v2 (v:=(.agg #[sV [73,110,116],nS,nS])) (A2 z) (fun _=>by kernel_rfl)) z<|sN aC z z<|sg z<|snn<|u2<|v0<|x9 z (m4 z (w5 0 aC z)) z ⟨none,0,none,0,z,r3,r3,z⟩ (aF [] z)
 refine skn<|oD hm (fun c h s=>∃o:Unit,c=.inl o∧∃d,m3 F d∧h [(4,pP b 0)]∧s d [bK b #[sV [],nS,nS] 106]) (fun c hm e=>?_) fun c e a w=>?_
 ·refine ssr<|lk 1 fJ z z<|oS hm fun p I hm=>cl (dT (a0:=a0) x B E I) z z<|?_
  rintro _ q _ ⟨J,K,rfl,t,rfl⟩ L
  refine yv (u0 fE z) z<|mv z<|snn<|t1<|lM hm (fun f h s=>h [(1,sV a1),(4,pP b 0),(12,sl J p K),(13,lV p),(14,nV f)]∧s q [bK b #[sV [],nS,nS] 106]) ?_ ?_
  ·intro a w ha hs
   exact⟨cv ha,(am [0] hs z)⟩
  rintro f a7 a8 hm i a w ⟨ha,hs⟩
  refine us ha hs<|ssr<|yv (r2 z z) z<|snn<|x1<|cP hm z (fun M hm=>?_) fun a9 hm=>?_
  ·refine skn<|x1<|t1<|ssr<|oS hm fun b0 N hm=>?_
   obtain⟨b1,b2,P,Q,R⟩:=t.nidx N
   obtain⟨S,U,V,W,rfl,X,Y⟩:=DData.opn Q
   refine yv (t2 P dy z z) z<|yv (v1 z (k3 R aC)) z<|aa dS z fun b3=>sN aC z z<|snn<|ssr<|fa dJ z<|ld 0 r9 z<|mv z<|yv (v6 z z) z<|snn<|cP hm z (fun b6 hm=>?_) fun b7 hm=>?_
   ·cases hm
    obtain rfl:=aR i
    obtain rfl:=aR e
    exact ssr<|lk 0 aC z z<|pk1<|sN aC z z<|sg z<|snn<|u2<|m2<|v0<|v0<|m2<|v0<|x9 z (m4 z (w5 0 aC z)) z ⟨S,U,V,W,z,X,Y,z⟩ (aF [] z)
   cases hm
   exact k4<|f2<|s4<|q0<|yv (s3 (j:=1) z z z (by have q_0:=M;have q_1:=t.bnd.2;omega)) z<|mv z<|snn fun a w ha hs=>⟨f+1,aL i,cv ha,(am [1] hs z)⟩
  cases hm
  obtain rfl:=aR i
  exact u4<|p0<|p0<|u3 fun a w ha hs=>⟨(),z,q,L,cv ha,(am [0] hs z)⟩
 rintro⟨o,rfl,d,b8,ha,hs⟩
 replace hm:=aL e
 cases hm
 exact us ha hs<|ssr<|yv (v2 (v:=(.agg #[sV [],nS,nS])) (vs:=#[]) (fun a _=>by simp) (fun _=>by kernel_rfl)) z<|sN aC z z<|sg z<|snn<|u2<|x9 z (m4 z (w5 0 aC z)) z ⟨none,0,none,0,z,r3,r3,z⟩ (aF [] z)
theorem dp {a0:DDecls}{a1:DType}(a3:Fsl 64 KDData F i k a0.Datas) (a4:Fsl 64 KDClass F l m a0.Classes) (a5:Fsl 80 KDInst F n o a0.Insts) (a6:Fsl 40 KDType F a7 a8 a1.Args) (hm:m_data_kinds g a0 a1 a2=some r):
    CallSp Tryz.prog 91 #[.agg (bd a0 i k l m n o),.agg #[sV a1.Name,sl a7 a1.Args a8],iV a2] F [] (fun u F' H'=>u=(iV r)∧H'=[]):=by
 unfold m_data_kinds at hm
 refine f1 Tryz.func91 z z fun c6 c7 c8=>ssr<|ba z fun b=>ba z fun c9=>sg z<|snn<|oD hm (fun A h s=>∃P:Unit,A=.inl P∧∃B,m3 F B∧h []∧s B []) (fun A hm C=>?_) fun A C a w=>?_
 ·refine ssr<|lk 0 p7 z z<|oS hm fun c a9 hm=>cl (ce (a0:=a1) a6 a9) z z<|?_
  rintro _ Q _ ⟨q,t,rfl,R,rfl⟩ v
  refine yv (u0 ch z) z<|mv z<|snn<|t1<|lM hm (fun d h s=>∃e,m3 Q e∧h [(2,iV a2),(3,pP b 0),(12,sl q c t),(13,lV c),(14,nV d)]∧s e [bK b (bd a0 i k l m n o) 93]) ?_ ?_
  ·intro a w ha hs
   exact⟨Q,(l0 _),cv ha,(am [1] hs z)⟩
  rintro d d1 d2 hm D a w ⟨e,f,ha,hs⟩
  refine us ha hs<|ssr<|yv (r2 z z) z<|snn<|x1<|cP hm z (fun b0 hm=>?_) fun d3 hm=>?_
  ·refine skn<|oD hm (fun E h s=>∃S:Unit,E=.inl S∧∃x,m3 e x∧h [(2,iV a2),(3,pP b 0),(12,sl q c t),(13,lV c),(14,nV d)]∧s x [bK b (bd a0 i k l m n o) 93]) (fun E hm G=>?_) fun E G a w=>?_
   ·refine t1<|ssr<|oS hm fun H b1 hm=>?_
    obtain⟨d4,d5,b2,b3,b4⟩:=(x0 f R).nidx b1
    obtain⟨b7,b8,rfl,b9⟩:=DType.opn b3
    refine yv (t2 b2 dz z z) z<|yv (v1 z (k3 b4 p7)) z<|aa cm z fun U=>sN p7 z z<|snn<|x1<|oC hm (fun I h s=>∃y,m3 e y∧h [(2,iV a2),(3,pP b 0),(8,pP U 0),(12,sl q c t),(13,lV c),(14,nV d),(24,.bool I)]∧s y [bK b (bd a0 i k l m n o) 93,bK U #[sV H.Name,sl b7 H.Args b8] 146]) (fun I hm=>?_) fun I hm a w=>?_
    ·refine q0<|lk 0 p7 z z<|oS hm fun V cs hm=>cl (dq (a0:=H) b9 cs) z z<|?_
     rintro _ W _ ⟨rfl,rfl⟩ X
     rcases iS hm with⟨J,hm⟩|⟨J,hm⟩
     ·have cu:(V)=true:=J
      try rw [cu]
      cases hm
      exact mv z<|un z z<|un z z<|un z z<|pt z<|u1 fun a w ha hs=>⟨W,X,cv ha,(am [1,0] hs z)⟩
     have c0:(V)=false:=w2 J
     try rw [c0]
     cases hm
     exact mv z<|fw ae z z<|lw 0 r9 z z<|yw (v6 z z) z z<|pf z<|u1 fun a w ha hs=>⟨W,X,cv ha,(am [1,0] hs z)⟩
    rintro⟨y,p,ha,hs⟩
    refine us ha hs<|cB hm z (fun d6 hm=>?_) fun d7 hm=>?_
    ·cases hm
     exact u4<|p0<|u3 fun a w ha hs=>⟨(),z,y,p,cv ha,(am [0] hs z)⟩
    refine skn<|ssr<|lk 0 fJ z z<|fa ae z<|ld 1 r9 z<|oS hm fun Y c1 hm=>cl (eW (a0:=a0) (x0 (s0 v (s0 f p)) a3) (x0 (s0 v (s0 f p)) a4) (x0 (s0 v (s0 f p)) a5) c1) z z<|?_
    rintro _ Z _ ⟨d8,d9,e0,e1,rfl,e2,e3,rfl⟩ c2
    refine mv z<|yv (r0 z z) z<|yv (r0 z z) z<|aa dS z fun e4=>sN aC z z<|sg z<|snn<|oC hm (fun K h s=>h [(2,iV a2),(3,pP b 0),(12,sl q c t),(13,lV c),(14,nV d),(53,.bool K)]∧s Z [bK b (bd a0 i k l m n o) 93]) (fun K hm=>?_) fun K hm a w=>?_
    ·refine q0<|?_
     rcases iS hm with⟨L,hm⟩|⟨L,hm⟩
     ·have c3:(Y.2)=true:=L
      try rw [c3]
      refine mv z<|yv (v7 z) z<|mv z<|un z z<|un z z<|pf z<|mv z<|mw z z<|mw z z<|mw z z<|?_
      rcases iS hm with⟨M,hm⟩|⟨M,hm⟩
      ·cases hm
       exact yw (t3 M (w1 z z)) z z<|yw (f3 z z) z z<|mw z z<|fw ao z z<|lw 2 cT z z<|yw (u0 ch z) z z<|fw bZ z z<|lw 0 aJ z z<|yw (u0 bj z) z z<|yw (p4 z z) z z<|yw (f3 z z) z z<|pf z<|u1<|eN [1] z
      cases hm
      exact yw (s2 M (w1 z z)) z z<|yw (f3 z z) z z<|mw z z<|un z z<|un z z<|un z z<|un z z<|un z z<|un z z<|un z z<|yw (n3 z z) z z<|pf z<|u1<|eN [1] z
     have c4:(Y.2)=false:=w2 L
     try rw [c4]
     refine mv z<|yv (an z) z<|mv z<|mw z z<|?_
     rcases iS hm with⟨N,hm⟩|⟨N,hm⟩
     ·cases hm
      exact yw (t3 N (w1 z z)) z z<|pt z<|mv z<|un z z<|un z z<|k2 p1 z z<|k2 p1 z z<|un z z<|un z z<|k2 p1 z z<|k2 p1 z z<|k2 p1 z z<|k2 p1 z z<|k2 p1 z z<|k2 p1 z z<|k2 p1 z z<|un z z<|pt z<|u1<|eN [1] z
     cases hm
     exact yw (s2 N (w1 z z)) z z<|pt z<|mv z<|mw z z<|mw z z<|un z z<|un z z<|yw (n3 z z) z z<|mw z z<|un z z<|un z z<|un z z<|un z z<|un z z<|un z z<|un z z<|yw (n3 z z) z z<|pf z<|u1<|eN [1] z
    rintro⟨ha,hs⟩
    refine us ha hs<|cB hm z (fun e5 hm=>?_) fun e6 hm=>?_
    ·cases hm
     obtain rfl:=aR G
     obtain rfl:=aR D
     obtain rfl:=aR C
     exact ssr<|mv z<|sg z<|snn<|u2<|m2<|v0<|v0<|m2<|v0<|k0 z z ⟨z,z⟩ (aF [] z)
    cases hm
    exact k4<|f2 fun a w ha hs=>⟨(),z,Z,(s0 p c2),cv ha,(am [0] hs z)⟩
   rintro⟨S,rfl,x,c5,ha,hs⟩
   replace hm:=aL G
   cases hm
   exact us ha hs<|q0<|yv (s3 (j:=1) z z z (by have q_0:=b0;have q_1:=R.bnd.2;omega)) z<|mv z<|snn fun a w ha hs=>⟨d+1,aL D,x,(s0 f c5),cv ha,(am [0] hs z)⟩
  cases hm
  obtain rfl:=aR D
  exact u4<|p0<|p0<|u3 fun a w ha hs=>⟨(),z,e,(s0 v f),cv ha,(am [] hs z)⟩
 rintro⟨P,rfl,B,e7,ha,hs⟩
 replace hm:=aL C
 cases hm
 exact us ha hs<|ssr<|sg z<|snn<|u2<|k0 z z ⟨z,z⟩ (aF [] z)
theorem ff {a0:DDecls}(A:Fsl 64 KDData F k l a0.Datas) (B:Fsl 64 KDClass F c d a0.Classes) (C:Fsl 80 KDInst F e f a0.Insts) (hm:m_data_none g a0=some r):
    CallSp Tryz.prog 63 #[.agg (bd a0 k l c d e f)] F [] (fun u F' H'=>u=(iV r)∧H'=[]):=by
 unfold m_data_none at hm
 refine f1 Tryz.func63 z z fun a6 a7 a8=>ssr<|ba z fun b=>sg z<|snn<|oD hm (fun p h s=>∃D:Unit,p=.inl D∧∃i,m3 F i∧h [(1,pP b 0)]∧s i [bK b (bd a0 k l c d e f) 93]) (fun p hm q=>?_) fun p q a w=>?_
 ·refine ssr<|lk 0 fJ z z<|oS hm fun E L hm=>cl (cx (a0:=a0) A B C L) z z<|?_
  rintro _ G _ ⟨M,N,rfl,H,rfl⟩ n
  refine yv (u0 ch z) z<|mv z<|snn<|t1<|lM hm (fun t h s=>∃o,m3 G o∧h [(1,pP b 0),(16,sl M E N),(17,lV E),(18,nV t)]∧s o [bK b (bd a0 k l c d e f) 93]) ?_ ?_
  ·intro a w ha hs
   exact⟨G,(l0 _),cv ha,(am [0] hs z)⟩
  rintro t a9 b0 hm v a w ⟨o,m,ha,hs⟩
  refine us ha hs<|ssr<|yv (r2 z z) z<|snn<|x1<|cP hm z (fun P hm=>?_) fun b1 hm=>?_
  ·refine skn<|x1<|t1<|ssr<|oS hm fun Q R hm=>?_
   obtain⟨b2,b3,S,U,V⟩:=(x0 m H).nidx R
   obtain⟨b5,b6,rfl,W⟩:=DType.opn U
   refine yv (t2 S dz z z) z<|yv (v1 z (k3 V p7)) z<|aa cm z fun b7=>sN p7 z z<|snn<|ssr<|lk 1 fJ z z<|lk 0 p7 z z<|oS hm fun I X hm=>cl (dp (a0:=a0) (a1:=Q) (x0 (s0 n m) A) (x0 (s0 n m) B) (x0 (s0 n m) C) W X) z z<|?_
   rintro _ Y _ ⟨rfl,rfl⟩ Z
   refine yv (p4 z z) z<|snn<|?_
   refine m5 z ?_ ?_
   ·intro x
    replace x:¬(I=0):=nd_t x
    replace hm:=iF hm x
    cases hm
    obtain rfl:=aR v
    obtain rfl:=aR q
    exact ssr<|sg z<|snn<|u2<|m2<|v0<|v0<|m2<|v0<|k0 z z ⟨z,z⟩ (aF [] z)
   intro y
   replace y:I=0:=nd_f y
   replace hm:=iT hm y
   cases hm
   exact k4<|f2<|s4<|q0<|yv (s3 (j:=1) z z z (by have q_0:=P;have q_1:=H.bnd.2;omega)) z<|mv z<|snn fun a w ha hs=>⟨t+1,aL v,Y,(s0 m Z),cv ha,(am [1] hs z)⟩
  cases hm
  obtain rfl:=aR v
  exact u4<|p0<|p0<|u3 fun a w ha hs=>⟨(),z,o,(s0 n m),cv ha,(am [0] hs z)⟩
 rintro⟨D,rfl,i,b8,ha,hs⟩
 replace hm:=aL q
 refine us ha hs<|oC hm (fun J h s=>h [(1,pP b 0)]∧s i [bK b (bd a0 k l c d e f) 93]) (fun J hm=>?_) fun J hm a w=>?_
 ·refine ssr<|fa ay z<|ld 0 fG z<|yv (u0 fD z) z<|mv z<|snn<|t1<|lM hm (fun a2 h s=>h [(1,pP b 0),(28,sl c a0.Classes d),(29,lV a0.Classes),(30,iV 0)]∧s i [bK b (bd a0 k l c d e f) 93]) ?_ ?_
  ·intro a w ha hs
   exact⟨cv ha,(am [0] hs z)⟩
  rintro a2 b9 cs hm a3 a w ⟨ha,hs⟩
  refine us ha hs<|ssr<|yv (r2 z z) z<|snn<|x1<|cP hm z (fun cu hm=>?_) fun c0 hm=>?_
  ·exact skn<|x1<|t1<|ssr<|nomatch (show(none:Option _)=some _ from hm)
  cases hm
  obtain rfl:=aR a3
  exact u4<|p0<|p0<|u3 fun a w ha hs=>⟨cv ha,(am [0] hs z)⟩
 rintro⟨ha,hs⟩
 refine us ha hs<|oC hm (fun K h s=>h []∧s i []) (fun K hm=>?_) fun K hm a w=>?_
 ·refine ssr<|fa bU z<|ld 0 gd z<|yv (u0 gc z) z<|mv z<|snn<|t1<|lM hm (fun a4 h s=>h [(1,pP b 0),(48,sl e a0.Insts f),(49,lV a0.Insts),(50,iV 0)]∧s i [bK b (bd a0 k l c d e f) 93]) ?_ ?_
  ·intro a w ha hs
   exact⟨cv ha,(am [0] hs z)⟩
  rintro a4 c1 c2 hm a5 a w ⟨ha,hs⟩
  refine us ha hs<|ssr<|yv (r2 z z) z<|snn<|x1<|cP hm z (fun c3 hm=>?_) fun c4 hm=>?_
  ·exact skn<|x1<|t1<|ssr<|nomatch (show(none:Option _)=some _ from hm)
  cases hm
  obtain rfl:=aR a5
  exact u4<|p0<|p0<|u3 fun a w ha hs=>⟨cv ha,(am [] hs z)⟩
 rintro⟨ha,hs⟩
 cases hm
 exact us ha hs<|ssr<|sg z<|snn<|u2<|k0 z z ⟨z,z⟩ (aF [] z)
theorem fu {a0:DDecls}(B:Fsl 64 KDData F f i a0.Datas) (c1:Fsl 64 KDClass F S U a0.Classes) (c2:Fsl 80 KDInst F V W a0.Insts) (hm:m_data_fit g a0=some r):
    CallSp Tryz.prog 64 #[.agg (bd a0 f i S U V W)] F [] (fun u F' H'=>u=(iV r)∧H'=[]):=by
 unfold m_data_fit at hm
 refine f1 Tryz.func64 z z fun hB hC hD=>ssr<|ba z fun C=>sg z<|snn<|oD hm (fun X h s=>∃c3:Unit,X=.inl c3∧∃p,m3 F p∧h [(1,pP C 0)]∧s p [bK C (bd a0 f i S U V W) 93]) (fun X hm Y=>?_) fun X Y a w=>?_
 ·refine ssr<|lk 0 fJ z z<|oS hm fun c4 e1 hm=>cl (cx (a0:=a0) B c1 c2 e1) z z<|?_
  rintro _ c5 _ ⟨e2,e3,rfl,c6,rfl⟩ D
  refine yv (u0 ch z) z<|mv z<|snn<|t1<|lM hm (fun Z h s=>∃E,m3 c5 E∧h [(1,pP C 0),(14,sl e2 c4 e3),(15,lV c4),(16,nV Z)]∧s E [bK C (bd a0 f i S U V W) 93]) ?_ ?_
  ·intro a w ha hs
   exact⟨c5,(l0 _),cv ha,(am [0] hs z)⟩
  rintro Z hE hF hm a2 a w ⟨E,q,ha,hs⟩
  refine us ha hs<|ssr<|yv (r2 z z) z<|snn<|x1<|cP hm z (fun e4 hm=>?_) fun hG hm=>?_
  ·refine skn<|x1<|t1<|ssr<|oS hm fun e5 e6 hm=>?_
   obtain⟨hH,hI,e7,e8,e9⟩:=(x0 q c6).nidx e6
   obtain⟨hJ,hK,rfl,fo⟩:=DType.opn e8
   refine yv (t2 e7 dz z z) z<|yv (v1 z (k3 e9 p7)) z<|aa cm z fun hL=>sN p7 z z<|snn<|ssr<|lk 1 fJ z z<|lk 0 p7 z z<|oS hm fun c7 f0 hm=>cl (dp (a0:=a0) (a1:=e5) (x0 (s0 D q) B) (x0 (s0 D q) c1) (x0 (s0 D q) c2) fo f0) z z<|?_
   rintro _ gP _ ⟨rfl,rfl⟩ gQ
   refine yv (p4 z z) z<|snn<|?_
   refine m5 z ?_ ?_
   ·intro a3
    replace a3:¬(c7=0):=nd_t a3
    replace hm:=iF hm a3
    cases hm
    obtain rfl:=aR a2
    obtain rfl:=aR Y
    exact ssr<|sg z<|snn<|u2<|m2<|v0<|v0<|m2<|v0<|k0 z z ⟨z,z⟩ (aF [] z)
   intro a4
   replace a4:c7=0:=nd_f a4
   replace hm:=iT hm a4
   cases hm
   exact k4<|f2<|s4<|q0<|yv (s3 (j:=1) z z z (by have q_0:=e4;have q_1:=c6.bnd.2;omega)) z<|mv z<|snn fun a w ha hs=>⟨Z+1,aL a2,gP,(s0 q gQ),cv ha,(am [1] hs z)⟩
  cases hm
  obtain rfl:=aR a2
  exact u4<|p0<|p0<|u3 fun a w ha hs=>⟨(),z,E,(s0 D q),cv ha,(am [0] hs z)⟩
 rintro⟨c3,rfl,p,gR,ha,hs⟩
 replace hm:=aL Y
 refine us ha hs<|oD hm (fun a5 h s=>∃c8:Unit,a5=.inl c8∧∃a6,m3 p a6∧h []∧s a6 []) (fun a5 hm a7=>?_) fun a5 a7 a w=>?_
 ·refine ssr<|fa bq z<|ld 0 ft z<|yv (u0 fE z) z<|mv z<|snn<|t1<|lM hm (fun k h s=>∃n,m3 p n∧h [(26,sl f a0.Datas i),(27,lV a0.Datas),(28,nV k)]∧s n []) ?_ ?_
  ·intro a w ha hs
   exact⟨p,(l0 _),cv ha,(am [] hs z)⟩
  rintro k hM hN hm a8 a w ⟨n,a9,ha,hs⟩
  refine us ha hs<|ssr<|yv (r2 z z) z<|snn<|x1<|cP hm z (fun gS hm=>?_) fun hO hm=>?_
  ·refine skn<|oD hm (fun b0 h s=>∃c9:Unit,b0=.inl c9∧∃G,m3 n G∧h [(26,sl f a0.Datas i),(27,lV a0.Datas),(28,nV k)]∧s G []) (fun b0 hm b1=>?_) fun b0 b1 a w=>?_
   ·refine t1<|ssr<|oS hm fun b gT hm=>?_
    obtain⟨hP,hQ,gU,gV,gW⟩:=(x0 (s0 gR a9) B).nidx gT
    obtain⟨t,v,c,d,rfl,gX,d1⟩:=DData.opn gV
    refine yv (t2 gU dy z z) z<|yv (v1 z (k3 gW aC)) z<|aa dS z fun e=>sN aC z z<|snn<|ssr<|fa aU z<|ld 0 fd z<|yv (u0 fb z) z<|mv z<|snn<|t1<|lM hm (fun l h s=>∃o,m3 n o∧h [(6,pP e 0),(26,sl f a0.Datas i),(27,lV a0.Datas),(28,nV k),(33,sl c b.Cons d),(34,lV b.Cons),(35,nV l)]∧s o [bK e (eJ b t v c d) 106]) ?_ ?_
    ·intro a w ha hs
     exact⟨n,(l0 _),cv ha,(am [0] hs z)⟩
    rintro l hR hS hm b2 a w ⟨o,H,ha,hs⟩
    refine us ha hs<|ssr<|yv (r2 z z) z<|snn<|x1<|cP hm z (fun gY hm=>?_) fun hT hm=>?_
    ·refine skn<|oD hm (fun b3 h s=>∃d2:Unit,b3=.inl d2∧∃I,m3 o I∧h [(6,pP e 0),(26,sl f a0.Datas i),(27,lV a0.Datas),(28,nV k),(33,sl c b.Cons d),(34,lV b.Cons),(35,nV l)]∧s I [bK e (eJ b t v c d) 106]) (fun b3 hm b5=>?_) fun b3 b5 a w=>?_
     ·refine t1<|ssr<|oS hm fun m gZ hm=>?_
      obtain⟨hU,hV,g0,g1,g2⟩:=(x0 H d1).nidx gZ
      obtain⟨J,K,rfl,d3⟩:=DCon.opn g1
      refine yv (t2 g0 fy z z) z<|yv (v1 z (k3 g2 di)) z<|aa fv z fun hW=>sN di z z<|snn<|ssr<|fa bY z<|ld 0 cT z<|yv (u0 ch z) z<|mv z<|snn<|t1<|lM hm (fun x h s=>∃y,m3 o y∧h [(6,pP e 0),(26,sl f a0.Datas i),(27,lV a0.Datas),(28,nV k),(33,sl c b.Cons d),(34,lV b.Cons),(35,nV l),(40,sl J m.Args K),(41,lV m.Args),(42,nV x)]∧s y [bK e (eJ b t v c d) 106]) ?_ ?_
      ·intro a w ha hs
       exact⟨o,(l0 _),cv ha,(am [1] hs z)⟩
      rintro x hX hY hm b6 a w ⟨y,L,ha,hs⟩
      refine us ha hs<|ssr<|yv (r2 z z) z<|snn<|x1<|cP hm z (fun g3 hm=>?_) fun hZ hm=>?_
      ·refine skn<|oD hm (fun b7 h s=>∃d4:Unit,b7=.inl d4∧∃M,m3 y M∧h [(6,pP e 0),(26,sl f a0.Datas i),(27,lV a0.Datas),(28,nV k),(33,sl c b.Cons d),(34,lV b.Cons),(35,nV l),(40,sl J m.Args K),(41,lV m.Args),(42,nV x)]∧s M [bK e (eJ b t v c d) 106]) (fun b7 hm b8=>?_) fun b7 b8 a w=>?_
       ·refine t1<|ssr<|oS hm fun g7 hb hm=>?_
        obtain⟨h0,h1,hc,hd,he⟩:=(x0 L d3).nidx hb
        obtain⟨h2,h3,rfl,hf⟩:=DType.opn hd
        refine yv (t2 hc dz z z) z<|yv (v1 z (k3 he p7)) z<|aa cm z fun h4=>sN p7 z z<|snn<|ssr<|lk 0 p7 z z<|oS hm fun N hg hm=>cl (ce (a0:=g7) hf hg) z z<|?_
        rintro _ d5 _ ⟨d6,d7,rfl,d8,rfl⟩ d9
        refine yv (u0 ch z) z<|mv z<|snn<|t1<|lM hm (fun P h s=>∃A,m3 d5 A∧h [(6,pP e 0),(26,sl f a0.Datas i),(27,lV a0.Datas),(28,nV k),(33,sl c b.Cons d),(34,lV b.Cons),(35,nV l),(40,sl J m.Args K),(41,lV m.Args),(42,nV x),(47,sl d6 N d7),(48,lV N),(49,nV P)]∧s A [bK e (eJ b t v c d) 106]) ?_ ?_
        ·intro a w ha hs
         exact⟨d5,(l0 _),cv ha,(am [1] hs z)⟩
        rintro P h5 h6 hm b9 a w ⟨A,Q,ha,hs⟩
        refine us ha hs<|ssr<|yv (r2 z z) z<|snn<|x1<|cP hm z (fun hh hm=>?_) fun h7 hm=>?_
        ·refine skn<|x1<|t1<|ssr<|oS hm fun hi hj hm=>?_
         obtain⟨h8,h9,hk,hl,hn⟩:=(x0 Q d8).nidx hj
         obtain⟨ia,ib,rfl,ho⟩:=DType.opn hl
         refine yv (t2 hk dz z z) z<|yv (v1 z (k3 hn p7)) z<|aa cm z fun ic=>sN p7 z z<|snn<|oC hm (fun cs h s=>∃R,m3 A R∧h [(6,pP e 0),(26,sl f a0.Datas i),(27,lV a0.Datas),(28,nV k),(33,sl c b.Cons d),(34,lV b.Cons),(35,nV l),(40,sl J m.Args K),(41,lV m.Args),(42,nV x),(47,sl d6 N d7),(48,lV N),(49,nV P),(62,.bool cs)]∧s R [bK e (eJ b t v c d) 106]) (fun cs hm=>?_) fun cs hm a w=>?_
         ·refine q0<|lk 0 p7 z z<|oS hm fun e0 hp hm=>cl (dq (a0:=hi) ho hp) z z<|?_
          rintro _ hq _ ⟨rfl,rfl⟩ cu
          rcases iS hm with⟨c0,hm⟩|⟨c0,hm⟩
          ·have hr:(e0)=true:=c0
           try rw [hr]
           refine mv z<|fw bZ z z<|lw 1 aJ z z<|fw ae z z<|lw 0 r9 z z<|oS hm fun ie ht hm=>f5 _ (k9 (x0 (s0 H (s0 L (s0 d9 (s0 Q cu)))) gX) ht) z (A1 z) z en86.out z z z<|?_
           rintro _ hu _ ⟨rfl,rfl⟩ hv
           cases hm
           exact yw (p5 z) z z<|pt z<|u1 fun a w ha hs=>⟨hu,(s0 cu hv),cv ha,(am [1] hs z)⟩
          have hw:(e0)=false:=w2 c0
          try rw [hw]
          cases hm
          exact mv z<|un z z<|un z z<|un z z<|un z z<|un z z<|un z z<|pf z<|u1 fun a w ha hs=>⟨hq,cu,cv ha,(am [1] hs z)⟩
         rintro⟨R,hx,ha,hs⟩
         refine us ha hs<|cB hm z (fun ig hm=>?_) fun ih hm=>?_
         ·cases hm
          obtain rfl:=aR b9
          obtain rfl:=aR b8
          obtain rfl:=aR b6
          obtain rfl:=aR b5
          obtain rfl:=aR b2
          obtain rfl:=aR b1
          obtain rfl:=aR a8
          obtain rfl:=aR a7
          exact ssr<|sg z<|snn<|u2<|m2<|v0<|v0<|m2<|m2<|v0<|v0<|m2<|m2<|v0<|v0<|m2<|m2<|v0<|v0<|m2<|v0<|k0 z z ⟨z,z⟩ (aF [] z)
         cases hm
         exact k4<|f2<|s4<|q0<|yv (s3 (j:=1) z z z (by have q_0:=hh;have q_1:=d8.bnd.2;omega)) z<|mv z<|snn fun a w ha hs=>⟨P+1,aL b9,R,(s0 Q hx),cv ha,(am [0] hs z)⟩
        cases hm
        obtain rfl:=aR b9
        exact u4<|p0<|p0<|u3<|f2 fun a w ha hs=>⟨(),z,A,(s0 d9 Q),cv ha,(am [0] hs z)⟩
       rintro⟨d4,rfl,M,hy,ha,hs⟩
       replace hm:=aL b8
       cases hm
       exact us ha hs<|q0<|yv (s3 (j:=1) z z z (by have q_0:=g3;have q_1:=d3.bnd.2;omega)) z<|mv z<|snn fun a w ha hs=>⟨x+1,aL b6,M,(s0 L hy),cv ha,(am [0] hs z)⟩
      cases hm
      obtain rfl:=aR b6
      exact u4<|p0<|p0<|u3<|f2 fun a w ha hs=>⟨(),z,y,L,cv ha,(am [0] hs z)⟩
     rintro⟨d2,rfl,I,hz,ha,hs⟩
     replace hm:=aL b5
     cases hm
     exact us ha hs<|q0<|yv (s3 (j:=1) z z z (by have q_0:=gY;have q_1:=d1.bnd.2;omega)) z<|mv z<|snn fun a w ha hs=>⟨l+1,aL b2,I,(s0 H hz),cv ha,(am [0] hs z)⟩
    cases hm
    obtain rfl:=aR b2
    exact u4<|p0<|p0<|u3<|f2 fun a w ha hs=>⟨(),z,o,H,cv ha,(am [] hs z)⟩
   rintro⟨c9,rfl,G,hA,ha,hs⟩
   replace hm:=aL b1
   cases hm
   exact us ha hs<|q0<|yv (s3 (j:=1) z z z (by have q_0:=gS;have q_1:=B.bnd.2;omega)) z<|mv z<|snn fun a w ha hs=>⟨k+1,aL a8,G,(s0 a9 hA),cv ha,(am [] hs z)⟩
  cases hm
  obtain rfl:=aR a8
  exact u4<|p0<|p0<|u3 fun a w ha hs=>⟨(),z,n,a9,cv ha,(am [] hs z)⟩
 rintro⟨c8,rfl,a6,ii,ha,hs⟩
 replace hm:=aL a7
 cases hm
 exact us ha hs<|ssr<|sg z<|snn<|u2<|k0 z z ⟨z,z⟩ (aF [] z)
theorem fg {a0:DDecls}(n:Fsl 64 KDData F d e a0.Datas) (o:Fsl 64 KDClass F b c a0.Classes) (p:Fsl 80 KDInst F f i a0.Insts) (hm:m_data_loop g a0=some r):
    CallSp Tryz.prog 65 #[.agg (bd a0 d e b c f i)] F [] (fun u F' H'=>u=(iV r)∧H'=[]):=by
 unfold m_data_loop at hm
 refine f1 Tryz.func65 z z fun q t v=>ssr<|ba z fun j=>sg z<|snn<|oC hm (fun k h s=>h []∧s F []) (fun k hm=>?_) fun k hm a w=>?_
 ·refine ssr<|fa ay z<|ld 0 fG z<|yv (u0 fD z) z<|mv z<|snn<|t1<|lM hm (fun l h s=>h [(1,pP j 0),(6,sl b a0.Classes c),(7,lV a0.Classes),(8,iV 0)]∧s F [bK j (bd a0 d e b c f i) 93]) ?_ ?_
  ·intro a w ha hs
   exact⟨cv ha,(am [0] hs z)⟩
  rintro l x y hm m a w ⟨ha,hs⟩
  refine us ha hs<|ssr<|yv (r2 z z) z<|snn<|x1<|cP hm z (fun A hm=>?_) fun B hm=>?_
  ·exact skn<|x1<|t1<|ssr<|nomatch (show(none:Option _)=some _ from hm)
  cases hm
  obtain rfl:=aR m
  exact u4<|p0<|p0<|u3 fun a w ha hs=>⟨cv ha,(am [] hs z)⟩
 rintro⟨ha,hs⟩
 cases hm
 exact us ha hs<|ssr<|sg z<|snn<|u2<|k0 z z ⟨z,z⟩ (aF [] z)
theorem fe {a0:DDecls}(q:Fsl 64 KDData F i j a0.Datas) (t:Fsl 64 KDClass F c d a0.Classes) (v:Fsl 80 KDInst F e f a0.Insts) (hm:m_data_rule g a0=some r):
    CallSp Tryz.prog 66 #[.agg (bd a0 i j c d e f)] F [] (fun u F' H'=>u=(iV r)∧H'=[]):=by
 unfold m_data_rule at hm
 refine f1 Tryz.func66 z z fun x y A=>ssr<|ba z fun b=>sg z<|snn<|oC hm (fun k h s=>h [(1,pP b 0)]∧s F [bK b (bd a0 i j c d e f) 93]) (fun k hm=>?_) fun k hm a w=>?_
 ·refine ssr<|fa ay z<|ld 0 fG z<|yv (u0 fD z) z<|mv z<|snn<|t1<|lM hm (fun m h s=>h [(1,pP b 0),(13,sl c a0.Classes d),(14,lV a0.Classes),(15,iV 0)]∧s F [bK b (bd a0 i j c d e f) 93]) ?_ ?_
  ·intro a w ha hs
   exact⟨cv ha,(am [0] hs z)⟩
  rintro m B C hm n a w ⟨ha,hs⟩
  refine us ha hs<|ssr<|yv (r2 z z) z<|snn<|x1<|cP hm z (fun D hm=>?_) fun E hm=>?_
  ·exact skn<|x1<|t1<|ssr<|nomatch (show(none:Option _)=some _ from hm)
  cases hm
  obtain rfl:=aR n
  exact u4<|p0<|p0<|u3 fun a w ha hs=>⟨cv ha,(am [0] hs z)⟩
 rintro⟨ha,hs⟩
 refine us ha hs<|oC hm (fun l h s=>h []∧s F []) (fun l hm=>?_) fun l hm a w=>?_
 ·refine ssr<|fa bU z<|ld 0 gd z<|yv (u0 gc z) z<|mv z<|snn<|t1<|lM hm (fun o h s=>h [(1,pP b 0),(34,sl e a0.Insts f),(35,lV a0.Insts),(36,iV 0)]∧s F [bK b (bd a0 i j c d e f) 93]) ?_ ?_
  ·intro a w ha hs
   exact⟨cv ha,(am [0] hs z)⟩
  rintro o G H hm p a w ⟨ha,hs⟩
  refine us ha hs<|ssr<|yv (r2 z z) z<|snn<|x1<|cP hm z (fun I hm=>?_) fun J hm=>?_
  ·exact skn<|x1<|t1<|ssr<|nomatch (show(none:Option _)=some _ from hm)
  cases hm
  obtain rfl:=aR p
  exact u4<|p0<|p0<|u3 fun a w ha hs=>⟨cv ha,(am [] hs z)⟩
 rintro⟨ha,hs⟩
 cases hm
 exact us ha hs<|ssr<|sg z<|snn<|u2<|k0 z z ⟨z,z⟩ (aF [] z)
theorem fL (hf:f∈[59,60,61,62,63,64,65,66]):Enters Tryz.prog f:=by
 simp only [List.mem_cons,List.not_mem_nil,or_false] at hf
 rcases hf with rfl|rfl|rfl|rfl|rfl|rfl|rfl|rfl
 ·exact en59.out
 ·exact en60.out
 ·exact en61.out
 ·exact en62.out
 ·exact en63.out
 ·exact en64.out
 ·exact en65.out
 exact en66.out
theorem fK {g f:Nat}(hf:f∈[59,60,61,62,63,64,65,66]) {a0:DDecls}(a:Fsl 64 KDData F d e a0.Datas) (b:Fsl 64 KDClass F h i a0.Classes) (c:Fsl 80 KDInst F j k a0.Insts) (hm:m_table1 g f a0=some r):
    CallSp Tryz.prog f #[.agg (bd a0 d e h i j k)] F [] (fun u F' H'=>u=(iV r)∧H'=[]):=by
 simp only [List.mem_cons,List.not_mem_nil,or_false] at hf
 unfold m_table1 at hm
 rcases hf with rfl|rfl|rfl|rfl|rfl|rfl|rfl|rfl
 ·exact eX a b c (iT hm z)
 ·exact fh a b c (iT (iF hm (by decide)) z)
 ·exact eT a b c (iT (iF (iF hm (by decide)) (by decide)) z)
 ·exact eS a b c (iT (iF (iF (iF hm (by decide)) (by decide)) (by decide)) z)
 ·exact ff a b c (iT (iF (iF (iF (iF hm (by decide)) (by decide)) (by decide)) (by decide)) z)
 ·exact fu a b c (iT (iF (iF (iF (iF (iF hm (by decide)) (by decide)) (by decide)) (by decide)) (by decide)) z)
 ·exact fg a b c (iT (iF (iF (iF (iF (iF (iF hm (by decide)) (by decide)) (by decide)) (by decide)) (by decide)) (by decide)) z)
 exact fe a b c (iT (iF (iF (iF (iF (iF (iF (iF hm (by decide)) (by decide)) (by decide)) (by decide)) (by decide)) (by decide)) (by decide)) z)
theorem dY {a0:DDecls}(G:Fsl 64 KDData F p q a0.Datas) (H:Fsl 64 KDClass F t v a0.Classes) (I:Fsl 80 KDInst F x y a0.Insts) (hm:m_data_Validate g a0=some r):
    CallSp Tryz.prog 33 #[.agg (bd a0 p q t v x y)] F [] (fun u F' H'=>u=(iV r)∧H'=[]):=by
 unfold m_data_Validate at hm
 refine f1 Tryz.func33 z z fun U V W=>ssr<|ba z fun A=>sg z<|snn<|oD hm (fun d h s=>∃B:Unit,d=.inl B∧∃f,m3 F f∧h []∧s f []) (fun d hm i=>?_) fun d i a w=>?_
 ·refine ssr<|v3 (e:=89) (cells:=#[.func (.func 59) #[] #[],.func (.func 60) #[] #[],.func (.func 61) #[] #[],.func (.func 62) #[] #[],.func (.func 63) #[] #[],.func (.func 64) #[] #[],.func (.func 65) #[] #[],.func (.func 66) #[] #[]]) (A2 z) (fun _=>by kernel_rfl) z p1 fun C=>wr ([59,60,61,62,63,64,65,66]:List Nat) 1 z z<|yv (u0 gD z) z<|mv z<|snn<|t1<|lM hm (fun k h s=>∃c,m3 F c∧h [(1,pP A 0),(6,.slice (bA C) ([59,60,61,62,63,64,65,66]:List Nat).length 8),(7,iV (nI (([59,60,61,62,63,64,65,66]:List Nat).length))),(8,nV k)]∧s c [bK A (bd a0 p q t v x y) 93,rowo (bA C) ([59,60,61,62,63,64,65,66]:List Nat).length 8 89 1 [.func (.func 59) #[] #[],.func (.func 60) #[] #[],.func (.func 61) #[] #[],.func (.func 62) #[] #[],.func (.func 63) #[] #[],.func (.func 64) #[] #[],.func (.func 65) #[] #[],.func (.func 66) #[] #[]]]) ?_ ?_
  ·intro a w ha hs
   exact⟨F,(l0 _),cv ha,(am [1,0] hs z)⟩
  rintro k X Y hm l a w ⟨c,b,ha,hs⟩
  refine us ha hs<|ssr<|yv (r2 z z) z<|snn<|x1<|cP hm z (fun J hm=>?_) fun Z hm=>?_
  ·refine skn<|x1<|t1<|ssr<|oS hm fun D m hm=>?_
   obtain⟨K,L,a1,M,N⟩:=(g4 b (show Cat Kfn F [.func (.func 59) #[] #[],.func (.func 60) #[] #[],.func (.func 61) #[] #[],.func (.func 62) #[] #[],.func (.func 63) #[] #[],.func (.func 64) #[] #[],.func (.func 65) #[] #[],.func (.func 66) #[] #[]] ([59,60,61,62,63,64,65,66]:List Nat) from⟨[.func (.func 59) #[] #[]],_,z,z,⟨[.func (.func 60) #[] #[]],_,z,z,⟨[.func (.func 61) #[] #[]],_,z,z,⟨[.func (.func 62) #[] #[]],_,z,z,⟨[.func (.func 63) #[] #[]],_,z,z,⟨[.func (.func 64) #[] #[]],_,z,z,⟨[.func (.func 65) #[] #[]],_,z,z,⟨[.func (.func 66) #[] #[]],_,z,z,z⟩⟩⟩⟩⟩⟩⟩⟩)).nidx m
   obtain rfl:=M
   refine s9 1 z (by omega) fun P=>yv (t2 (f8 P K L) gE z z) z<|yv (v1 z (aI 1 z gO (N 0 _ z))) z<|sg z<|snn<|ssr<|mv z<|lk 0 fJ z z<|oS hm fun E Q hm=>f5 _ (fK (a0:=a0) (show D∈[59,60,61,62,63,64,65,66] from List.mem_of_getElem? m) (x0 b G) (x0 b H) (x0 b I) Q) z (A1 z) z (fL (show D∈[59,60,61,62,63,64,65,66] from List.mem_of_getElem? m)) z z p1<|?_
   rintro _ R _ ⟨rfl,rfl⟩ S
   refine sg z<|snn<|ssr<|mv z<|yv (p4 z z) z<|snn<|?_
   refine m5 z ?_ ?_
   ·intro n
    replace n:¬(E=0):=nd_t n
    replace hm:=iF hm n
    cases hm
    obtain rfl:=aR l
    obtain rfl:=aR i
    exact ssr<|mv z<|sg z<|snn<|u2<|m2<|v0<|v0<|m2<|v0<|k0 z z ⟨z,z⟩ (aF [] z)
   intro o
   replace o:E=0:=nd_f o
   replace hm:=iT hm o
   cases hm
   exact k4<|f2<|s4<|q0<|yv (s3 (j:=1) z z z (by have q_0:=J;have q_1:=(show Bnd 8 ([59,60,61,62,63,64,65,66]:List Nat) from⟨by simp,by simp⟩).2;omega)) z<|mv z<|snn fun a w ha hs=>⟨k+1,aL l,R,(s0 b S),cv ha,(am [0,0] hs z)⟩
  cases hm
  obtain rfl:=aR l
  exact u4<|p0<|p0<|u3 fun a w ha hs=>⟨(),z,c,b,cv ha,(am [] hs z)⟩
 rintro⟨B,rfl,f,a2,ha,hs⟩
 replace hm:=aL i
 cases hm
 exact us ha hs<|ssr<|sg z<|snn<|u2<|k0 z z ⟨z,z⟩ (aF [] z)
theorem bB (hm:m_syntax_IsCoreName g a0=some r):
    CallSp Tryz.prog 67 #[sV a0] F [] (fun u F' H'=>u=(.bool r)∧H'=[]):=by
 unfold m_syntax_IsCoreName at hm
 refine f1 Tryz.func67 z z fun H I J=>ssr<|sg z<|snn<|x1<|ssr<|mv z<|oS hm fun K x hm=>cl (co x) z z<|?_
 rintro _ b _ ⟨rfl,rfl⟩ L
 refine snn<|cB hm z (fun M hm=>?_) fun N hm=>?_
 ·cases hm
  exact ssr<|sg z<|snn<|u2<|v0<|k0 z z ⟨z,z⟩ (aF [] z)
 refine skn<|x1<|oC hm (fun d h s=>h [(0,sV a0),(18,.bool d)]∧s b []) (fun d hm=>?_) fun d hm a w=>?_
 ·refine q0<|mv z<|yv (ap fx z) z<|?_
  rcases iS hm with⟨e,hm⟩|⟨e,hm⟩
  ·cases hm
   exact yv (t3 e (r2 z z)) z<|mv z<|un z z<|un z z<|un z z<|pt z<|mv z<|un z z<|un z z<|un z z<|pt z<|u1<|eN [] z
  refine yv (s2 e (r2 z z)) z<|mv z<|mw z z<|yw (ap fx z) z z<|?_
  rcases iS hm with⟨f,hm⟩|⟨f,hm⟩
  ·cases hm
   exact yw (t3 f (t5 z z)) z z<|pf z<|mv z<|un z z<|un z z<|un z z<|pt z<|u1<|eN [] z
  refine yw (s2 f (t5 z z)) z z<|pf z<|mv z<|mw z z<|oS hm fun P y hm=>?_
  cases hm
  exact yw (m9 (nlit y) fx z z) z z<|yw (p4 z z) z z<|pf z<|u1<|eN [] z
 rintro⟨ha,hs⟩
 refine us ha hs<|cB hm z (fun Q hm=>?_) fun R hm=>?_
 ·cases hm
  exact ssr<|sg z<|snn<|u2<|v0<|k0 z z ⟨z,z⟩ (aF [] z)
 refine skn<|oD hm (fun i h s=>∃q:Unit,i=.inl q∧∃k,m3 b k∧h []∧s k []) (fun i hm l=>?_) fun i l a w=>?_
 ·refine ssr<|sg z<|snn<|t1<|lM hm (fun m h s=>∃c,m3 b c∧h [(0,sV a0),(3,nV m)]∧s c []) ?_ ?_
  ·intro a w ha hs
   exact⟨b,(l0 _),cv ha,(am [] hs z)⟩
  rintro m S U hm n a w ⟨c,t,ha,hs⟩
  refine us ha hs<|x1<|ssr<|mv z<|mv z<|yv (ap fx z) z<|yv (r2 z z) z<|snn<|cP hm z (fun A hm=>?_) fun V hm=>?_
  ·refine skn<|x1<|t1<|ssr<|mv z<|mv z<|oS hm fun W B hm=>yv (m9 (nlit B) fx z z) z<|oS hm fun v C hm=>cl (cF C) z z<|?_
   rintro _ D _ ⟨rfl,rfl⟩ E
   refine yv (p5 z) z<|snn<|?_
   refine m5 z ?_ ?_
   ·intro o
    replace o:¬(v=true):=nb_t o
    replace hm:=iF hm o
    cases hm
    obtain rfl:=aR n
    obtain rfl:=aR l
    exact ssr<|sg z<|snn<|u2<|m2<|v0<|v0<|m2<|v0<|k0 z z ⟨z,z⟩ (aF [] z)
   intro p
   replace p:v=true:=nb_f p
   replace hm:=iT hm p
   refine k4<|f2<|s4<|q0<|mv z<|oS hm fun X G hm=>?_
   cases hm
   exact yv (s3 (j:=1) z z z (by have q_0:=A;have q_1:=(Mir.small_le G);omega)) z<|sg z<|snn fun a w ha hs=>⟨m+1,aL n,D,(s0 t E),cv ha,(am [] hs z)⟩
  cases hm
  obtain rfl:=aR n
  exact u4<|p0<|p0<|u3 fun a w ha hs=>⟨(),z,c,t,cv ha,(am [] hs z)⟩
 rintro⟨q,rfl,k,Y,ha,hs⟩
 replace hm:=aL l
 cases hm
 exact us ha hs<|ssr<|sg z<|snn<|u2<|k0 z z ⟨z,z⟩ (aF [] z)
theorem u8 (hm:m_core_isName g a0=some r):
    CallSp Tryz.prog 34 #[sV a0] F [] (fun u F' H'=>u=(.bool r)∧H'=[]):=by
 unfold m_core_isName at hm
 refine f1 Tryz.func34 z z fun m n o=>ssr<|sg z<|snn<|oC hm (fun b h s=>∃c,m3 F c∧h [(2,.bool b)]∧s c []) (fun b hm=>?_) fun b hm a w=>?_
 ·refine q0<|mv z<|oS hm fun e j hm=>cl (bB j) z z<|?_
  rintro _ f _ ⟨rfl,rfl⟩ i
  rcases iS hm with⟨d,hm⟩|⟨d,hm⟩
  ·have k:(e)=true:=d
   try rw [k]
   cases hm
   exact mv z<|mw z z<|yw (aV z z) z z<|pt z<|sg z<|u1 fun a w ha hs=>⟨f,i,cv ha,(am [] hs z)⟩
  have l:(e)=false:=w2 d
  try rw [l]
  cases hm
  exact mv z<|un z z<|un z z<|pf z<|sg z<|u1 fun a w ha hs=>⟨f,i,cv ha,(am [] hs z)⟩
 rintro⟨c,p,ha,hs⟩
 cases hm
 exact us ha hs<|u2<|k0 z z ⟨z,z⟩ (aF [] z)
theorem eA (hm:m_core_kindOf g a0=some r):
    CallSp Tryz.prog 102 #[iV a0] F [] (fun u F' H'=>∃d,u=d∧INode.R F' d r∧H'=[]):=by
 unfold m_core_kindOf at hm
 refine f1 Tryz.func102 z z fun e f i=>ssr<|sg z<|snn<|x1<|ssr<|mv z<|snn<|t1<|ssr<|yv (w1 z z) z<|sg z<|snn<|cP hm z (fun j hm=>?_) fun k hm=>?_
 ·cases hm
  exact ssr<|yv (v2 (v:=(.agg #[.bool true,.bool false])) (A2 z) (fun _=>by kernel_rfl)) z<|yv (k8 eE z) z<|sg z<|snn<|u2<|m2<|v0<|k0 z z ⟨(.iface 182 (.agg #[.bool true,.bool false])),z,⟨(.agg #[.bool true,.bool false]),⟨[.bool true,.bool false],(DLeaf.shut),z⟩,z⟩,z⟩ (aF [] z)
 refine ssr<|yv (w1 z z) z<|sg z<|snn<|cP hm z (fun l hm=>?_) fun m hm=>?_
 ·cases hm
  exact ssr<|yv (v2 (v:=(.agg #[.bool false,.bool true])) (A2 z) (fun _=>by kernel_rfl)) z<|yv (k8 eE z) z<|sg z<|snn<|u2<|m2<|v0<|k0 z z ⟨(.iface 182 (.agg #[.bool false,.bool true])),z,⟨(.agg #[.bool false,.bool true]),⟨[.bool false,.bool true],(DLeaf.shut),z⟩,z⟩,z⟩ (aF [] z)
 refine ssr<|yv (w1 z z) z<|sg z<|snn<|cP hm z (fun n hm=>?_) fun o hm=>?_
 ·cases hm
  exact ssr<|yv (v2 (v:=(.agg #[.bool false,.bool false])) (vs:=#[]) (fun a _=>by simp) (fun _=>by kernel_rfl)) z<|yv (k8 eE z) z<|sg z<|snn<|u2<|m2<|v0<|k0 z z ⟨(.iface 182 (.agg #[.bool false,.bool false])),z,⟨(.agg #[.bool false,.bool false]),⟨[.bool false,.bool false],(DLeaf.shut),z⟩,z⟩,z⟩ (aF [] z)
 refine ssr<|yv (w1 z z) z<|sg z<|snn<|cP hm z (fun p hm=>?_) fun q hm=>?_
 ·cases hm
  exact ssr<|yv (v2 (v:=(.agg #[.bool true])) (A2 z) (fun _=>by kernel_rfl)) z<|yv (k8 fB z) z<|sg z<|snn<|u2<|m2<|v0<|k0 z z ⟨(.iface 184 (.agg #[.bool true])),z,⟨(.agg #[.bool true]),⟨[.bool true],(DCall.shut),z⟩,z⟩,z⟩ (aF [] z)
 refine ssr<|yv (w1 z z) z<|sg z<|snn<|cP hm z (fun t hm=>?_) fun x hm=>?_
 ·cases hm
  exact ssr<|yv (v2 (v:=(.agg #[.bool false])) (vs:=#[]) (fun a _=>by simp) (fun _=>by kernel_rfl)) z<|yv (k8 fB z) z<|sg z<|snn<|u2<|m2<|v0<|k0 z z ⟨(.iface 184 (.agg #[.bool false])),z,⟨(.agg #[.bool false]),⟨[.bool false],(DCall.shut),z⟩,z⟩,z⟩ (aF [] z)
 refine oC hm (fun b h s=>h [(3,iV a0),(24,.bool b)]∧s F []) (fun b hm=>?_) fun b hm a w=>?_
 ·refine ssr<|yv (w1 z z) z<|sg z<|snn<|cP hm z (fun y hm=>?_) fun A hm=>?_
  ·cases hm
   exact k4 fun a w ha hs=>⟨cv ha,(am [] hs z)⟩
  cases hm
  exact q0<|yv (w1 z z) z<|sg z<|u1<|eN [] z
 rintro⟨ha,hs⟩
 refine us ha hs<|cB hm z (fun B hm=>?_) fun C hm=>?_
 ·cases hm
  exact ssr<|yv (v2 (v:=(.agg #[iV 2,.bool false,.bool false])) (A2 z) (fun _=>by kernel_rfl)) z<|yv (k8 fA z) z<|sg z<|snn<|u2<|m2<|v0<|k0 z z ⟨(.iface 186 (.agg #[iV 2,.bool false,.bool false])),z,⟨(.agg #[iV 2,.bool false,.bool false]),⟨[iV 2,.bool false,.bool false],(DInner.shut),z⟩,z⟩,z⟩ (aF [] z)
 refine ssr<|yv (w1 z z) z<|sg z<|snn<|cP hm z (fun D hm=>?_) fun E hm=>?_
 ·cases hm
  exact ssr<|yv (v2 (v:=(.agg #[iV 2,.bool true,.bool false])) (A2 z) (fun _=>by kernel_rfl)) z<|yv (k8 fA z) z<|sg z<|snn<|u2<|m2<|v0<|k0 z z ⟨(.iface 186 (.agg #[iV 2,.bool true,.bool false])),z,⟨(.agg #[iV 2,.bool true,.bool false]),⟨[iV 2,.bool true,.bool false],(DInner.shut),z⟩,z⟩,z⟩ (aF [] z)
 refine ssr<|yv (w1 z z) z<|sg z<|snn<|cP hm z (fun G hm=>?_) fun H hm=>?_
 ·cases hm
  exact ssr<|yv (v2 (v:=(.agg #[iV 1,.bool false,.bool true])) (A2 z) (fun _=>by kernel_rfl)) z<|yv (k8 fA z) z<|sg z<|snn<|u2<|m2<|v0<|k0 z z ⟨(.iface 186 (.agg #[iV 1,.bool false,.bool true])),z,⟨(.agg #[iV 1,.bool false,.bool true]),⟨[iV 1,.bool false,.bool true],(DInner.shut),z⟩,z⟩,z⟩ (aF [] z)
 refine oC hm (fun c h s=>h [(37,.bool c)]∧s F []) (fun c hm=>?_) fun c hm a w=>?_
 ·refine ssr<|yv (w1 z z) z<|sg z<|snn<|cP hm z (fun I hm=>?_) fun J hm=>?_
  ·cases hm
   exact k4 fun a w ha hs=>⟨cv ha,(am [] hs z)⟩
  cases hm
  exact q0<|yv (w1 z z) z<|sg z<|u1<|eN [] z
 rintro⟨ha,hs⟩
 refine us ha hs<|cB hm z (fun K hm=>?_) fun L hm=>?_
 ·cases hm
  exact ssr<|yv (v2 (v:=(.agg #[])) (vs:=#[]) (fun a _=>by simp) (fun _=>by kernel_rfl)) z<|yv (k8 gF z) z<|sg z<|snn<|u2<|m2<|v0<|k0 z z ⟨(.iface 204 (.agg #[])),z,⟨(.agg #[]),⟨[],(DCases.shut),z⟩,z⟩,z⟩ (aF [] z)
 cases hm
 exact k4<|f2<|s4<|ssr<|sg z<|snn<|u2<|k0 z z ⟨.nilIface,z,z,z⟩ (aF [] z)
theorem dP {a0:DLeaf}{a1:DExpr}(m:Fsl 16 Kind.str F e f a1.Names) (n:Fsl 104 KDExpr F i j a1.Kids) (o:Fsl 160 KDAlt F k l a1.Alts) (hm:m_core_leaf_fits g a0 a1=some r):
    CallSp Tryz.prog 173 #[.agg #[.bool a0.name,.bool a0.num],.agg (ca a1 e f i j k l)] F [] (fun u F' H'=>u=(.bool r)∧H'=[]):=by
 unfold m_core_leaf_fits at hm
 refine f1 Tryz.func173 z z fun p q t=>ssr<|ba z fun v=>ba z fun x=>sg z<|snn<|oC hm (fun b h s=>h [(4,.bool b)]∧s F []) (fun b hm=>?_) fun b hm a w=>?_
 ·refine q0<|fa w7 z<|ld 0 da z<|yv (u0 ek z) z<|?_
  rcases iS hm with⟨c,hm⟩|⟨c,hm⟩
  ·refine yv (t3 c (w1 z z)) z<|mv z<|fw g9 z z<|lw 0 aJ z z<|yw (u0 bj z) z z<|?_
   rcases iS hm with⟨d,hm⟩|⟨d,hm⟩
   ·cases hm
    exact yw (t3 d (w1 z z)) z z<|pt z<|mv z<|fw u9 z z<|lw 0 en z z<|yw (u0 eY z) z z<|yw (w1 z z) z z<|pt z<|sg z<|u1<|eN [] z
   cases hm
   exact yw (s2 d (w1 z z)) z z<|pt z<|mv z<|un z z<|un z z<|un z z<|un z z<|pf z<|sg z<|u1<|eN [] z
  cases hm
  exact yv (s2 c (w1 z z)) z<|mv z<|un z z<|un z z<|un z z<|un z z<|pf z<|mv z<|un z z<|un z z<|un z z<|un z z<|pf z<|sg z<|u1<|eN [] z
 rintro⟨ha,hs⟩
 cases hm
 exact us ha hs<|u2<|k0 z z ⟨z,z⟩ (aF [] z)
theorem dQ {a0:DCall}{a1:DExpr}(m:Fsl 16 Kind.str F e f a1.Names) (n:Fsl 104 KDExpr F i j a1.Kids) (o:Fsl 160 KDAlt F k l a1.Alts) (hm:m_core_call_fits g a0 a1=some r):
    CallSp Tryz.prog 174 #[.agg #[.bool a0.great],.agg (ca a1 e f i j k l)] F [] (fun u F' H'=>u=(.bool r)∧H'=[]):=by
 unfold m_core_call_fits at hm
 refine f1 Tryz.func174 z z fun p q t=>ssr<|ba z fun v=>ba z fun x=>sg z<|snn<|oC hm (fun b h s=>h [(4,.bool b)]∧s F []) (fun b hm=>?_) fun b hm a w=>?_
 ·refine q0<|fa w7 z<|ld 0 da z<|yv (u0 ek z) z<|?_
  rcases iS hm with⟨c,hm⟩|⟨c,hm⟩
  ·refine yv (t3 c (u7 z z)) z<|mv z<|fw g9 z z<|lw 0 aJ z z<|yw (u0 bj z) z z<|?_
   rcases iS hm with⟨d,hm⟩|⟨d,hm⟩
   ·cases hm
    exact yw (t3 d (w1 z z)) z z<|pt z<|mv z<|fw u9 z z<|lw 0 en z z<|yw (u0 eY z) z z<|yw (w1 z z) z z<|pt z<|sg z<|u1<|eN [] z
   cases hm
   exact yw (s2 d (w1 z z)) z z<|pt z<|mv z<|un z z<|un z z<|un z z<|un z z<|pf z<|sg z<|u1<|eN [] z
  cases hm
  exact yv (s2 c (u7 z z)) z<|mv z<|un z z<|un z z<|un z z<|un z z<|pf z<|mv z<|un z z<|un z z<|un z z<|un z z<|pf z<|sg z<|u1<|eN [] z
 rintro⟨ha,hs⟩
 cases hm
 exact us ha hs<|u2<|k0 z z ⟨z,z⟩ (aF [] z)
theorem dD {a0:DInner}{a1:DExpr}(m:Fsl 16 Kind.str F e f a1.Names) (n:Fsl 104 KDExpr F i j a1.Kids) (o:Fsl 160 KDAlt F k l a1.Alts) (hm:m_core_inner_fits g a0 a1=some r):
    CallSp Tryz.prog 175 #[.agg (gr a0),.agg (ca a1 e f i j k l)] F [] (fun u F' H'=>u=(.bool r)∧H'=[]):=by
 unfold m_core_inner_fits at hm
 refine f1 Tryz.func175 z z fun p q t=>ssr<|ba z fun v=>ba z fun x=>sg z<|snn<|oC hm (fun b h s=>h [(4,.bool b)]∧s F []) (fun b hm=>?_) fun b hm a w=>?_
 ·refine q0<|fa w7 z<|ld 0 da z<|yv (u0 ek z) z<|fa fN z<|ld 1 r6 z<|?_
  rcases iS hm with⟨c,hm⟩|⟨c,hm⟩
  ·refine yv (t3 c (w1 z z)) z<|mv z<|fw u9 z z<|lw 0 en z z<|yw (u0 eY z) z z<|?_
   rcases iS hm with⟨d,hm⟩|⟨d,hm⟩
   ·cases hm
    exact yw (t3 d (w1 z z)) z z<|pt z<|mv z<|fw fM z z<|lw 1 dr z z<|fw g9 z z<|lw 0 aJ z z<|yw (u0 bj z) z z<|yw (t5 z z) z z<|yw (Yields.beqd tb4 z z) z z<|pt z<|sg z<|u1<|eN [] z
   cases hm
   exact yw (s2 d (w1 z z)) z z<|pt z<|mv z<|un z z<|un z z<|un z z<|un z z<|un z z<|un z z<|un z z<|pf z<|sg z<|u1<|eN [] z
  cases hm
  exact yv (s2 c (w1 z z)) z<|mv z<|un z z<|un z z<|un z z<|un z z<|pf z<|mv z<|un z z<|un z z<|un z z<|un z z<|un z z<|un z z<|un z z<|pf z<|sg z<|u1<|eN [] z
 rintro⟨ha,hs⟩
 cases hm
 exact us ha hs<|u2<|k0 z z ⟨z,z⟩ (aF [] z)
theorem dE {a0:DCases}{a1:DExpr}(n:Fsl 16 Kind.str F f i a1.Names) (o:Fsl 104 KDExpr F j k a1.Kids) (p:Fsl 160 KDAlt F l m a1.Alts) (hm:m_core_cases_fits g a0 a1=some r):
    CallSp Tryz.prog 176 #[.agg #[],.agg (ca a1 f i j k l m)] F [] (fun u F' H'=>u=(.bool r)∧H'=[]):=by
 unfold m_core_cases_fits at hm
 refine f1 Tryz.func176 z z fun q t v=>ssr<|ba z fun x=>ba z fun y=>sg z<|snn<|oC hm (fun b h s=>h [(4,.bool b)]∧s F []) (fun b hm=>?_) fun b hm a w=>?_
 ·refine q0<|fa w7 z<|ld 0 da z<|yv (u0 ek z) z<|?_
  rcases iS hm with⟨c,hm⟩|⟨c,hm⟩
  ·refine yv (t3 c (w1 z z)) z<|mv z<|fw g9 z z<|lw 0 aJ z z<|yw (u0 bj z) z z<|?_
   rcases iS hm with⟨d,hm⟩|⟨d,hm⟩
   ·refine yw (t3 d (w1 z z)) z z<|pt z<|mv z<|fw y7 z z<|lw 0 r9 z z<|?_
    rcases iS hm with⟨e,hm⟩|⟨e,hm⟩
    ·cases hm
     exact yw (t3 e (v6 z z)) z z<|pt z<|mv z<|fw g8 z z<|lw 0 r6 z z<|yw (w1 z z) z z<|pt z<|sg z<|u1<|eN [] z
    cases hm
    exact yw (s2 e (v6 z z)) z z<|pt z<|mv z<|un z z<|un z z<|un z z<|pf z<|sg z<|u1<|eN [] z
   cases hm
   exact yw (s2 d (w1 z z)) z z<|pt z<|mv z<|un z z<|un z z<|un z z<|pf z<|mv z<|un z z<|un z z<|un z z<|pf z<|sg z<|u1<|eN [] z
  cases hm
  exact yv (s2 c (w1 z z)) z<|mv z<|un z z<|un z z<|un z z<|un z z<|pf z<|mv z<|un z z<|un z z<|un z z<|pf z<|mv z<|un z z<|un z z<|un z z<|pf z<|sg z<|u1<|eN [] z
 rintro⟨ha,hs⟩
 cases hm
 exact us ha hs<|u2<|k0 z z ⟨z,z⟩ (aF [] z)
theorem p8 (hm:m_syntax_IsInt g a0=some r):
    CallSp Tryz.prog 75 #[iV a0] F [] (fun u F' H'=>u=(.bool r)∧H'=[]):=by
 unfold m_syntax_IsInt at hm
 refine f1 Tryz.func75 z z fun d e f=>ssr<|sg z<|snn<|oC hm (fun b h s=>h [(2,.bool b)]∧s F []) (fun b hm=>?_) fun b hm a w=>?_
 ·refine q0<|mv z<|?_
  rcases iS hm with⟨c,hm⟩|⟨c,hm⟩
  ·cases hm
   exact yv (t3 c (u5 z z)) z<|mv z<|mw z z<|yw (u7 z z) z z<|pt z<|sg z<|u1<|eN [] z
  cases hm
  exact yv (s2 c (u5 z z)) z<|mv z<|un z z<|un z z<|pf z<|sg z<|u1<|eN [] z
 rintro⟨ha,hs⟩
 cases hm
 exact us ha hs<|u2<|k0 z z ⟨z,z⟩ (aF [] z)
theorem bR {a0:DExpr}(y:Fsl 16 Kind.str F l m a0.Names) (G:Fsl 104 KDExpr F o p a0.Kids) (H:Fsl 160 KDAlt F q t a0.Alts) (hm:m_core_isNode g a0=some r):
    CallSp Tryz.prog 69 #[.agg (ca a0 l m o p q t)] F [] (fun u F' H'=>u=(.bool r)∧H'=[]):=by
 unfold m_core_isNode at hm
 refine f1 Tryz.func69 z z fun hW hX hY=>ssr<|ba z fun n=>sg z<|snn<|ssr<|fa n8 z<|ld 0 r6 z<|oS hm fun d5 d6 hm=>cl (eA d6) z z<|?_
 rintro d7 c2 _ ⟨_,rfl,B,rfl⟩ e
 refine sg z<|snn<|x1<|oC hm (fun C h s=>∃I b,m3 c2 b∧INode.R b I C.1∧h [(1,pP n 0),(3,I),(19,.bool C.2)]∧s b [bK n (ca a0 l m o p q t) 64]) (fun C hm=>?_) fun C hm a w=>?_
 ·refine q0<|mv z<|?_
  rcases INode.cases d5 with i|⟨v,i⟩|⟨J,i⟩|⟨A,i⟩|⟨hZ,i⟩
  ·have c:=B
   rw [i] at hm c;rw [INode.on_nil] at hm
   obtain rfl:d7=.nilIface:=c
   cases hm
   exact yv (Yields.eqNil tn179 z z) z<|mv z<|un z z<|un z z<|un z z<|un z z<|pt z<|u1 fun a w ha hs=>⟨.nilIface,c2,(l0 _),z,cv ha,(am [0] hs z)⟩
  ·have c:=B
   rw [i] at hm c;rw [INode.on_c182] at hm
   obtain⟨h0,d8,rfl⟩:=Ival.agg c
   obtain rfl:=DLeaf.opn d8
   refine yv (Yields.eqHeld tn179 z z) z<|mv z<|mw z z<|yw (g5 0 m7 z) z z<|oS hm fun h1 d9 hm=>St.invoke [bK n (ca a0 l m o p q t) 64] (dP (a0:=v) (a1:=a0) (x0 e y) (x0 e G) (x0 e H) d9) z (fun _ ha=>ev1 ha z) z iv182_fits z z z<|?_
   rintro _ e0 _ ⟨rfl,rfl⟩ e1
   cases hm
   exact yw (p5 z) z z<|pf z<|u1 fun a w ha hs=>⟨(.iface 182 (.agg #[.bool v.name,.bool v.num])),e0,e1,⟨(.agg #[.bool v.name,.bool v.num]),⟨[.bool v.name,.bool v.num],(DLeaf.of),z⟩,z⟩,cv ha,(am [0] hs z)⟩
  ·have c:=B
   rw [i] at hm c;rw [INode.on_c184] at hm
   obtain⟨h2,e2,rfl⟩:=Ival.agg c
   obtain rfl:=DCall.opn e2
   refine yv (Yields.eqHeld tn179 z z) z<|mv z<|mw z z<|yw (g5 0 m7 z) z z<|oS hm fun h3 e3 hm=>St.invoke [bK n (ca a0 l m o p q t) 64] (dQ (a0:=J) (a1:=a0) (x0 e y) (x0 e G) (x0 e H) e3) z (fun _ ha=>ev1 ha z) z iv184_fits z z z<|?_
   rintro _ e4 _ ⟨rfl,rfl⟩ e5
   cases hm
   exact yw (p5 z) z z<|pf z<|u1 fun a w ha hs=>⟨(.iface 184 (.agg #[.bool J.great])),e4,e5,⟨(.agg #[.bool J.great]),⟨[.bool J.great],(DCall.of),z⟩,z⟩,cv ha,(am [0] hs z)⟩
  ·have c:=B
   rw [i] at hm c;rw [INode.on_c186] at hm
   obtain⟨h4,e7,rfl⟩:=Ival.agg c
   obtain rfl:=DInner.opn e7
   refine yv (Yields.eqHeld tn179 z z) z<|mv z<|mw z z<|yw (g5 0 m7 z) z z<|oS hm fun h5 e8 hm=>St.invoke [bK n (ca a0 l m o p q t) 64] (dD (a0:=A) (a1:=a0) (x0 e y) (x0 e G) (x0 e H) e8) z (fun _ ha=>ev1 ha z) z iv186_fits z z z<|?_
   rintro _ e9 _ ⟨rfl,rfl⟩ fo
   cases hm
   exact yw (p5 z) z z<|pf z<|u1 fun a w ha hs=>⟨(.iface 186 (.agg (gr A))),e9,fo,⟨(.agg (gr A)),⟨[iV A.kids,.bool A.name,.bool A.names],(DInner.of),z⟩,z⟩,cv ha,(am [0] hs z)⟩
  have c:=B
  rw [i] at hm c;rw [INode.on_c204] at hm
  obtain⟨h6,f0,rfl⟩:=Ival.agg c
  obtain rfl:=DCases.opn f0
  refine yv (Yields.eqHeld tn179 z z) z<|mv z<|mw z z<|yw (g5 0 m7 z) z z<|oS hm fun h7 gP hm=>St.invoke [bK n (ca a0 l m o p q t) 64] (dE (a0:=(DCases.mk)) (a1:=a0) (x0 e y) (x0 e G) (x0 e H) gP) z (fun _ ha=>ev1 ha z) z iv204_fits z z z<|?_
  rintro _ gQ _ ⟨rfl,rfl⟩ gR
  cases hm
  exact yw (p5 z) z z<|pf z<|u1 fun a w ha hs=>⟨(.iface 204 (.agg #[])),gQ,gR,⟨(.agg #[]),⟨[],(DCases.shut),z⟩,z⟩,cv ha,(am [0] hs z)⟩
 rintro⟨I,b,gS,D,ha,hs⟩
 refine us ha hs<|cB hm z (fun h8 hm=>?_) fun h9 hm=>?_
 ·cases hm
  exact ssr<|sg z<|snn<|u2<|v0<|k0 z z ⟨z,z⟩ (aF [] z)
 refine skn<|oD hm (fun N h s=>∃c3:Unit,N=.inl c3∧∃P,m3 b P∧h []∧s P []) (fun N hm x=>?_) fun N x a w=>?_
 ·refine ssr<|mv z<|snn<|t1<|ssr<|?_
  rcases INode.cases C.1 with k|⟨f,k⟩|⟨ia,k⟩|⟨c4,k⟩|⟨ib,k⟩
  ·have d:=D
   rw [k] at hm d;rw [INode.on_nil] at hm
   obtain rfl:I=.nilIface:=d
   cases hm
   exact yv (Yields.assertN (z0:=(.agg #[.bool false,.bool false])) eE fH z) z<|yv (r0 z z) z<|yv (r0 z z) z<|snn<|cg z<|ssr<|yv (Yields.assertN (z0:=(.agg #[.bool false])) fB fV z) z<|yv (r0 z z) z<|yv (r0 z z) z<|snn<|cg z<|ssr<|yv (Yields.assertN (z0:=(.agg #[iV 0,.bool false,.bool false])) fA gg z) z<|yv (r0 z z) z<|yv (r0 z z) z<|snn<|cg z<|k4<|f2 fun a w ha hs=>⟨(),z,b,(l0 _),cv ha,(am [] hs z)⟩
  ·have d:=D
   rw [k] at hm d;rw [INode.on_c182] at hm
   obtain⟨ic,gT,rfl⟩:=Ival.agg d
   obtain rfl:=DLeaf.opn gT
   refine yv (Yields.assertT eE z) z<|yv (r0 z z) z<|yv (r0 z z) z<|snn<|St.cond_t z<|ssr<|aa fH z fun ie=>sN gJ z z<|snn<|oC hm (fun Q h s=>∃R,m3 b R∧h [(2,.bool Q)]∧s R []) (fun Q hm=>?_) fun Q hm a w=>?_
   ·refine q0<|fa y7 z<|ld 1 r9 z<|?_
    rcases iS hm with⟨S,hm⟩|⟨S,hm⟩
    ·refine yv (t3 S (v6 z z)) z<|mv z<|un z z<|un z z<|pt z<|mv z<|fw dH z z<|?_
     rcases iS hm with⟨U,hm⟩|⟨U,hm⟩
     ·have gU:(f.name)=true:=U
      try rw [gU]
      refine lw 0 dr z z<|yw (v7 z) z z<|mw z z<|fw y7 z z<|lw 1 r9 z z<|oS hm fun c5 gV hm=>f5 _ (u8 gV) z (A1 z) z en34.out z z z<|?_
      rintro _ c6 _ ⟨rfl,rfl⟩ K
      rcases iS hm with⟨V,hm⟩|⟨V,hm⟩
      ·have gW:(c5)=true:=V
       try rw [gW]
       refine yw (n3 z z) z z<|pt z<|mv z<|fw g8 z z<|lw 1 r6 z z<|?_
       rcases iS hm with⟨W,hm⟩|⟨W,hm⟩
       ·refine yw (t3 W (w1 z z)) z z<|mw z z<|un z z<|un z z<|yw (f3 z z) z z<|pt z<|mv z<|fw g8 z z<|lw 1 r6 z z<|oS hm fun ig gX hm=>f5 _ (p8 gX) z (A1 z) z en75.out z z z<|?_
        rintro _ gY _ ⟨rfl,rfl⟩ gZ
        cases hm
        exact pt z<|sg z<|u1 fun a w ha hs=>⟨gY,(s0 K gZ),cv ha,(am [] hs z)⟩
       refine yw (s2 W (w1 z z)) z z<|mw z z<|fw dG z z<|?_
       rcases iS hm with⟨X,hm⟩|⟨X,hm⟩
       ·have g0:(f.num)=true:=X
        try rw [g0]
        refine lw 0 dr z z<|yw (n3 z z) z z<|pt z<|mv z<|fw g8 z z<|lw 1 r6 z z<|oS hm fun ih g1 hm=>f5 _ (p8 g1) z (A1 z) z en75.out z z z<|?_
        rintro _ g2 _ ⟨rfl,rfl⟩ g3
        cases hm
        exact pt z<|sg z<|u1 fun a w ha hs=>⟨g2,(s0 K g3),cv ha,(am [] hs z)⟩
       have g7:(f.num)=false:=w2 X
       try rw [g7]
       cases hm
       exact lw 0 dr z z<|yw (n3 z z) z z<|pt z<|mv z<|un z z<|un z z<|un z z<|pf z<|sg z<|u1 fun a w ha hs=>⟨c6,K,cv ha,(am [] hs z)⟩
      have hb:(c5)=false:=w2 V
      try rw [hb]
      cases hm
      exact yw (n3 z z) z z<|pt z<|mv z<|un z z<|un z z<|un z z<|un z z<|k2 p1 z z<|k2 p1 z z<|un z z<|pf z<|mv z<|un z z<|un z z<|un z z<|pf z<|sg z<|u1 fun a w ha hs=>⟨c6,K,cv ha,(am [] hs z)⟩
     have hc:(f.name)=false:=w2 U
     try rw [hc]
     refine lw 0 dr z z<|yw (an z) z z<|mw z z<|un z z<|un z z<|un z z<|yw (f3 z z) z z<|pt z<|mv z<|fw g8 z z<|lw 1 r6 z z<|?_
     rcases iS hm with⟨Y,hm⟩|⟨Y,hm⟩
     ·refine yw (t3 Y (w1 z z)) z z<|mw z z<|un z z<|un z z<|yw (f3 z z) z z<|pt z<|mv z<|fw g8 z z<|lw 1 r6 z z<|oS hm fun ii hd hm=>f5 _ (p8 hd) z (A1 z) z en75.out z z z<|?_
      rintro _ he _ ⟨rfl,rfl⟩ hf
      cases hm
      exact pt z<|sg z<|u1 fun a w ha hs=>⟨he,hf,cv ha,(am [] hs z)⟩
     refine yw (s2 Y (w1 z z)) z z<|mw z z<|fw dG z z<|?_
     rcases iS hm with⟨Z,hm⟩|⟨Z,hm⟩
     ·have hg:(f.num)=true:=Z
      try rw [hg]
      refine lw 0 dr z z<|yw (n3 z z) z z<|pt z<|mv z<|fw g8 z z<|lw 1 r6 z z<|oS hm fun ij hh hm=>f5 _ (p8 hh) z (A1 z) z en75.out z z z<|?_
      rintro _ hi _ ⟨rfl,rfl⟩ hj
      cases hm
      exact pt z<|sg z<|u1 fun a w ha hs=>⟨hi,hj,cv ha,(am [] hs z)⟩
     have hk:(f.num)=false:=w2 Z
     try rw [hk]
     cases hm
     exact lw 0 dr z z<|yw (n3 z z) z z<|pt z<|mv z<|un z z<|un z z<|un z z<|pf z<|sg z<|u1 fun a w ha hs=>⟨b,(l0 _),cv ha,(am [] hs z)⟩
    refine yv (s2 S (v6 z z)) z<|mv z<|fw dH z z<|?_
    rcases iS hm with⟨a2,hm⟩|⟨a2,hm⟩
    ·have hl:(f.name)=true:=a2
     try rw [hl]
     refine lw 0 dr z z<|pf z<|mv z<|fw dH z z<|lw 0 dr z z<|yw (v7 z) z z<|mw z z<|fw y7 z z<|lw 1 r9 z z<|oS hm fun c7 hn hm=>f5 _ (u8 hn) z (A1 z) z en34.out z z z<|?_
     rintro _ c8 _ ⟨rfl,rfl⟩ L
     rcases iS hm with⟨a3,hm⟩|⟨a3,hm⟩
     ·have ho:(c7)=true:=a3
      try rw [ho]
      refine yw (n3 z z) z z<|pt z<|mv z<|fw g8 z z<|lw 1 r6 z z<|?_
      rcases iS hm with⟨a4,hm⟩|⟨a4,hm⟩
      ·refine yw (t3 a4 (w1 z z)) z z<|mw z z<|un z z<|un z z<|yw (f3 z z) z z<|pt z<|mv z<|fw g8 z z<|lw 1 r6 z z<|oS hm fun ik hp hm=>f5 _ (p8 hp) z (A1 z) z en75.out z z z<|?_
       rintro _ hq _ ⟨rfl,rfl⟩ hr
       cases hm
       exact pt z<|sg z<|u1 fun a w ha hs=>⟨hq,(s0 L hr),cv ha,(am [] hs z)⟩
      refine yw (s2 a4 (w1 z z)) z z<|mw z z<|fw dG z z<|?_
      rcases iS hm with⟨a5,hm⟩|⟨a5,hm⟩
      ·have ht:(f.num)=true:=a5
       try rw [ht]
       refine lw 0 dr z z<|yw (n3 z z) z z<|pt z<|mv z<|fw g8 z z<|lw 1 r6 z z<|oS hm fun il hu hm=>f5 _ (p8 hu) z (A1 z) z en75.out z z z<|?_
       rintro _ hv _ ⟨rfl,rfl⟩ hw
       cases hm
       exact pt z<|sg z<|u1 fun a w ha hs=>⟨hv,(s0 L hw),cv ha,(am [] hs z)⟩
      have hx:(f.num)=false:=w2 a5
      try rw [hx]
      cases hm
      exact lw 0 dr z z<|yw (n3 z z) z z<|pt z<|mv z<|un z z<|un z z<|un z z<|pf z<|sg z<|u1 fun a w ha hs=>⟨c8,L,cv ha,(am [] hs z)⟩
     have hy:(c7)=false:=w2 a3
     try rw [hy]
     cases hm
     exact yw (n3 z z) z z<|pt z<|mv z<|un z z<|un z z<|un z z<|un z z<|k2 p1 z z<|k2 p1 z z<|un z z<|pf z<|mv z<|un z z<|un z z<|un z z<|pf z<|sg z<|u1 fun a w ha hs=>⟨c8,L,cv ha,(am [] hs z)⟩
    have hz:(f.name)=false:=w2 a2
    try rw [hz]
    cases hm
    exact lw 0 dr z z<|pf z<|mv z<|un z z<|un z z<|un z z<|un z z<|k2 p1 z z<|k2 p1 z z<|k2 p1 z z<|un z z<|pf z<|mv z<|un z z<|un z z<|un z z<|un z z<|k2 p1 z z<|k2 p1 z z<|un z z<|pf z<|mv z<|un z z<|un z z<|un z z<|pf z<|sg z<|u1 fun a w ha hs=>⟨b,(l0 _),cv ha,(am [] hs z)⟩
   rintro⟨R,im,ha,hs⟩
   cases hm
   obtain rfl:=aR x
   exact us ha hs<|u2<|m2<|v0<|k0 z z ⟨z,z⟩ (aF [] z)
  ·have d:=D
   rw [k] at hm d;rw [INode.on_c184] at hm
   obtain⟨io,hA,rfl⟩:=Ival.agg d
   obtain rfl:=DCall.opn hA
   refine yv (cZ (z0:=(.agg #[.bool false,.bool false])) eE (by decide) fH z) z<|yv (r0 z z) z<|yv (r0 z z) z<|snn<|cg z<|ssr<|yv (Yields.assertT fB z) z<|yv (r0 z z) z<|yv (r0 z z) z<|snn<|St.cond_t z<|ssr<|aa fV z fun ip=>sN gI z z<|snn<|x1<|ssr<|fa fO z<|ld 0 dr z<|snn<|cB hm z (fun iq hm=>?_) fun ir hm=>?_
   ·refine oC hm (fun a6 h s=>∃a7,m3 b a7∧h [(2,.bool a6)]∧s a7 []) (fun a6 hm=>?_) fun a6 hm a w=>?_
    ·refine q0<|fa g8 z<|ld 1 r6 z<|?_
     rcases iS hm with⟨a8,hm⟩|⟨a8,hm⟩
     ·refine yv (t3 a8 (w1 z z)) z<|mv z<|fw y7 z z<|lw 1 r9 z z<|oS hm fun it hB hm=>f5 _ (ar hB) z (A1 z) z en74.out z z z<|?_
      rintro _ hC _ ⟨rfl,rfl⟩ hD
      cases hm
      exact pt z<|sg z<|u1 fun a w ha hs=>⟨hC,hD,cv ha,(am [] hs z)⟩
     cases hm
     exact yv (s2 a8 (w1 z z)) z<|mv z<|un z z<|un z z<|un z z<|pf z<|sg z<|u1 fun a w ha hs=>⟨b,(l0 _),cv ha,(am [] hs z)⟩
    rintro⟨a7,iu,ha,hs⟩
    cases hm
    obtain rfl:=aR x
    exact us ha hs<|u2<|v0<|m2<|v0<|k0 z z ⟨z,z⟩ (aF [] z)
   refine skn<|oC hm (fun a9 h s=>∃b0,m3 b b0∧h [(2,.bool a9)]∧s b0 []) (fun a9 hm=>?_) fun a9 hm a w=>?_
   ·refine q0<|fa g8 z<|ld 1 r6 z<|?_
    rcases iS hm with⟨b1,hm⟩|⟨b1,hm⟩
    ·refine yv (t3 b1 (w1 z z)) z<|mv z<|fw y7 z z<|lw 1 r9 z z<|oS hm fun iv hE hm=>f5 _ (u8 hE) z (A1 z) z en34.out z z z<|?_
     rintro _ hF _ ⟨rfl,rfl⟩ hG
     cases hm
     exact pt z<|sg z<|u1 fun a w ha hs=>⟨hF,hG,cv ha,(am [] hs z)⟩
    cases hm
    exact yv (s2 b1 (w1 z z)) z<|mv z<|un z z<|un z z<|un z z<|pf z<|sg z<|u1 fun a w ha hs=>⟨b,(l0 _),cv ha,(am [] hs z)⟩
   rintro⟨b0,iw,ha,hs⟩
   cases hm
   obtain rfl:=aR x
   exact us ha hs<|u2<|m2<|v0<|k0 z z ⟨z,z⟩ (aF [] z)
  ·have d:=D
   rw [k] at hm d;rw [INode.on_c186] at hm
   obtain⟨ix,hH,rfl⟩:=Ival.agg d
   obtain rfl:=DInner.opn hH
   refine yv (cZ (z0:=(.agg #[.bool false,.bool false])) eE (by decide) fH z) z<|yv (r0 z z) z<|yv (r0 z z) z<|snn<|cg z<|ssr<|yv (cZ (z0:=(.agg #[.bool false])) fB (by decide) fV z) z<|yv (r0 z z) z<|yv (r0 z z) z<|snn<|cg z<|ssr<|yv (Yields.assertT fA z) z<|yv (r0 z z) z<|yv (r0 z z) z<|snn<|St.cond_t z<|ssr<|aa gg z fun iy=>sN gH z z<|snn<|x1<|oC hm (fun b2 h s=>∃E,m3 b E∧h [(1,pP n 0),(105,.bool b2)]∧s E [bK n (ca a0 l m o p q t) 64]) (fun b2 hm=>?_) fun b2 hm a w=>?_
   ·refine q0<|fa g8 z<|ld 1 r6 z<|?_
    rcases iS hm with⟨b3,hm⟩|⟨b3,hm⟩
    ·refine yv (g6 b3 (p4 z z)) z<|mv z<|fw dF z z<|?_
     rcases iS hm with⟨b5,hm⟩|⟨b5,hm⟩
     ·have hI:(c4.name)=true:=b5
      try rw [hI]
      refine lw 0 dr z z<|fw y7 z z<|lw 1 r9 z z<|?_
      rcases iS hm with⟨b6,hm⟩|⟨b6,hm⟩
      ·cases hm
       exact yw (g6 b6 (aV z z)) z z<|yw (t6 (by decide) (Yields.bned tb4 z z)) z z<|pf z<|mv z<|un z z<|un z z<|un z z<|k2 p1 z z<|k2 p1 z z<|k2 p1 z z<|k2 p1 z z<|un z z<|pt z<|mv z<|un z z<|un z z<|un z z<|un z z<|pt z<|u1 fun a w ha hs=>⟨b,(l0 _),cv ha,(am [1] hs z)⟩
      refine yw (t6 b6 (aV z z)) z z<|yw (g6 (by decide) (Yields.bned tb4 z z)) z z<|pf z<|mv z<|fw dF z z<|lw 0 dr z z<|mw z z<|fw y7 z z<|lw 1 r9 z z<|oS hm fun c9 hJ hm=>f5 _ (u8 hJ) z (A1 z) z en34.out z z z<|?_
      rintro _ d1 _ ⟨rfl,rfl⟩ d2
      rcases iS hm with⟨b7,hm⟩|⟨b7,hm⟩
      ·have hK:(c9)=true:=b7
       try rw [hK]
       cases hm
       exact yw (v7 z) z z<|yw (f3 z z) z z<|pf z<|mv z<|fw g9 z z<|lw 1 aJ z z<|yw (u0 bj z) z z<|yw (t5 z z) z z<|pf z<|u1 fun a w ha hs=>⟨d1,d2,cv ha,(am [1] hs z)⟩
      have hL:(c9)=false:=w2 b7
      try rw [hL]
      cases hm
      exact yw (an z) z z<|yw (f3 z z) z z<|pf z<|mv z<|un z z<|un z z<|un z z<|un z z<|pt z<|u1 fun a w ha hs=>⟨d1,d2,cv ha,(am [1] hs z)⟩
     have hM:(c4.name)=false:=w2 b5
     try rw [hM]
     refine lw 0 dr z z<|fw y7 z z<|lw 1 r9 z z<|?_
     rcases iS hm with⟨b8,hm⟩|⟨b8,hm⟩
     ·cases hm
      exact yw (g6 b8 (aV z z)) z z<|yw (g6 (by decide) (Yields.bned tb4 z z)) z z<|pf z<|mv z<|fw dF z z<|lw 0 dr z z<|mw z z<|un z z<|un z z<|un z z<|un z z<|yw (n3 z z) z z<|pf z<|mv z<|fw g9 z z<|lw 1 aJ z z<|yw (u0 bj z) z z<|yw (t5 z z) z z<|pf z<|u1 fun a w ha hs=>⟨b,(l0 _),cv ha,(am [1] hs z)⟩
     cases hm
     exact yw (t6 b8 (aV z z)) z z<|yw (t6 (by decide) (Yields.bned tb4 z z)) z z<|pf z<|mv z<|un z z<|un z z<|un z z<|k2 p1 z z<|k2 p1 z z<|k2 p1 z z<|k2 p1 z z<|un z z<|pt z<|mv z<|un z z<|un z z<|un z z<|un z z<|pt z<|u1 fun a w ha hs=>⟨b,(l0 _),cv ha,(am [1] hs z)⟩
    cases hm
    exact yv (t6 b3 (p4 z z)) z<|mv z<|un z z<|un z z<|un z z<|un z z<|un z z<|un z z<|pt z<|mv z<|un z z<|un z z<|un z z<|k2 p1 z z<|k2 p1 z z<|k2 p1 z z<|k2 p1 z z<|un z z<|pt z<|mv z<|un z z<|un z z<|un z z<|un z z<|pt z<|u1 fun a w ha hs=>⟨b,(l0 _),cv ha,(am [1] hs z)⟩
   rintro⟨E,d3,ha,hs⟩
   refine us ha hs<|cB hm z (fun iz hm=>?_) fun iA hm=>?_
   ·cases hm
    obtain rfl:=aR x
    exact ssr<|sg z<|snn<|u2<|v0<|m2<|v0<|k0 z z ⟨z,z⟩ (aF [] z)
   refine skn<|ssr<|fa g9 z<|ld 0 aJ z<|yv (u0 bj z) z<|mv z<|snn<|t1<|lM hm (fun b9 h s=>∃M,m3 E M∧h [(107,sl l a0.Names m),(108,lV a0.Names),(109,nV b9)]∧s M []) ?_ ?_
   ·intro a w ha hs
    exact⟨E,(l0 _),cv ha,(am [] hs z)⟩
   rintro b9 iB iC hm cs a w ⟨M,cu,ha,hs⟩
   refine us ha hs<|ssr<|yv (r2 z z) z<|snn<|x1<|cP hm z (fun hN hm=>?_) fun iD hm=>?_
   ·refine skn<|x1<|t1<|ssr<|oS hm fun iE hO hm=>?_
    obtain⟨iG,iH,hP,hQ,hR⟩:=(x0 (s0 e (s0 gS (s0 d3 cu))) y).nidx hO
    obtain rfl:=hQ
    refine yv (t2 hP bM z z) z<|yv (v1 z (k5 hR r9 z)) z<|sg z<|snn<|ssr<|mv z<|oS hm fun d4 hS hm=>cl (u8 hS) z z<|?_
    rintro _ hT _ ⟨rfl,rfl⟩ hU
    refine yv (p5 z) z<|snn<|?_
    refine m5 z ?_ ?_
    ·intro c0
     replace c0:¬(d4=true):=nb_t c0
     replace hm:=iF hm c0
     cases hm
     obtain rfl:=aR cs
     obtain rfl:=aR x
     exact ssr<|sg z<|snn<|u2<|m2<|v0<|v0<|m2<|m2<|v0<|k0 z z ⟨z,z⟩ (aF [] z)
    intro c1
    replace c1:d4=true:=nb_f c1
    replace hm:=iT hm c1
    cases hm
    exact k4<|f2<|s4<|q0<|yv (s3 (j:=1) z z z (by have q_0:=hN;have q_1:=y.bnd.2;omega)) z<|mv z<|snn fun a w ha hs=>⟨b9+1,aL cs,hT,(s0 cu hU),cv ha,(am [] hs z)⟩
   cases hm
   obtain rfl:=aR cs
   exact u4<|p0<|p0<|u3<|f2 fun a w ha hs=>⟨(),z,M,(s0 d3 cu),cv ha,(am [] hs z)⟩
  have d:=D
  rw [k] at hm d;rw [INode.on_c204] at hm
  obtain⟨iI,hV,rfl⟩:=Ival.agg d
  obtain rfl:=DCases.opn hV
  cases hm
  exact yv (cZ (z0:=(.agg #[.bool false,.bool false])) eE (by decide) fH z) z<|yv (r0 z z) z<|yv (r0 z z) z<|snn<|cg z<|ssr<|yv (cZ (z0:=(.agg #[.bool false])) fB (by decide) fV z) z<|yv (r0 z z) z<|yv (r0 z z) z<|snn<|cg z<|ssr<|yv (cZ (z0:=(.agg #[iV 0,.bool false,.bool false])) fA (by decide) gg z) z<|yv (r0 z z) z<|yv (r0 z z) z<|snn<|cg z<|k4<|f2 fun a w ha hs=>⟨(),z,b,(l0 _),cv ha,(am [] hs z)⟩
 rintro⟨c3,rfl,P,iJ,ha,hs⟩
 replace hm:=aL x
 cases hm
 exact us ha hs<|ssr<|sg z<|snn<|u2<|k0 z z ⟨z,z⟩ (aF [] z)
abbrev bQ (g:Nat):Prop:=∀{F}{a0:DExpr}{a b c d e f}(h:Fsl 16 Kind.str F a b a0.Names) (i:Fsl 104 KDExpr F c d a0.Kids) (j:Fsl 160 KDAlt F e f a0.Alts) {r}(_:m_core_isPlain g a0=some r),
    CallSp Tryz.prog 68 #[.agg (ca a0 a b c d e f)] F [] (fun u F' H'=>u=(.bool r)∧H'=[])
theorem ei (B:bQ g):bQ (g+1):=by
 intro F a0 C D u v E G H d I r hm
 rw [m_core_isPlain] at hm
 refine f1 Tryz.func68 z z fun a2 a3 a4=>ssr<|ba z fun x=>sg z<|snn<|x1<|oC hm (fun e h s=>∃b,m3 F b∧h [(1,pP x 0),(17,.bool e)]∧s b [bK x (ca a0 C D u v E G) 64]) (fun e hm=>?_) fun e hm a w=>?_
 ·refine q0<|fa n8 z<|ld 0 r6 z<|?_
  rcases iS hm with⟨f,hm⟩|⟨f,hm⟩
  ·cases hm
   exact yv (t3 f (w1 z z)) z<|mv z<|un z z<|un z z<|un z z<|pt z<|mv z<|un z z<|un z z<|un z z<|pt z<|u1 fun a w ha hs=>⟨F,(l0 _),cv ha,(am [0] hs z)⟩
  refine yv (s2 f (w1 z z)) z<|mv z<|fw n8 z z<|lw 0 r6 z z<|?_
  rcases iS hm with⟨i,hm⟩|⟨i,hm⟩
  ·cases hm
   exact yw (t3 i (w1 z z)) z z<|pf z<|mv z<|un z z<|un z z<|un z z<|pt z<|u1 fun a w ha hs=>⟨F,(l0 _),cv ha,(am [0] hs z)⟩
  refine yw (s2 i (w1 z z)) z z<|pf z<|mv z<|yw (g5 0 m7 z) z z<|oS hm fun a5 J hm=>f5 _ (bR (a0:=a0) H d I J) z (A1 z) z en69.out z z z<|?_
  rintro _ K _ ⟨rfl,rfl⟩ L
  cases hm
  exact yw (p5 z) z z<|pf z<|u1 fun a w ha hs=>⟨K,L,cv ha,(am [0] hs z)⟩
 rintro⟨b,M,ha,hs⟩
 refine us ha hs<|cB hm z (fun a6 hm=>?_) fun a7 hm=>?_
 ·cases hm
  exact ssr<|sg z<|snn<|u2<|v0<|k0 z z ⟨z,z⟩ (aF [] z)
 refine skn<|oD hm (fun k h s=>∃y:Unit,k=.inl y∧∃l,m3 b l∧h []∧s l []) (fun k hm m=>?_) fun k m a w=>?_
 ·refine ssr<|fa w7 z<|ld 0 da z<|yv (u0 ek z) z<|mv z<|snn<|t1<|lM hm (fun n h s=>∃c,m3 b c∧h [(19,sl u a0.Kids v),(20,lV a0.Kids),(21,nV n)]∧s c []) ?_ ?_
  ·intro a w ha hs
   exact⟨b,(l0 _),cv ha,(am [] hs z)⟩
  rintro n a8 a9 hm o a w ⟨c,p,ha,hs⟩
  refine us ha hs<|ssr<|yv (r2 z z) z<|snn<|x1<|cP hm z (fun N hm=>?_) fun b0 hm=>?_
  ·refine skn<|x1<|t1<|ssr<|oS hm fun P Q hm=>?_
   obtain⟨b1,b2,R,S,U⟩:=(x0 (s0 M p) d).nidx Q
   obtain⟨b3,b5,b6,b7,b8,b9,rfl,V,W,X⟩:=DExpr.opn S
   refine yv (t2 R el z z) z<|yv (v1 z (k3 U m7)) z<|aa eK z fun cs=>sN m7 z z<|snn<|ssr<|lk 0 m7 z z<|oS hm fun A Y hm=>cl (B (a0:=P) V W X Y) z z<|?_
   rintro _ Z _ ⟨rfl,rfl⟩ a1
   refine yv (p5 z) z<|snn<|?_
   refine m5 z ?_ ?_
   ·intro q
    replace q:¬(A=true):=nb_t q
    replace hm:=iF hm q
    cases hm
    obtain rfl:=aR o
    obtain rfl:=aR m
    exact ssr<|sg z<|snn<|u2<|m2<|v0<|v0<|m2<|v0<|k0 z z ⟨z,z⟩ (aF [] z)
   intro t
   replace t:A=true:=nb_f t
   replace hm:=iT hm t
   cases hm
   exact k4<|f2<|s4<|q0<|yv (s3 (j:=1) z z z (by have q_0:=N;have q_1:=d.bnd.2;omega)) z<|mv z<|snn fun a w ha hs=>⟨n+1,aL o,Z,(s0 p a1),cv ha,(am [] hs z)⟩
  cases hm
  obtain rfl:=aR o
  exact u4<|p0<|p0<|u3 fun a w ha hs=>⟨(),z,c,p,cv ha,(am [] hs z)⟩
 rintro⟨y,rfl,l,cu,ha,hs⟩
 replace hm:=aL m
 cases hm
 exact us ha hs<|ssr<|sg z<|snn<|u2<|k0 z z ⟨z,z⟩ (aF [] z)
theorem bF:∀{g},bQ g
 |0=>by intros;rename_i hm;exact nN hm
 |_+1=>ei bF
theorem dZ {a0:DPat}(G:Fsl 56 KDPat F d e a0.Kids) (hm:m_core_isSimple g a0=some r):
    CallSp Tryz.prog 70 #[.agg #[iV a0.Op,sV a0.Name,iV a0.N,sl d a0.Kids e]] F [] (fun u F' H'=>u=(.bool r)∧H'=[]):=by
 unfold m_core_isSimple at hm
 refine f1 Tryz.func70 z z fun a5 a6 a7=>ssr<|ba z fun H=>sg z<|snn<|x1<|ssr<|fa w9 z<|ld 0 r6 z<|snn<|t1<|ssr<|yv (w1 z z) z<|sg z<|snn<|cP hm z (fun a8 hm=>?_) fun a9 hm=>?_
 ·refine oC hm (fun k h s=>∃l,m3 F l∧h [(2,.bool k)]∧s l []) (fun k hm=>?_) fun k hm a w=>?_
  ·refine q0<|fa t9 z<|ld 0 r9 z<|?_
   rcases iS hm with⟨m,hm⟩|⟨m,hm⟩
   ·refine yv (t3 m (v6 z z)) z<|mv z<|fw aT z z<|lw 0 fc z z<|yw (u0 eZ z) z z<|?_
    rcases iS hm with⟨n,hm⟩|⟨n,hm⟩
    ·refine yw (t3 n (w1 z z)) z z<|pt z<|mv z<|fw bu z z<|lw 0 r6 z z<|oS hm fun b0 M hm=>f5 _ (p8 M) z (A1 z) z en75.out z z z<|?_
     rintro _ N _ ⟨rfl,rfl⟩ P
     cases hm
     exact pt z<|sg z<|u1 fun a w ha hs=>⟨N,P,cv ha,(am [] hs z)⟩
    cases hm
    exact yw (s2 n (w1 z z)) z z<|pt z<|mv z<|un z z<|un z z<|un z z<|pf z<|sg z<|u1 fun a w ha hs=>⟨F,(l0 _),cv ha,(am [] hs z)⟩
   cases hm
   exact yv (s2 m (v6 z z)) z<|mv z<|un z z<|un z z<|un z z<|un z z<|pf z<|mv z<|un z z<|un z z<|un z z<|pf z<|sg z<|u1 fun a w ha hs=>⟨F,(l0 _),cv ha,(am [] hs z)⟩
  rintro⟨l,b1,ha,hs⟩
  cases hm
  exact us ha hs<|u2<|m2<|v0<|k0 z z ⟨z,z⟩ (aF [] z)
 refine ssr<|yv (w1 z z) z<|sg z<|snn<|cP hm z (fun b3 hm=>?_) fun b4 hm=>?_
 ·refine x1<|oC hm (fun o h s=>∃c,m3 F c∧h [(1,pP H 0),(39,.bool o)]∧s c [bK H #[iV a0.Op,sV a0.Name,iV a0.N,sl d a0.Kids e] 139]) (fun o hm=>?_) fun o hm a w=>?_
  ·refine q0<|fa bu z<|ld 0 r6 z<|?_
   rcases iS hm with⟨p,hm⟩|⟨p,hm⟩
   ·refine yv (g6 p (p4 z z)) z<|mv z<|fw t9 z z<|lw 0 r9 z z<|oS hm fun I Q hm=>f5 _ (ar Q) z (A1 z) z en74.out z z z<|?_
    rintro _ J _ ⟨rfl,rfl⟩ K
    rcases iS hm with⟨q,hm⟩|⟨q,hm⟩
    ·have R:(I)=true:=q
     try rw [R]
     cases hm
     exact yw (v7 z) z z<|pf z<|mv z<|fw aT z z<|lw 0 fc z z<|yw (u0 eZ z) z z<|yw (t5 z z) z z<|pf z<|u1 fun a w ha hs=>⟨J,K,cv ha,(am [0] hs z)⟩
    have S:(I)=false:=w2 q
    try rw [S]
    cases hm
    exact yw (an z) z z<|pf z<|mv z<|un z z<|un z z<|un z z<|un z z<|pt z<|u1 fun a w ha hs=>⟨J,K,cv ha,(am [0] hs z)⟩
   cases hm
   exact yv (t6 p (p4 z z)) z<|mv z<|un z z<|un z z<|un z z<|un z z<|pt z<|mv z<|un z z<|un z z<|un z z<|un z z<|pt z<|u1 fun a w ha hs=>⟨F,(l0 _),cv ha,(am [0] hs z)⟩
  rintro⟨c,U,ha,hs⟩
  refine us ha hs<|cB hm z (fun b5 hm=>?_) fun b6 hm=>?_
  ·cases hm
   exact ssr<|sg z<|snn<|u2<|v0<|m2<|v0<|k0 z z ⟨z,z⟩ (aF [] z)
  refine skn<|oD hm (fun t h s=>∃L:Unit,t=.inl L∧∃v,m3 c v∧h []∧s v []) (fun t hm x=>?_) fun t x a w=>?_
  ·refine ssr<|fa aT z<|ld 0 fc z<|yv (u0 eZ z) z<|mv z<|snn<|t1<|lM hm (fun f h s=>∃b,m3 c b∧h [(41,sl d a0.Kids e),(42,lV a0.Kids),(43,nV f)]∧s b []) ?_ ?_
   ·intro a w ha hs
    exact⟨c,(l0 _),cv ha,(am [] hs z)⟩
   rintro f b7 b8 hm y a w ⟨b,A,ha,hs⟩
   refine us ha hs<|ssr<|yv (r2 z z) z<|snn<|x1<|cP hm z (fun V hm=>?_) fun b9 hm=>?_
   ·refine skn<|x1<|t1<|ssr<|oS hm fun cs W hm=>?_
    obtain⟨cu,c0,X,Y,Z⟩:=(x0 (s0 U A) G).nidx W
    obtain⟨c1,c2,rfl,c3⟩:=DPat.opn Y
    refine yv (t2 X gh z z) z<|yv (v1 z (k3 Z dh)) z<|aa fW z fun c4=>sN dh z z<|snn<|oC hm (fun B h s=>∃i,m3 b i∧h [(41,sl d a0.Kids e),(42,lV a0.Kids),(43,nV f),(66,.bool B)]∧s i []) (fun B hm=>?_) fun B hm a w=>?_
    ·refine q0<|fa w9 z<|ld 0 r6 z<|?_
     rcases iS hm with⟨C,hm⟩|⟨C,hm⟩
     ·refine yv (g6 C (p4 z z)) z<|mv z<|fw bu z z<|lw 0 r6 z z<|?_
      rcases iS hm with⟨D,hm⟩|⟨D,hm⟩
      ·refine yw (g6 D (p4 z z)) z z<|pf z<|mv z<|fw aT z z<|lw 0 fc z z<|yw (u0 eZ z) z z<|?_
       rcases iS hm with⟨E,hm⟩|⟨E,hm⟩
       ·cases hm
        exact yw (t3 E (t5 z z)) z z<|pf z<|mv z<|un z z<|un z z<|un z z<|un z z<|pt z<|u1 fun a w ha hs=>⟨b,(l0 _),cv ha,(am [] hs z)⟩
       refine yw (s2 E (t5 z z)) z z<|pf z<|mv z<|fw t9 z z<|lw 0 r9 z z<|oS hm fun c5 a1 hm=>f5 _ (u8 a1) z (A1 z) z en34.out z z z<|?_
       rintro _ a2 _ ⟨rfl,rfl⟩ a3
       cases hm
       exact yw (p5 z) z z<|pf z<|u1 fun a w ha hs=>⟨a2,a3,cv ha,(am [] hs z)⟩
      cases hm
      exact yw (t6 D (p4 z z)) z z<|pf z<|mv z<|un z z<|un z z<|un z z<|un z z<|pt z<|mv z<|un z z<|un z z<|un z z<|un z z<|pt z<|u1 fun a w ha hs=>⟨b,(l0 _),cv ha,(am [] hs z)⟩
     cases hm
     exact yv (t6 C (p4 z z)) z<|mv z<|un z z<|un z z<|un z z<|pt z<|mv z<|un z z<|un z z<|un z z<|un z z<|pt z<|mv z<|un z z<|un z z<|un z z<|un z z<|pt z<|u1 fun a w ha hs=>⟨b,(l0 _),cv ha,(am [] hs z)⟩
    rintro⟨i,a4,ha,hs⟩
    refine us ha hs<|cB hm z (fun c6 hm=>?_) fun c7 hm=>?_
    ·cases hm
     obtain rfl:=aR y
     obtain rfl:=aR x
     exact ssr<|sg z<|snn<|u2<|m2<|v0<|v0<|m2<|v0<|m2<|v0<|k0 z z ⟨z,z⟩ (aF [] z)
    cases hm
    exact k4<|f2<|s4<|q0<|yv (s3 (j:=1) z z z (by have q_0:=V;have q_1:=G.bnd.2;omega)) z<|mv z<|snn fun a w ha hs=>⟨f+1,aL y,i,(s0 A a4),cv ha,(am [] hs z)⟩
   cases hm
   obtain rfl:=aR y
   exact u4<|p0<|p0<|u3 fun a w ha hs=>⟨(),z,b,A,cv ha,(am [] hs z)⟩
  rintro⟨L,rfl,v,c8,ha,hs⟩
  replace hm:=aL x
  cases hm
  exact us ha hs<|ssr<|sg z<|snn<|u2<|m2<|v0<|k0 z z ⟨z,z⟩ (aF [] z)
 cases hm
 exact k4<|f2<|s4<|ssr<|sg z<|snn<|u2<|k0 z z ⟨z,z⟩ (aF [] z)
abbrev cf (g:Nat):Prop:=∀{F}{a0:DExpr}{a b c d e f}(h:Fsl 16 Kind.str F a b a0.Names) (i:Fsl 104 KDExpr F c d a0.Kids) (j:Fsl 160 KDAlt F e f a0.Alts) {r}(_:m_core_isBody g a0=some r),
    CallSp Tryz.prog 35 #[.agg (ca a0 a b c d e f)] F [] (fun u F' H'=>u=(.bool r)∧H'=[])
theorem eB (V:cf g):cf (g+1):=by
 intro F a0 K L M N i k P l m r hm
 rw [m_core_isBody] at hm
 refine f1 Tryz.func35 z z fun e1 e2 e3=>ssr<|ba z fun n=>sg z<|snn<|x1<|oC hm (fun q h s=>h [(1,pP n 0),(12,.bool q)]∧s F [bK n (ca a0 K L M N i k) 64]) (fun q hm=>?_) fun q hm a w=>?_
 ·refine q0<|fa n8 z<|ld 0 r6 z<|?_
  rcases iS hm with⟨t,hm⟩|⟨t,hm⟩
  ·cases hm
   exact yv (g6 t (p4 z z)) z<|mv z<|un z z<|un z z<|un z z<|pf z<|u1<|eN [0] z
  cases hm
  exact yv (t6 t (p4 z z)) z<|mv z<|fw n8 z z<|lw 0 r6 z z<|yw (p4 z z) z z<|pt z<|u1<|eN [0] z
 rintro⟨ha,hs⟩
 refine us ha hs<|cB hm z (fun e4 hm=>?_) fun e5 hm=>?_
 ·refine ssr<|lk 0 m7 z z<|oS hm fun e6 W hm=>cl (bF (a0:=a0) P l m W) z z<|?_
  rintro _ e7 _ ⟨rfl,rfl⟩ e8
  cases hm
  exact sg z<|snn<|u2<|v0<|k0 z z ⟨z,z⟩ (aF [] z)
 refine skn<|x1<|oC hm (fun u h s=>∃c,m3 F c∧h [(1,pP n 0),(33,.bool u)]∧s c [bK n (ca a0 K L M N i k) 64]) (fun u hm=>?_) fun u hm a w=>?_
 ·refine q0<|lk 0 m7 z z<|oS hm fun Q X hm=>cl (bR (a0:=a0) P l m X) z z<|?_
  rintro _ R _ ⟨rfl,rfl⟩ d
  rcases iS hm with⟨x,hm⟩|⟨x,hm⟩
  ·have Y:(Q)=true:=x
   try rw [Y]
   refine yv (v7 z) z<|mv z<|fw w7 z z<|lw 0 da z z<|oS hm fun e9 y hm=>?_
   replace y:=nlit y
   obtain⟨Z,fo,a1,a2,a3⟩:=(x0 d l).idx y
   obtain⟨f0,gP,gQ,gR,gS,gT,rfl,gU,gV,gW⟩:=DExpr.opn a2
   refine yw (t2 a1 el z z) z z<|yw (bg (v:=(.pointer (some Z))) z (fun _=>by kernel_rfl)) z z<|yw (v1 z (k5 a3 r6 z)) z z<|?_
   rcases iS hm with⟨A,hm⟩|⟨A,hm⟩
   ·refine yw (g6 A (p4 z z)) z z<|pf z<|mv z<|fw w7 z z<|lw 0 da z z<|oS hm fun a4 B hm=>?_
    replace B:=nlit B
    obtain⟨gX,gY,a5,a6,a7⟩:=(x0 d l).idx B
    obtain⟨gZ,g0,g1,g2,g3,g7,rfl,a8,a9,b0⟩:=DExpr.opn a6
    refine yw (t2 a5 el z z) z z<|yw (v1 z (k3 a7 m7)) z z<|oS hm fun hb b1 hm=>f5 _ (bR (a0:=a4) a8 a9 b0 b1) z (A1 z) z en69.out z z z<|?_
    rintro _ b2 _ ⟨rfl,rfl⟩ b3
    cases hm
    exact yw (p5 z) z z<|pf z<|u1 fun a w ha hs=>⟨b2,(s0 d b3),cv ha,(am [0] hs z)⟩
   cases hm
   exact yw (t6 A (p4 z z)) z z<|pf z<|mv z<|un z z<|un z z<|un z z<|un z z<|un z z<|un z z<|pt z<|u1 fun a w ha hs=>⟨R,d,cv ha,(am [0] hs z)⟩
  have b5:(Q)=false:=w2 x
  try rw [b5]
  cases hm
  exact yv (an z) z<|mv z<|un z z<|un z z<|un z z<|un z z<|un z z<|un z z<|pt z<|mv z<|un z z<|un z z<|un z z<|un z z<|un z z<|un z z<|pt z<|u1 fun a w ha hs=>⟨R,d,cv ha,(am [0] hs z)⟩
 rintro⟨c,b6,ha,hs⟩
 refine us ha hs<|cB hm z (fun hc hm=>?_) fun hd hm=>?_
 ·cases hm
  exact ssr<|sg z<|snn<|u2<|v0<|k0 z z ⟨z,z⟩ (aF [] z)
 refine skn<|oD hm (fun C h s=>∃S:Unit,C=.inl S∧∃D,m3 c D∧h []∧s D []) (fun C hm E=>?_) fun C E a w=>?_
 ·refine ssr<|fa u9 z<|ld 0 en z<|yv (u0 eY z) z<|mv z<|snn<|t1<|lM hm (fun o h s=>∃e,m3 c e∧h [(35,sl i a0.Alts k),(36,lV a0.Alts),(37,nV o)]∧s e []) ?_ ?_
  ·intro a w ha hs
   exact⟨c,(l0 _),cv ha,(am [] hs z)⟩
  rintro o he hf hm G a w ⟨e,H,ha,hs⟩
  refine us ha hs<|ssr<|yv (r2 z z) z<|snn<|x1<|cP hm z (fun b7 hm=>?_) fun hg hm=>?_
  ·refine skn<|x1<|t1<|ssr<|oS hm fun b b8 hm=>?_
   obtain⟨hh,hi,b9,cs,cu⟩:=(x0 (s0 b6 H) m).nidx b8
   obtain⟨c0,c1,c2,c3,c4,c5,c6,c7,rfl,c8,c9,d1,d2⟩:=DAlt.opn cs
   refine yv (t2 b9 fr z z) z<|yv (v1 z (k3 cu ci)) z<|aa eD z fun hj=>sN ci z z<|snn<|oC hm (fun I h s=>∃p,m3 e p∧h [(35,sl i a0.Alts k),(36,lV a0.Alts),(37,nV o),(50,.bool I)]∧s p []) (fun I hm=>?_) fun I hm a w=>?_
   ·refine q0<|fa y6 z<|yv (v1 z (n7 (vs:=[iV b.P.Op,sV b.P.Name,iV b.P.N,sl c0 b.P.Kids c1]) 0 z dh z z)) z<|oS hm fun U d3 hm=>cl (dZ (a0:=b.P) c8 d3) z z<|?_
    rintro _ d4 _ ⟨rfl,rfl⟩ f
    rcases iS hm with⟨J,hm⟩|⟨J,hm⟩
    ·have d5:(U)=true:=J
     try rw [d5]
     refine yv (v7 z) z<|mv z<|fw af z z<|yw (v1 z (n7 (vs:=[iV b.E.Op,sV b.E.Name,iV b.E.N,sl c2 b.E.Names c3,sl c4 b.E.Kids c5,sl c6 b.E.Alts c7]) 0 z m7 z z)) z z<|oS hm fun hk d6 hm=>f5 _ (V (a0:=b.E) (x0 f c9) (x0 f d1) (x0 f d2) d6) z (A1 z) z en35.out z z z<|?_
     rintro _ d7 _ ⟨rfl,rfl⟩ d8
     cases hm
     exact yw (p5 z) z z<|pf z<|u1 fun a w ha hs=>⟨d7,(s0 f d8),cv ha,(am [] hs z)⟩
    have d9:(U)=false:=w2 J
    try rw [d9]
    cases hm
    exact yv (an z) z<|mv z<|un z z<|un z z<|un z z<|un z z<|pt z<|u1 fun a w ha hs=>⟨d4,f,cv ha,(am [] hs z)⟩
   rintro⟨p,e0,ha,hs⟩
   refine us ha hs<|cB hm z (fun hl hm=>?_) fun hn hm=>?_
   ·cases hm
    obtain rfl:=aR G
    obtain rfl:=aR E
    exact ssr<|sg z<|snn<|u2<|m2<|v0<|v0<|m2<|v0<|k0 z z ⟨z,z⟩ (aF [] z)
   cases hm
   exact k4<|f2<|s4<|q0<|yv (s3 (j:=1) z z z (by have q_0:=b7;have q_1:=m.bnd.2;omega)) z<|mv z<|snn fun a w ha hs=>⟨o+1,aL G,p,(s0 H e0),cv ha,(am [] hs z)⟩
  cases hm
  obtain rfl:=aR G
  exact u4<|p0<|p0<|u3 fun a w ha hs=>⟨(),z,e,H,cv ha,(am [] hs z)⟩
 rintro⟨S,rfl,D,ho,ha,hs⟩
 replace hm:=aL E
 cases hm
 exact us ha hs<|ssr<|sg z<|snn<|u2<|k0 z z ⟨z,z⟩ (aF [] z)
theorem cX:∀{g},cf g
 |0=>by intros;rename_i hm;exact nN hm
 |_+1=>eB cX
theorem k7 (hm:m_core_builtins g=some r):
    CallSp Tryz.prog 46 #[] F [] (fun u F' H'=>∃a b,u=(.map (some a))∧Mrel (Kind.int .i64) false F' b r∧H'=[mapv t0 a b]):=by
 unfold m_core_builtins at hm
 refine f1 Tryz.func46 z z fun L M N=>ssr<|sg z<|snn<|ssr<|n4 (P:=Tryz.prog) t0 p1 z fun c=>oS hm fun Q d hm=>mI d (mN (Kind.int .i64) false) ⟨[iV 2],z,z⟩ aj aq z fun R e=>oS hm fun S f hm=>mI f e ⟨[iV 2],z,z⟩ aj aq z fun U h=>oS hm fun V i hm=>mI i h ⟨[iV 2],z,z⟩ aj aq z fun W j=>oS hm fun X k hm=>mI k j ⟨[iV 2],z,z⟩ aj aq z fun Y l=>oS hm fun Z m hm=>mI m l ⟨[iV 2],z,z⟩ aj aq z fun a0 n=>oS hm fun a1 o hm=>mI o n ⟨[iV 2],z,z⟩ aj aq z fun a2 p=>oS hm fun a3 q hm=>mI q p ⟨[iV 2],z,z⟩ aj aq z fun a4 s=>oS hm fun a5 t hm=>mI t s ⟨[iV 2],z,z⟩ aj aq z fun a6 v=>oS hm fun a7 w hm=>mI w v ⟨[iV 2],z,z⟩ aj aq z fun a8 x=>oS hm fun a9 y hm=>mI y x ⟨[iV 3],z,z⟩ aj aq z fun b0 A=>oS hm fun b2 B hm=>mI B A ⟨[iV 3],z,z⟩ aj aq z fun b3 C=>oS hm fun b4 D hm=>mI D C ⟨[iV 2],z,z⟩ aj aq z fun b5 E=>oS hm fun b6 G hm=>mI G E ⟨[iV 2],z,z⟩ aj aq z fun b7 H=>oS hm fun b8 I hm=>?_
 cases hm
 exact mI I H ⟨[iV 1],z,z⟩ aj aq z fun J K=>mv z<|sg z<|snn<|u2<|k0 z z ⟨c,J,z,K,z⟩ (aF [0] z)
end Go.Proofs.YtjkcinpmbgcgpaaGreatDoor
