/- Each function does what its plain words tell. -/
import Derived.Test.YtjkcinpmbgcgpaaGreatDoorW1
namespace Go.Proofs.YtjkcinpmbgcgpaaGreatDoor
open Go Go.Sy Go.RowKit
set_option linter.unusedVariables false
set_option autoImplicit true
set_option relaxedAutoImplicit true
set_option maxHeartbeats 1000000
open Go.Mir
theorem f9 {a0:DCore}(H:Fsl 64 KDData F b c a0.Datas) (jm:Fsl 144 KDFun F d e a0.Funs) (hm:m_core_NewTable g a0=some r):
    CallSp Tryz.prog 19 #[.agg #[sl b a0.Datas c,sl d a0.Funs e]] F [] (fun u F' H'=>∃j9 ka kb kc kd ke d0 kf kg kh ki kj kk kl km,u=(pP j9 0)∧Fsl 64 KDData F' ke d0 r.1∧Fsl 64 KDData F' kf kg r.2.1∧Fsl 144 KDFun F' kh ki r.2.2.1∧Mrel (Kind.int .i64) false F' kj r.2.2.2.1∧Mrel (Kind.int .i64) false F' kk r.2.2.2.2.1∧Mrel (Kind.int .i64) false F' kl r.2.2.2.2.2.1∧Mrel (Kind.int .i64) false F' km r.2.2.2.2.2.2∧H'=[bK j9 #[.map (some ka),.map (some kb),.map (some kc),sl ke r.1 d0,sl kf r.2.1 kg,sl kh r.2.2.1 ki,.map (some kd)] 81,mapv t0 ka kj,mapv t0 kb kk,mapv t0 kc kl,mapv t0 kd km]):=by
 unfold m_core_NewTable at hm
 refine f1 Tryz.func19 z z fun m n rx=>ssr<|ba z fun f=>sg z<|snn<|x1<|ds [10] hmix<|tp (listed':=#[O,O,O,O,T,O,O,O,O,O,O,O]) 4 z (fun _=>w3 fq z) z z<|tk (listed':=#[O,O,O,O,T,T,O,O,O,O,O,O]) [4,9,11] 5 z (p3 0 ft z) z z k1<|tk (listed':=#[O,O,O,O,T,T,O,T,O,O,O,O]) [4,9,11] 7 z (g5 0 aX z) z z k1<|oS hm fun o M hm=>oS hm fun l C hm=>oS hm fun I N hm=>?_
 refine f6 (listed':=#[T,T,T,T,T,T,T,T,T,T,T,T]) (fuel':=0) (fun a w=>∃t x y A B D E G jn jo jp jq p,m3 F p∧Fsl 64 KDData p D E l∧Mrel (Kind.int .i64) false p G I∧Fsl 64 KDData p jn jo l∧Fsl 64 KDData p jp jq l∧Has Tryz.f19.ntmps a [(0,.agg #[sl b a0.Datas c,sl d a0.Funs e]),(1,pP f 0),(2,.pointer none),(3,pP B 0),(12,.map (some t)),(13,.map (some x)),(14,.map (some y)),(16,pP f 0),(17,sl b a0.Datas c),(18,sl jn l jo),(19,.agg #[sl b a0.Datas c,sl d a0.Funs e]),(20,.map (some A)),(21,.agg #[.map (some t),.map (some x),.map (some y),sl jp l jq,sl b a0.Datas c,sl d a0.Funs e,.map (some A)]),(22,pP B 0)]∧Sat (eV m n F) p [bK f #[sl b a0.Datas c,sl d a0.Funs e] 25,mapv t0 t [],mapv t0 x [],mapv t0 y [],mapv t0 A G,bK B #[.map (some t),.map (some x),.map (some y),sl D l E,sl b a0.Datas c,sl d a0.Funs e,.map (some A)] 81] w) ?_ ?_
 rintro a w ⟨t,x,y,A,B,D,E,G,jn,jo,jp,jq,p,b1,kn,lJ,ry,rz,ha,hs⟩
 refine v8 ?_ ha hs
 clear ha hs a w
 refine dn<|s4<|oC hm (fun jr h s=>∃Q,Mrel (Kind.int .i64) false p Q jr∧h [(3,pP B 0)]∧s p [mapv t0 t Q,mapv t0 x [],mapv t0 y [],mapv t0 A G,bK B #[.map (some t),.map (some x),.map (some y),sl D l E,sl b a0.Datas c,sl d a0.Funs e,.map (some A)] 81]) (fun jr hm=>?_) fun jr hm a w=>?_
 ·refine ssr<|fa aA z<|ld 0 fs z<|yv (u0 fP z) z<|mv z<|snn<|t1<|lM hm (fun R h s=>∃gZ,Mrel (Kind.int .i64) false p gZ R.1∧h [(3,pP B 0),(24,sl d a0.Funs e),(25,lV a0.Funs),(26,nV R.2)]∧s p [mapv t0 t gZ,mapv t0 x [],mapv t0 y [],mapv t0 A G,bK B #[.map (some t),.map (some x),.map (some y),sl D l E,sl b a0.Datas c,sl d a0.Funs e,.map (some A)] 81]) ?_ ?_
  ·intro a w ha hs
   exact⟨[],(p2 b1 (mN (Kind.int .i64) false)),cv ha,(am [1,1,1,1,1] hs z)⟩
  rintro R rA rB hm ko a w ⟨gZ,g0,ha,hs⟩
  refine us ha hs<|ssr<|yv (r2 z z) z<|snn<|x1<|cP hm z (fun lK hm=>?_) fun rC hm=>?_
  ·refine skn<|oC hm (fun iA h s=>∃iB,Mrel (Kind.int .i64) false p iB iA∧h [(3,pP B 0),(24,sl d a0.Funs e),(25,lV a0.Funs),(26,nV R.2)]∧s p [mapv t0 t iB,mapv t0 x [],mapv t0 y [],mapv t0 A G,bK B #[.map (some t),.map (some x),.map (some y),sl D l E,sl b a0.Datas c,sl d a0.Funs e,.map (some A)] 81]) (fun iA hm=>?_) fun iA hm a w=>?_
   ·refine t1<|ssr<|mv z<|oS hm fun iC lL hm=>?_
    obtain⟨rD,rE,lN,lO,lP⟩:=(x0 b1 jm).nidx lL
    obtain⟨rF,rG,rH,rI,rJ,rK,rL,rM,rfl,rN,rO,rP,rQ⟩:=DFun.opn lO
    refine yv (t2 lN fF z z) z<|yv (v1 z (k3 lP eo)) z<|aa gb z fun rR=>sg z<|sN eo z z<|snn<|x1<|ds [] hmix<|tp (listed':=#[T,O,O,O,O,O,O,O,O,O,O,O]) 0 z (fun _=>x2 z) z z<|tp (listed':=#[T,T,O,O,O,O,O,O,O,O,O,O]) 1 z (fun _=>t4 z) z z<|tp (listed':=#[T,T,T,O,O,O,O,O,O,O,O,O]) 2 z (fun _=>w3 df z) z z<|tk (listed':=#[T,T,T,T,O,O,O,O,O,O,O,O]) [0,1,2,4,7,8,9,10,11] 3 z (p3 5 cj z) z z k1<|tp (listed':=#[T,T,T,T,T,O,O,O,O,O,O,O]) 4 z (fun _=>w3 bW z) z z<|tk (listed':=#[T,T,T,T,T,T,O,O,O,O,O,O]) [0,1,2,4,7,8,9,10,11] 5 z (p3 0 r9 z) z z k1<|oS hm fun rS lQ hm=>?_
    obtain⟨rT,lR,rU,kp,lS⟩:=p6 (k:=iC.Name) g0 (show Mval (Kind.int .i64) false _ (iV 0) 0 from⟨[iV 0],z,z⟩)
    rw [Mir.getD_some lQ] at kp
    obtain rfl:=kp
    obtain rfl:=(List.cons.inj (if_neg (show¬(false=true) by decide)▸lS)).1
    refine tk (listed':=#[T,T,T,T,T,T,T,O,O,O,O,O]) [0,1,2,4,7,8,9,10,11] 6 z (bw z z 1 z aj aq eL lR (Mrel.look (k:=iC.Name) (K:=(Kind.int .i64)) (agg:=false) (z0:=(iV 0)) (zd:=0) ⟨[iV 0],z,z⟩ g0).2) z z k1<|tp (listed':=#[T,T,T,T,T,T,T,T,O,O,O,O]) 7 z (fun _=>x2 z) z z<|tp (listed':=#[T,T,T,T,T,T,T,T,T,O,O,O]) 8 z (fun _=>r0 z z) z z<|tp (listed':=#[T,T,T,T,T,T,T,T,T,T,O,O]) 9 z (fun _=>r0 z z) z z<|tp (listed':=#[T,T,T,T,T,T,T,T,T,T,T,O]) 10 z (fun _=>w4 z) z z<|tp (listed':=#[T,T,T,T,T,T,T,T,T,T,T,T]) 11 z (fun _=>w4 z) z z<|dn<|s4<|ssr<|mv z<|yv (p5 z) z<|snn<|?_
    refine m5 z ?_ ?_
    ·intro js
     replace js:¬((Mir.assoc R.1 iC.Name).isSome=true):=nb_t js
     replace hm:=iF hm js
     refine ds [7] hmix<|tp (listed':=#[T,O,O,O,O,O,O,O]) 0 z (fun _=>x2 z) z z<|tp (listed':=#[T,T,O,O,O,O,O,O]) 1 z (fun _=>t4 z) z z<|tp (listed':=#[T,T,T,O,O,O,O,O]) 2 z (fun _=>w3 df z) z z<|tk (listed':=#[T,T,T,T,O,O,O,O]) [0,1,2,4,6] 3 z (p3 5 cj z) z z k1<|tp (listed':=#[T,T,T,T,T,O,O,O]) 4 z (fun _=>w3 bW z) z z<|tk (listed':=#[T,T,T,T,T,T,O,O]) [0,1,2,4,6] 5 z (p3 0 r9 z) z z k1<|tp (listed':=#[T,T,T,T,T,T,T,O]) 6 z (fun _=>x2 z) z z<|oN (listed':=#[T,T,T,T,T,T,T,T]) 7 z z fun lT=>oS hm fun rV lU hm=>?_
     cases hm
     exact pk1<|mP lU g0 ⟨[nV R.2],z,z⟩ aj aq z fun lW lX=>m1 lT (fun h=>by cases h)<|dn<|f2 fun a w ha hs=>⟨lW,lX,cv ha,(am [0,1,1,1,1] hs z)⟩
    intro jt
    replace jt:(Mir.assoc R.1 iC.Name).isSome=true:=nb_f jt
    replace hm:=iT hm jt
    cases hm
    exact k4<|f2 fun a w ha hs=>⟨gZ,g0,cv ha,(am [1,1,1,1,1] hs z)⟩
   rintro⟨iB,lY,ha,hs⟩
   cases hm
   exact us ha hs<|q0<|yv (s3 (j:=1) z z z (by have q_0:=lK;have q_1:=jm.bnd.2;omega)) z<|mv z<|snn fun a w ha hs=>⟨(iA,R.2+1),aL ko,iB,lY,cv ha,(am [0,0,0,0,0] hs z)⟩
  cases hm
  obtain rfl:=aR ko
  exact u4<|p0<|p0<|u3 fun a w ha hs=>⟨gZ,g0,cv ha,(am [0,0,0,0,0] hs z)⟩
 rintro⟨Q,lZ,ha,hs⟩
 refine us ha hs<|oC hm (fun iD h s=>∃iE iG,Mrel (Kind.int .i64) false p iE iD.1∧Mrel (Kind.int .i64) false p iG iD.2∧h [(3,pP B 0)]∧s p [mapv t0 t Q,mapv t0 x iE,mapv t0 y iG,mapv t0 A G,bK B #[.map (some t),.map (some x),.map (some y),sl D l E,sl b a0.Datas c,sl d a0.Funs e,.map (some A)] 81]) (fun iD hm=>?_) fun iD hm a w=>?_
 ·refine ssr<|mv z<|yv (t4 z) z<|fa fT z<|ld 4 ft z<|yv (u0 fE z) z<|mv z<|snn<|t1<|lM hm (fun J h s=>∃g1 g2,Mrel (Kind.int .i64) false p g1 J.1∧Mrel (Kind.int .i64) false p g2 J.2.1∧h [(3,pP B 0),(54,sl D l E),(55,lV l),(56,nV J.2.2)]∧s p [mapv t0 t Q,mapv t0 x g1,mapv t0 y g2,mapv t0 A G,bK B #[.map (some t),.map (some x),.map (some y),sl D l E,sl b a0.Datas c,sl d a0.Funs e,.map (some A)] 81]) ?_ ?_
  ·intro a w ha hs
   exact⟨[],[],(p2 b1 (mN (Kind.int .i64) false)),(p2 b1 (mN (Kind.int .i64) false)),cv ha,(am [0,0,0,0,0] hs z)⟩
  rintro J rW rX hm kq a w ⟨g1,g2,kr,ks,ha,hs⟩
  refine us ha hs<|ssr<|yv (r2 z z) z<|snn<|x1<|cP hm z (fun l5 hm=>?_) fun rY hm=>?_
  ·refine skn<|oC hm (fun b2 h s=>∃iH iI,Mrel (Kind.int .i64) false p iH b2.1∧Mrel (Kind.int .i64) false p iI b2.2∧h [(3,pP B 0),(54,sl D l E),(55,lV l),(56,nV J.2.2)]∧s p [mapv t0 t Q,mapv t0 x iH,mapv t0 y iI,mapv t0 A G,bK B #[.map (some t),.map (some x),.map (some y),sl D l E,sl b a0.Datas c,sl d a0.Funs e,.map (some A)] 81]) (fun b2 hm=>?_) fun b2 hm a w=>?_
   ·refine t1<|ssr<|mv z<|oS hm fun kt l6 hm=>?_
    obtain⟨rZ,sa,l7,l8,l9⟩:=kn.nidx l6
    obtain⟨sb,sc,ma,mb,rfl,sd,ku⟩:=DData.opn l8
    refine yv (t2 l7 dy z z) z<|yv (v1 z (k3 l9 aC)) z<|aa dS z fun se=>sg z<|sN aC z z<|snn<|ssr<|fa aU z<|ld 0 fd z<|yv (u0 fb z) z<|mv z<|snn<|t1<|lM hm (fun g3 h s=>∃iJ iK,Mrel (Kind.int .i64) false p iJ g3.1∧Mrel (Kind.int .i64) false p iK g3.2.1∧h [(3,pP B 0),(8,nV J.2.2),(54,sl D l E),(55,lV l),(56,nV J.2.2),(62,sl ma kt.Cons mb),(63,lV kt.Cons),(64,nV g3.2.2)]∧s p [mapv t0 t Q,mapv t0 x iJ,mapv t0 y iK,mapv t0 A G,bK B #[.map (some t),.map (some x),.map (some y),sl D l E,sl b a0.Datas c,sl d a0.Funs e,.map (some A)] 81]) ?_ ?_
    ·intro a w ha hs
     exact⟨g1,g2,kr,ks,cv ha,(am [1,1,1,1,1] hs z)⟩
    rintro g3 sf sh hm kv a w ⟨iJ,iK,kw,kx,ha,hs⟩
    refine us ha hs<|ssr<|yv (r2 z z) z<|snn<|x1<|cP hm z (fun mc hm=>?_) fun si hm=>?_
    ·refine skn<|x1<|t1<|ssr<|oS hm fun md me hm=>?_
     obtain⟨sj,sk,mf,mg,mh⟩:=ku.nidx me
     obtain⟨sm,sn,rfl,so⟩:=DCon.opn mg
     refine yv (t2 mf fy z z) z<|yv (v1 z (k3 mh di)) z<|aa fv z fun sp=>sN di z z<|snn<|x1<|ds [9] hmix<|tp (listed':=#[T,O,O,O,O,O,O,O,O,O]) 0 z (fun _=>x2 z) z z<|tp (listed':=#[T,T,O,O,O,O,O,O,O,O]) 1 z (fun _=>t4 z) z z<|tp (listed':=#[T,T,T,O,O,O,O,O,O,O]) 2 z (fun _=>w3 az z) z z<|tk (listed':=#[T,T,T,T,O,O,O,O,O,O]) [0,1,2,4,6,8] 3 z (p3 5 cj z) z z k1<|tp (listed':=#[T,T,T,T,T,O,O,O,O,O]) 4 z (fun _=>w3 cO z) z z<|tk (listed':=#[T,T,T,T,T,T,O,O,O,O]) [0,1,2,4,6,8] 5 z (p3 0 r9 z) z z k1<|tp (listed':=#[T,T,T,T,T,T,T,O,O,O]) 6 z (fun _=>w3 bY z) z z<|tk (listed':=#[T,T,T,T,T,T,T,T,O,O]) [0,1,2,4,6,8] 7 z (p3 0 cT z) z z k1<|tp (listed':=#[T,T,T,T,T,T,T,T,T,O]) 8 z (fun _=>u0 ch z) z z<|oN (listed':=#[T,T,T,T,T,T,T,T,T,T]) 9 z z fun mi=>oS hm fun mj mk hm=>pk2<|mP mk kw ⟨[lV md.Args],z,z⟩ aj aq z fun ml mm=>m1 mi (fun h=>by cases h)<|dn<|s4<|ds [7] hmix<|tp (listed':=#[T,O,O,O,O,O,O,O]) 0 z (fun _=>x2 z) z z<|tp (listed':=#[T,T,O,O,O,O,O,O]) 1 z (fun _=>t4 z) z z<|tp (listed':=#[T,T,T,O,O,O,O,O]) 2 z (fun _=>w3 ea z) z z<|tk (listed':=#[T,T,T,T,O,O,O,O]) [0,1,2,4,6] 3 z (p3 5 cj z) z z k1<|tp (listed':=#[T,T,T,T,T,O,O,O]) 4 z (fun _=>w3 cO z) z z<|tk (listed':=#[T,T,T,T,T,T,O,O]) [0,1,2,4,6] 5 z (p3 1 r9 z) z z k1<|tp (listed':=#[T,T,T,T,T,T,T,O]) 6 z (fun _=>x2 z) z z<|oN (listed':=#[T,T,T,T,T,T,T,T]) 7 z z fun mn=>oS hm fun mo mp hm=>?_
     cases hm
     exact pk3<|mP mp kx ⟨[nV J.2.2],z,z⟩ aj aq z fun mq mr=>m1 mn (fun h=>by cases h)<|dn<|f2<|s4<|q0<|yv (s3 (j:=1) z z z (by have q_0:=mc;have q_1:=ku.bnd.2;omega)) z<|mv z<|snn fun a w ha hs=>⟨(mj,mo,g3.2.2+1),aL kv,ml,mq,mm,mr,cv ha,(am [3,1,0,1,1] hs z)⟩
    cases hm
    obtain rfl:=aR kv
    exact u4<|p0<|p0<|u3<|f2 fun a w ha hs=>⟨iJ,iK,kw,kx,cv ha,(am [0,0,0,0,0] hs z)⟩
   rintro⟨iH,iI,ms,mu,ha,hs⟩
   cases hm
   exact us ha hs<|q0<|yv (s3 (j:=1) z z z (by have q_0:=l5;have q_1:=(f4 C).2;omega)) z<|mv z<|snn fun a w ha hs=>⟨(b2.1,b2.2,J.2.2+1),aL kq,iH,iI,ms,mu,cv ha,(am [0,0,0,0,0] hs z)⟩
  cases hm
  obtain rfl:=aR kq
  exact u4<|p0<|p0<|u3 fun a w ha hs=>⟨g1,g2,kr,ks,cv ha,(am [0,0,0,0,0] hs z)⟩
 rintro⟨iE,iG,mx,my,ha,hs⟩
 cases hm
 exact us ha hs<|ssr<|mv z<|sg z<|snn<|u2<|k0 z z ⟨B,t,x,y,A,D,E,b,c,d,e,Q,iE,iG,G,z,kn,(x0 b1 H),(x0 b1 jm),lZ,mx,my,lJ,z⟩ (aF [4,0,0,0,0] z)
 intro mz
 refine f6 (listed':=#[T,T,T,T,T,T,T,T,T,T,O,O]) (fuel':=2) (fun a w=>∃g7 hb hc hd iL iM iN he hf W,m3 F W∧Fsl 64 KDData W iL iM l∧Mrel (Kind.int .i64) false W iN I∧Fsl 64 KDData W he hf l∧Has Tryz.f19.ntmps a [(0,.agg #[sl b a0.Datas c,sl d a0.Funs e]),(1,pP f 0),(2,.pointer none),(12,.map (some g7)),(13,.map (some hb)),(14,.map (some hc)),(16,pP f 0),(17,sl b a0.Datas c),(18,sl iL l iM),(19,.agg #[sl b a0.Datas c,sl d a0.Funs e]),(20,.map (some hd)),(21,.agg #[.map (some g7),.map (some hb),.map (some hc),sl he l hf,sl b a0.Datas c,sl d a0.Funs e,.map (some hd)])]∧Sat (eV m n F) W [bK f #[sl b a0.Datas c,sl d a0.Funs e] 25,mapv t0 g7 [],mapv t0 hb [],mapv t0 hc [],mapv t0 hd iN] w) ?_ ?_
 rintro a w ⟨g7,hb,hc,hd,iL,iM,iN,he,hf,W,mA,mB,mC,ky,ha,hs⟩
 refine v8 ?_ ha hs
 clear ha hs a w
 refine StD.only (i:=10) z (by kernel_rfl) (listed':=#[T,T,T,T,T,T,T,T,T,T,T,O]) z ?_
 intro mD
 exact ba z fun mE=>m1 mD (fun h=>by cases h)<|tp (listed':=#[T,T,T,T,T,T,T,T,T,T,T,T]) 11 z (fun _=>w4 z) z z<|r4 mz fun a w ha hs=>⟨g7,hb,hc,hd,mE,he,hf,iN,iL,iM,he,hf,W,mA,ky,mC,mB,ky,cv ha,(am [1,1,1,1,1,0] hs z)⟩
 intro iO
 refine f6 (listed':=#[T,T,T,T,T,T,T,T,O,O,O,O]) (fuel':=4) (fun a w=>∃hg hh hi b4 b5 ju iP,m3 F iP∧Cat KDData iP ju l∧Bnd 64 l∧Has Tryz.f19.ntmps a [(0,.agg #[sl b a0.Datas c,sl d a0.Funs e]),(1,pP f 0),(2,.pointer none),(12,.map (some hg)),(13,.map (some hh)),(14,.map (some hi)),(16,pP f 0),(17,sl b a0.Datas c),(18,sl b4 l b5),(19,.agg #[sl b a0.Datas c,sl d a0.Funs e])]∧Sat (eV m n F) iP [bK f #[sl b a0.Datas c,sl d a0.Funs e] 25,mapv t0 hg [],mapv t0 hh [],mapv t0 hi [],rowo b4 l.length b5 106 3 ju] w) ?_ ?_
 rintro a w ⟨hg,hh,hi,b4,b5,ju,iP,kz,mF,mG,ha,hs⟩
 refine v8 ?_ ha hs
 clear ha hs a w
 refine StD.only (i:=8) z (by kernel_rfl) (listed':=#[T,T,T,T,T,T,T,T,T,O,O,O]) z ?_
 intro mH
 refine cl (k7 N) z z<|?_
 rintro _ sq _ ⟨kA,mJ,rfl,mK,rfl⟩ jv
 refine m1 mH (fun _=>(aG [1] (s0 kz jv) (l0 _) z))<|tp (listed':=#[T,T,T,T,T,T,T,T,T,T,O,O]) 9 z (fun _=>v2 (v:=(.agg #[.map (some hg),.map (some hh),.map (some hi),sl b4 l b5,sl b a0.Datas c,sl d a0.Funs e,.map (some kA)])) (A2 z) (fun _=>by kernel_rfl)) z z<|r4 iO<|pk5<|fz z (g4 jv mF) mG fun mL kB kC=>?_
 intro a w ha hs
 exact⟨hg,hh,hi,kA,b4,b5,mJ,b4,b5,mL,(s0 kz (s0 jv kB)),kC,(p2 kB mK),kC,cv ha,(am [1,1,1,1,0] hs z)⟩
 intro iQ
 refine f6 (listed':=#[T,T,O,T,T,T,T,T,T,O,O,O]) (fuel':=4) (fun a w=>∃hj hk hl b6 b7 jw iR hn,m3 F hn∧Cat KDData hn jw l∧Bnd 64 l∧Mrel (Kind.int .i64) false hn iR I∧Has Tryz.f19.ntmps a [(0,.agg #[sl b a0.Datas c,sl d a0.Funs e]),(1,pP f 0),(2,.pointer none),(12,.map (some hj)),(13,.map (some hk)),(16,pP f 0),(17,sl b a0.Datas c),(18,sl b6 l b7),(19,.agg #[sl b a0.Datas c,sl d a0.Funs e]),(20,.map (some hl))]∧Sat (eV m n F) hn [bK f #[sl b a0.Datas c,sl d a0.Funs e] 25,mapv t0 hj [],mapv t0 hk [],mapv t0 hl iR,rowo b6 l.length b7 106 3 jw] w) ?_ ?_
 rintro a w ⟨hj,hk,hl,b6,b7,jw,iR,hn,kD,mM,mO,mQ,ha,hs⟩
 refine v8 ?_ ha hs
 clear ha hs a w
 refine StD.only (i:=2) z (by kernel_rfl) (listed':=#[T,T,T,T,T,T,T,T,T,O,O,O]) z ?_
 intro mR
 refine n4 (P:=Tryz.prog) t0 p1 z fun kE=>m1 mR (fun _=>(aG [1] kD (l0 _) z))<|tp (listed':=#[T,T,T,T,T,T,T,T,T,T,O,O]) 9 z (fun _=>v2 (v:=(.agg #[.map (some hj),.map (some hk),.map (some kE),sl b6 l b7,sl b a0.Datas c,sl d a0.Funs e,.map (some hl)])) (A2 z) (fun _=>by kernel_rfl)) z z<|r4 iO<|pk5<|fz z mM mO fun mS kF kG=>?_
 intro a w ha hs
 exact⟨hj,hk,kE,hl,b6,b7,iR,b6,b7,mS,(s0 kD kF),kG,(p2 kF mQ),kG,cv ha,(am [1,1,1,0,0] hs z)⟩
 intro jy
 refine f6 (listed':=#[T,O,T,T,T,T,T,T,T,O,O,O]) (fuel':=4) (fun a w=>∃ho hp hq b8 b9 jz iU hr,m3 F hr∧Cat KDData hr jz l∧Bnd 64 l∧Mrel (Kind.int .i64) false hr iU I∧Has Tryz.f19.ntmps a [(0,.agg #[sl b a0.Datas c,sl d a0.Funs e]),(1,pP f 0),(2,.pointer none),(12,.map (some ho)),(14,.map (some hp)),(16,pP f 0),(17,sl b a0.Datas c),(18,sl b8 l b9),(19,.agg #[sl b a0.Datas c,sl d a0.Funs e]),(20,.map (some hq))]∧Sat (eV m n F) hr [bK f #[sl b a0.Datas c,sl d a0.Funs e] 25,mapv t0 ho [],mapv t0 hp [],mapv t0 hq iU,rowo b8 l.length b9 106 3 jz] w) ?_ ?_
 rintro a w ⟨ho,hp,hq,b8,b9,jz,iU,hr,kH,mT,mU,mV,ha,hs⟩
 refine v8 ?_ ha hs
 clear ha hs a w
 refine StD.only (i:=1) z (by kernel_rfl) (listed':=#[T,T,T,T,T,T,T,T,T,O,O,O]) z ?_
 intro mW
 refine n4 (P:=Tryz.prog) t0 p1 z fun kI=>m1 mW (fun _=>(aG [1] kH (l0 _) z))<|tp (listed':=#[T,T,T,T,T,T,T,T,T,T,O,O]) 9 z (fun _=>v2 (v:=(.agg #[.map (some ho),.map (some kI),.map (some hp),sl b8 l b9,sl b a0.Datas c,sl d a0.Funs e,.map (some hq)])) (A2 z) (fun _=>by kernel_rfl)) z z<|r4 iO<|pk5<|fz z mT mU fun mX kJ kK=>?_
 intro a w ha hs
 exact⟨ho,kI,hp,hq,b8,b9,iU,b8,b9,mX,(s0 kH kJ),kK,(p2 kJ mV),kK,cv ha,(am [1,1,0,0,0] hs z)⟩
 intro jA
 refine f6 (listed':=#[O,T,T,T,T,T,T,T,T,O,O,O]) (fuel':=4) (fun a w=>∃ht hu hv cs cu jB iW hw,m3 F hw∧Cat KDData hw jB l∧Bnd 64 l∧Mrel (Kind.int .i64) false hw iW I∧Has Tryz.f19.ntmps a [(0,.agg #[sl b a0.Datas c,sl d a0.Funs e]),(1,pP f 0),(2,.pointer none),(13,.map (some ht)),(14,.map (some hu)),(16,pP f 0),(17,sl b a0.Datas c),(18,sl cs l cu),(19,.agg #[sl b a0.Datas c,sl d a0.Funs e]),(20,.map (some hv))]∧Sat (eV m n F) hw [bK f #[sl b a0.Datas c,sl d a0.Funs e] 25,mapv t0 ht [],mapv t0 hu [],mapv t0 hv iW,rowo cs l.length cu 106 3 jB] w) ?_ ?_
 rintro a w ⟨ht,hu,hv,cs,cu,jB,iW,hw,kL,mY,mZ,na,ha,hs⟩
 refine v8 ?_ ha hs
 clear ha hs a w
 refine StD.only (i:=0) z (by kernel_rfl) (listed':=#[T,T,T,T,T,T,T,T,T,O,O,O]) z ?_
 intro nb
 refine n4 (P:=Tryz.prog) t0 p1 z fun kM=>m1 nb (fun _=>(aG [1] kL (l0 _) z))<|tp (listed':=#[T,T,T,T,T,T,T,T,T,T,O,O]) 9 z (fun _=>v2 (v:=(.agg #[.map (some kM),.map (some ht),.map (some hu),sl cs l cu,sl b a0.Datas c,sl d a0.Funs e,.map (some hv)])) (A2 z) (fun _=>by kernel_rfl)) z z<|r4 iO<|pk5<|fz z mY mZ fun nc kN kO=>?_
 intro a w ha hs
 exact⟨kM,ht,hu,hv,cs,cu,iW,cs,cu,nc,(s0 kL kN),kO,(p2 kN na),kO,cv ha,(am [1,0,0,0,0] hs z)⟩
 intro jC
 refine f6 (listed':=#[T,T,T,T,T,T,O,T,O,O,O,O]) (fuel':=5) (fun a w=>∃iX iY iZ jD jE jF hx,m3 F hx∧Cat KDData hx jF o∧Bnd 64 o∧Has Tryz.f19.ntmps a [(0,.agg #[sl b a0.Datas c,sl d a0.Funs e]),(1,pP f 0),(2,.pointer none),(12,.map (some iX)),(13,.map (some iY)),(14,.map (some iZ)),(15,sl jD o jE),(16,pP f 0),(17,sl b a0.Datas c),(19,.agg #[sl b a0.Datas c,sl d a0.Funs e])]∧Sat (eV m n F) hx [bK f #[sl b a0.Datas c,sl d a0.Funs e] 25,mapv t0 iX [],mapv t0 iY [],mapv t0 iZ [],rowo jD o.length jE 106 3 jF] w) ?_ ?_
 rintro a w ⟨iX,iY,iZ,jD,jE,jF,hx,jG,nd,sr,ha,hs⟩
 refine v8 ?_ ha hs
 clear ha hs a w
 refine StD.only (i:=6) z (by kernel_rfl) (listed':=#[T,T,T,T,T,T,T,T,O,O,O,O]) z ?_
 intro nf
 exact pk4<|pS C dy z z z z nd (x0 jG H) z fun ng nh ni nj=>m1 nf (fun _=>(aG [1] jG (l0 _) z))<|r4 iQ fun a w ha hs=>⟨iX,iY,iZ,ng,nh,ni,hx,jG,nj,(f4 C),cv ha,(am [1,1,1,1,0] hs z)⟩
 intro i0
 refine f6 (listed':=#[T,T,O,T,T,T,T,T,O,O,O,O]) (fuel':=5) (fun a w=>∃hy hz hA hB hC hD,m3 F hD∧Cat KDData hD hC l∧Bnd 64 l∧Has Tryz.f19.ntmps a [(0,.agg #[sl b a0.Datas c,sl d a0.Funs e]),(1,pP f 0),(2,.pointer none),(12,.map (some hy)),(13,.map (some hz)),(16,pP f 0),(17,sl b a0.Datas c),(18,sl hA l hB),(19,.agg #[sl b a0.Datas c,sl d a0.Funs e])]∧Sat (eV m n F) hD [bK f #[sl b a0.Datas c,sl d a0.Funs e] 25,mapv t0 hy [],mapv t0 hz [],rowo hA l.length hB 106 3 hC] w) ?_ ?_
 rintro a w ⟨hy,hz,hA,hB,hC,hD,i1,kP,kQ,ha,hs⟩
 refine v8 ?_ ha hs
 clear ha hs a w
 refine aW (i:=2) (j:=8) z z (by kernel_rfl) (l1:=#[T,T,T,T,T,T,T,T,O,O,O,O]) (l2:=#[T,T,O,T,T,T,T,T,T,O,O,O]) z z ?_ ?_
 ·intro nk
  exact n4 (P:=Tryz.prog) t0 p1 z fun nl=>m1 nk (fun _=>(aG [1] i1 (l0 _) z))<|r4 iQ fun a w ha hs=>⟨hy,hz,nl,hA,hB,hC,hD,i1,kP,kQ,cv ha,(am [1,1,1,0,0] hs z)⟩
 intro nm
 refine cl (k7 N) z z<|?_
 rintro _ nn _ ⟨no,np,rfl,nq,rfl⟩ jH
 exact m1 nm (fun _=>(aG [1] (s0 i1 jH) (l0 _) z))<|r4 jy fun a w ha hs=>⟨hy,hz,no,hA,hB,hC,np,nn,(s0 i1 jH),(g4 jH kP),kQ,nq,cv ha,(am [1,1,1,0,0] hs z)⟩
 intro jI
 refine f6 (listed':=#[T,O,T,T,T,T,T,T,O,O,O,O]) (fuel':=5) (fun a w=>∃hE hF hG hH hI hJ,m3 F hJ∧Cat KDData hJ hI l∧Bnd 64 l∧Has Tryz.f19.ntmps a [(0,.agg #[sl b a0.Datas c,sl d a0.Funs e]),(1,pP f 0),(2,.pointer none),(12,.map (some hE)),(14,.map (some hF)),(16,pP f 0),(17,sl b a0.Datas c),(18,sl hG l hH),(19,.agg #[sl b a0.Datas c,sl d a0.Funs e])]∧Sat (eV m n F) hJ [bK f #[sl b a0.Datas c,sl d a0.Funs e] 25,mapv t0 hE [],mapv t0 hF [],rowo hG l.length hH 106 3 hI] w) ?_ ?_
 rintro a w ⟨hE,hF,hG,hH,hI,hJ,i2,kR,kS,ha,hs⟩
 refine v8 ?_ ha hs
 clear ha hs a w
 refine aW (i:=1) (j:=8) z z (by kernel_rfl) (l1:=#[T,T,T,T,T,T,T,T,O,O,O,O]) (l2:=#[T,O,T,T,T,T,T,T,T,O,O,O]) z z ?_ ?_
 ·intro nr
  exact n4 (P:=Tryz.prog) t0 p1 z fun ns=>m1 nr (fun _=>(aG [1] i2 (l0 _) z))<|r4 iQ fun a w ha hs=>⟨hE,ns,hF,hG,hH,hI,hJ,i2,kR,kS,cv ha,(am [1,1,0,0,0] hs z)⟩
 intro nt
 refine cl (k7 N) z z<|?_
 rintro _ nu _ ⟨nv,nw,rfl,ny,rfl⟩ jJ
 exact m1 nt (fun _=>(aG [1] (s0 i2 jJ) (l0 _) z))<|r4 jA fun a w ha hs=>⟨hE,hF,nv,hG,hH,hI,nw,nu,(s0 i2 jJ),(g4 jJ kR),kS,ny,cv ha,(am [1,1,1,0,0] hs z)⟩
 intro jK
 refine f6 (listed':=#[T,O,O,T,T,T,T,T,T,O,O,O]) (fuel':=5) (fun a w=>∃hK hL hM hN hO hP X,m3 F X∧Cat KDData X hO l∧Bnd 64 l∧Mrel (Kind.int .i64) false X hP I∧Has Tryz.f19.ntmps a [(0,.agg #[sl b a0.Datas c,sl d a0.Funs e]),(1,pP f 0),(2,.pointer none),(12,.map (some hK)),(16,pP f 0),(17,sl b a0.Datas c),(18,sl hM l hN),(19,.agg #[sl b a0.Datas c,sl d a0.Funs e]),(20,.map (some hL))]∧Sat (eV m n F) X [bK f #[sl b a0.Datas c,sl d a0.Funs e] 25,mapv t0 hK [],mapv t0 hL hP,rowo hM l.length hN 106 3 hO] w) ?_ ?_
 rintro a w ⟨hK,hL,hM,hN,hO,hP,X,i3,kT,kU,kV,ha,hs⟩
 refine v8 ?_ ha hs
 clear ha hs a w
 refine aW (i:=1) (j:=2) z z (by kernel_rfl) (l1:=#[T,T,O,T,T,T,T,T,T,O,O,O]) (l2:=#[T,O,T,T,T,T,T,T,T,O,O,O]) z z ?_ ?_
 ·intro nz
  exact n4 (P:=Tryz.prog) t0 p1 z fun nA=>m1 nz (fun _=>(aG [1] i3 (l0 _) z))<|r4 jy fun a w ha hs=>⟨hK,nA,hL,hM,hN,hO,hP,X,i3,kT,kU,kV,cv ha,(am [1,1,0,0,0] hs z)⟩
 intro nB
 exact n4 (P:=Tryz.prog) t0 p1 z fun nC=>m1 nB (fun _=>(aG [1] i3 (l0 _) z))<|r4 jA fun a w ha hs=>⟨hK,nC,hL,hM,hN,hO,hP,X,i3,kT,kU,kV,cv ha,(am [1,1,0,0,0] hs z)⟩
 intro kW
 refine f6 (listed':=#[O,T,T,T,T,T,T,T,O,O,O,O]) (fuel':=5) (fun a w=>∃hQ hR hS hT hU hV,m3 F hV∧Cat KDData hV hU l∧Bnd 64 l∧Has Tryz.f19.ntmps a [(0,.agg #[sl b a0.Datas c,sl d a0.Funs e]),(1,pP f 0),(2,.pointer none),(13,.map (some hQ)),(14,.map (some hR)),(16,pP f 0),(17,sl b a0.Datas c),(18,sl hS l hT),(19,.agg #[sl b a0.Datas c,sl d a0.Funs e])]∧Sat (eV m n F) hV [bK f #[sl b a0.Datas c,sl d a0.Funs e] 25,mapv t0 hQ [],mapv t0 hR [],rowo hS l.length hT 106 3 hU] w) ?_ ?_
 rintro a w ⟨hQ,hR,hS,hT,hU,hV,i4,kX,kY,ha,hs⟩
 refine v8 ?_ ha hs
 clear ha hs a w
 refine aW (i:=0) (j:=8) z z (by kernel_rfl) (l1:=#[T,T,T,T,T,T,T,T,O,O,O,O]) (l2:=#[O,T,T,T,T,T,T,T,T,O,O,O]) z z ?_ ?_
 ·intro nD
  exact n4 (P:=Tryz.prog) t0 p1 z fun nE=>m1 nD (fun _=>(aG [1] i4 (l0 _) z))<|r4 iQ fun a w ha hs=>⟨nE,hQ,hR,hS,hT,hU,hV,i4,kX,kY,cv ha,(am [1,0,0,0,0] hs z)⟩
 intro nF
 refine cl (k7 N) z z<|?_
 rintro _ nG _ ⟨nH,nJ,rfl,nK,rfl⟩ jL
 exact m1 nF (fun _=>(aG [1] (s0 i4 jL) (l0 _) z))<|r4 jC fun a w ha hs=>⟨hQ,hR,nH,hS,hT,hU,nJ,nG,(s0 i4 jL),(g4 jL kX),kY,nK,cv ha,(am [1,1,1,0,0] hs z)⟩
 intro jM
 refine f6 (listed':=#[O,T,O,T,T,T,T,T,T,O,O,O]) (fuel':=5) (fun a w=>∃hW hX hY hZ h0 h1 Y,m3 F Y∧Cat KDData Y h0 l∧Bnd 64 l∧Mrel (Kind.int .i64) false Y h1 I∧Has Tryz.f19.ntmps a [(0,.agg #[sl b a0.Datas c,sl d a0.Funs e]),(1,pP f 0),(2,.pointer none),(13,.map (some hW)),(16,pP f 0),(17,sl b a0.Datas c),(18,sl hY l hZ),(19,.agg #[sl b a0.Datas c,sl d a0.Funs e]),(20,.map (some hX))]∧Sat (eV m n F) Y [bK f #[sl b a0.Datas c,sl d a0.Funs e] 25,mapv t0 hW [],mapv t0 hX h1,rowo hY l.length hZ 106 3 h0] w) ?_ ?_
 rintro a w ⟨hW,hX,hY,hZ,h0,h1,Y,i5,kZ,la,lb,ha,hs⟩
 refine v8 ?_ ha hs
 clear ha hs a w
 refine aW (i:=0) (j:=2) z z (by kernel_rfl) (l1:=#[T,T,O,T,T,T,T,T,T,O,O,O]) (l2:=#[O,T,T,T,T,T,T,T,T,O,O,O]) z z ?_ ?_
 ·intro nL
  exact n4 (P:=Tryz.prog) t0 p1 z fun nM=>m1 nL (fun _=>(aG [1] i5 (l0 _) z))<|r4 jy fun a w ha hs=>⟨nM,hW,hX,hY,hZ,h0,h1,Y,i5,kZ,la,lb,cv ha,(am [1,0,0,0,0] hs z)⟩
 intro nN
 exact n4 (P:=Tryz.prog) t0 p1 z fun nO=>m1 nN (fun _=>(aG [1] i5 (l0 _) z))<|r4 jC fun a w ha hs=>⟨hW,nO,hX,hY,hZ,h0,h1,Y,i5,kZ,la,lb,cv ha,(am [1,1,0,0,0] hs z)⟩
 intro lc
 refine f6 (listed':=#[O,O,T,T,T,T,T,T,T,O,O,O]) (fuel':=5) (fun a w=>∃h2 h3 h4 h5 h6 h7 Z,m3 F Z∧Cat KDData Z h6 l∧Bnd 64 l∧Mrel (Kind.int .i64) false Z h7 I∧Has Tryz.f19.ntmps a [(0,.agg #[sl b a0.Datas c,sl d a0.Funs e]),(1,pP f 0),(2,.pointer none),(14,.map (some h2)),(16,pP f 0),(17,sl b a0.Datas c),(18,sl h4 l h5),(19,.agg #[sl b a0.Datas c,sl d a0.Funs e]),(20,.map (some h3))]∧Sat (eV m n F) Z [bK f #[sl b a0.Datas c,sl d a0.Funs e] 25,mapv t0 h2 [],mapv t0 h3 h7,rowo h4 l.length h5 106 3 h6] w) ?_ ?_
 rintro a w ⟨h2,h3,h4,h5,h6,h7,Z,i6,lf,lg,lh,ha,hs⟩
 refine v8 ?_ ha hs
 clear ha hs a w
 refine aW (i:=0) (j:=1) z z (by kernel_rfl) (l1:=#[T,O,T,T,T,T,T,T,T,O,O,O]) (l2:=#[O,T,T,T,T,T,T,T,T,O,O,O]) z z ?_ ?_
 ·intro nP
  exact n4 (P:=Tryz.prog) t0 p1 z fun nQ=>m1 nP (fun _=>(aG [1] i6 (l0 _) z))<|r4 jA fun a w ha hs=>⟨nQ,h2,h3,h4,h5,h6,h7,Z,i6,lf,lg,lh,cv ha,(am [1,0,0,0,0] hs z)⟩
 intro nR
 exact n4 (P:=Tryz.prog) t0 p1 z fun nT=>m1 nR (fun _=>(aG [1] i6 (l0 _) z))<|r4 jC fun a w ha hs=>⟨nT,h2,h3,h4,h5,h6,h7,Z,i6,lf,lg,lh,cv ha,(am [1,0,0,0,0] hs z)⟩
 intro li
 refine f6 (listed':=#[T,T,T,O,T,T,O,T,O,O,O,O]) (fuel':=6) (fun a w=>∃i7 i8 i9,Has Tryz.f19.ntmps a [(0,.agg #[sl b a0.Datas c,sl d a0.Funs e]),(1,pP f 0),(2,.pointer none),(12,.map (some i7)),(13,.map (some i8)),(14,.map (some i9)),(16,pP f 0),(17,sl b a0.Datas c),(19,.agg #[sl b a0.Datas c,sl d a0.Funs e])]∧Sat (eV m n F) F [bK f #[sl b a0.Datas c,sl d a0.Funs e] 25,mapv t0 i7 [],mapv t0 i8 [],mapv t0 i9 []] w) ?_ ?_
 rintro a w ⟨i7,i8,i9,ha,hs⟩
 refine v8 ?_ ha hs
 clear ha hs a w
 refine StD.only (i:=3) z (by kernel_rfl) (listed':=#[T,T,T,T,T,T,O,T,O,O,O,O]) z ?_
 intro nU
 refine cl (t8 M) z z<|?_
 rintro _ nW _ ⟨nX,nY,nZ,rfl,n0,n1,rfl⟩ lj
 exact m1 nU (fun _=>(aG [1] lj (l0 _) z))<|r4 i0 fun a w ha hs=>⟨i7,i8,i9,nX,nY,nZ,nW,lj,n0,n1,cv ha,(am [1,1,1,1,0] hs z)⟩
 intro jN
 refine f6 (listed':=#[T,T,O,T,T,T,O,T,O,O,O,O]) (fuel':=6) (fun a w=>∃h8 h9 ja jb jc c0,m3 F c0∧Cat KDData c0 jc o∧Bnd 64 o∧Has Tryz.f19.ntmps a [(0,.agg #[sl b a0.Datas c,sl d a0.Funs e]),(1,pP f 0),(2,.pointer none),(12,.map (some h8)),(13,.map (some h9)),(15,sl ja o jb),(16,pP f 0),(17,sl b a0.Datas c),(19,.agg #[sl b a0.Datas c,sl d a0.Funs e])]∧Sat (eV m n F) c0 [bK f #[sl b a0.Datas c,sl d a0.Funs e] 25,mapv t0 h8 [],mapv t0 h9 [],rowo ja o.length jb 106 3 jc] w) ?_ ?_
 rintro a w ⟨h8,h9,ja,jb,jc,c0,ia,ll,n2,ha,hs⟩
 refine v8 ?_ ha hs
 clear ha hs a w
 refine aW (i:=2) (j:=6) z z (by kernel_rfl) (l1:=#[T,T,T,T,T,T,O,T,O,O,O,O]) (l2:=#[T,T,O,T,T,T,T,T,O,O,O,O]) z z ?_ ?_
 ·intro oa
  exact n4 (P:=Tryz.prog) t0 p1 z fun ob=>m1 oa (fun _=>(aG [1] ia (l0 _) z))<|r4 i0 fun a w ha hs=>⟨h8,h9,ob,ja,jb,jc,c0,ia,ll,n2,cv ha,(am [1,1,1,0,0] hs z)⟩
 intro oc
 exact pk3<|pS C dy z z z z ll (x0 ia H) z fun od oe og oh=>m1 oc (fun _=>(aG [1] ia (l0 _) z))<|r4 jI fun a w ha hs=>⟨h8,h9,od,oe,og,c0,ia,oh,(f4 C),cv ha,(am [1,1,1,0] hs z)⟩
 intro jO
 refine f6 (listed':=#[T,O,T,T,T,T,O,T,O,O,O,O]) (fuel':=6) (fun a w=>∃ib ic jd je jf c1,m3 F c1∧Cat KDData c1 jf o∧Bnd 64 o∧Has Tryz.f19.ntmps a [(0,.agg #[sl b a0.Datas c,sl d a0.Funs e]),(1,pP f 0),(2,.pointer none),(12,.map (some ib)),(14,.map (some ic)),(15,sl jd o je),(16,pP f 0),(17,sl b a0.Datas c),(19,.agg #[sl b a0.Datas c,sl d a0.Funs e])]∧Sat (eV m n F) c1 [bK f #[sl b a0.Datas c,sl d a0.Funs e] 25,mapv t0 ib [],mapv t0 ic [],rowo jd o.length je 106 3 jf] w) ?_ ?_
 rintro a w ⟨ib,ic,jd,je,jf,c1,ie,lm,oi,ha,hs⟩
 refine v8 ?_ ha hs
 clear ha hs a w
 refine aW (i:=1) (j:=6) z z (by kernel_rfl) (l1:=#[T,T,T,T,T,T,O,T,O,O,O,O]) (l2:=#[T,O,T,T,T,T,T,T,O,O,O,O]) z z ?_ ?_
 ·intro oj
  exact n4 (P:=Tryz.prog) t0 p1 z fun ok=>m1 oj (fun _=>(aG [1] ie (l0 _) z))<|r4 i0 fun a w ha hs=>⟨ib,ok,ic,jd,je,jf,c1,ie,lm,oi,cv ha,(am [1,1,0,0,0] hs z)⟩
 intro ol
 exact pk3<|pS C dy z z z z lm (x0 ie H) z fun om on oo op=>m1 ol (fun _=>(aG [1] ie (l0 _) z))<|r4 jK fun a w ha hs=>⟨ib,ic,om,on,oo,c1,ie,op,(f4 C),cv ha,(am [1,1,1,0] hs z)⟩
 intro jP
 refine f6 (listed':=#[T,O,O,T,T,T,T,T,O,O,O,O]) (fuel':=6) (fun a w=>∃c2 c3 c4 c5 c6,m3 F c6∧Cat KDData c6 c5 l∧Bnd 64 l∧Has Tryz.f19.ntmps a [(0,.agg #[sl b a0.Datas c,sl d a0.Funs e]),(1,pP f 0),(2,.pointer none),(12,.map (some c2)),(16,pP f 0),(17,sl b a0.Datas c),(18,sl c3 l c4),(19,.agg #[sl b a0.Datas c,sl d a0.Funs e])]∧Sat (eV m n F) c6 [bK f #[sl b a0.Datas c,sl d a0.Funs e] 25,mapv t0 c2 [],rowo c3 l.length c4 106 3 c5] w) ?_ ?_
 rintro a w ⟨c2,c3,c4,c5,c6,c7,jQ,jR,ha,hs⟩
 refine v8 ?_ ha hs
 clear ha hs a w
 refine cQ (i:=1) (j:=2) (q:=8) z z z (by kernel_rfl) (l1:=#[T,T,O,T,T,T,T,T,O,O,O,O]) (l2:=#[T,O,T,T,T,T,T,T,O,O,O,O]) (l3:=#[T,O,O,T,T,T,T,T,T,O,O,O]) z z z ?_ ?_ ?_
 ·intro oq
  exact n4 (P:=Tryz.prog) t0 p1 z fun os=>m1 oq (fun _=>(aG [1] c7 (l0 _) z))<|r4 jI fun a w ha hs=>⟨c2,os,c3,c4,c5,c6,c7,jQ,jR,cv ha,(am [1,1,0,0] hs z)⟩
 ·intro ot
  exact n4 (P:=Tryz.prog) t0 p1 z fun ou=>m1 ot (fun _=>(aG [1] c7 (l0 _) z))<|r4 jK fun a w ha hs=>⟨c2,ou,c3,c4,c5,c6,c7,jQ,jR,cv ha,(am [1,1,0,0] hs z)⟩
 intro ov
 refine cl (k7 N) z z<|?_
 rintro _ ow _ ⟨ox,oy,rfl,oz,rfl⟩ jT
 exact m1 ov (fun _=>(aG [1] (s0 c7 jT) (l0 _) z))<|r4 kW fun a w ha hs=>⟨c2,ox,c3,c4,c5,oy,ow,(s0 c7 jT),(g4 jT jQ),jR,oz,cv ha,(am [1,1,0,0] hs z)⟩
 intro ln
 refine f6 (listed':=#[O,T,T,T,T,T,O,T,O,O,O,O]) (fuel':=6) (fun a w=>∃ig ih jg jh ji c8,m3 F c8∧Cat KDData c8 ji o∧Bnd 64 o∧Has Tryz.f19.ntmps a [(0,.agg #[sl b a0.Datas c,sl d a0.Funs e]),(1,pP f 0),(2,.pointer none),(13,.map (some ig)),(14,.map (some ih)),(15,sl jg o jh),(16,pP f 0),(17,sl b a0.Datas c),(19,.agg #[sl b a0.Datas c,sl d a0.Funs e])]∧Sat (eV m n F) c8 [bK f #[sl b a0.Datas c,sl d a0.Funs e] 25,mapv t0 ig [],mapv t0 ih [],rowo jg o.length jh 106 3 ji] w) ?_ ?_
 rintro a w ⟨ig,ih,jg,jh,ji,c8,ii,lo,oA,ha,hs⟩
 refine v8 ?_ ha hs
 clear ha hs a w
 refine aW (i:=0) (j:=6) z z (by kernel_rfl) (l1:=#[T,T,T,T,T,T,O,T,O,O,O,O]) (l2:=#[O,T,T,T,T,T,T,T,O,O,O,O]) z z ?_ ?_
 ·intro oB
  exact n4 (P:=Tryz.prog) t0 p1 z fun oE=>m1 oB (fun _=>(aG [1] ii (l0 _) z))<|r4 i0 fun a w ha hs=>⟨oE,ig,ih,jg,jh,ji,c8,ii,lo,oA,cv ha,(am [1,0,0,0,0] hs z)⟩
 intro oF
 exact pk3<|pS C dy z z z z lo (x0 ii H) z fun oG oH oI oK=>m1 oF (fun _=>(aG [1] ii (l0 _) z))<|r4 jM fun a w ha hs=>⟨ig,ih,oG,oH,oI,c8,ii,oK,(f4 C),cv ha,(am [1,1,1,0] hs z)⟩
 intro jU
 refine f6 (listed':=#[O,T,O,T,T,T,T,T,O,O,O,O]) (fuel':=6) (fun a w=>∃c9 d3 d4 d5 d6,m3 F d6∧Cat KDData d6 d5 l∧Bnd 64 l∧Has Tryz.f19.ntmps a [(0,.agg #[sl b a0.Datas c,sl d a0.Funs e]),(1,pP f 0),(2,.pointer none),(13,.map (some c9)),(16,pP f 0),(17,sl b a0.Datas c),(18,sl d3 l d4),(19,.agg #[sl b a0.Datas c,sl d a0.Funs e])]∧Sat (eV m n F) d6 [bK f #[sl b a0.Datas c,sl d a0.Funs e] 25,mapv t0 c9 [],rowo d3 l.length d4 106 3 d5] w) ?_ ?_
 rintro a w ⟨c9,d3,d4,d5,d6,d7,jV,jW,ha,hs⟩
 refine v8 ?_ ha hs
 clear ha hs a w
 refine cQ (i:=0) (j:=2) (q:=8) z z z (by kernel_rfl) (l1:=#[T,T,O,T,T,T,T,T,O,O,O,O]) (l2:=#[O,T,T,T,T,T,T,T,O,O,O,O]) (l3:=#[O,T,O,T,T,T,T,T,T,O,O,O]) z z z ?_ ?_ ?_
 ·intro oL
  exact n4 (P:=Tryz.prog) t0 p1 z fun oM=>m1 oL (fun _=>(aG [1] d7 (l0 _) z))<|r4 jI fun a w ha hs=>⟨oM,c9,d3,d4,d5,d6,d7,jV,jW,cv ha,(am [1,0,0,0] hs z)⟩
 ·intro oO
  exact n4 (P:=Tryz.prog) t0 p1 z fun oP=>m1 oO (fun _=>(aG [1] d7 (l0 _) z))<|r4 jM fun a w ha hs=>⟨c9,oP,d3,d4,d5,d6,d7,jV,jW,cv ha,(am [1,1,0,0] hs z)⟩
 intro oQ
 refine cl (k7 N) z z<|?_
 rintro _ oR _ ⟨oT,oU,rfl,oV,rfl⟩ jX
 exact m1 oQ (fun _=>(aG [1] (s0 d7 jX) (l0 _) z))<|r4 lc fun a w ha hs=>⟨c9,oT,d3,d4,d5,oU,oR,(s0 d7 jX),(g4 jX jV),jW,oV,cv ha,(am [1,1,0,0] hs z)⟩
 intro lp
 refine f6 (listed':=#[O,O,T,T,T,T,T,T,O,O,O,O]) (fuel':=6) (fun a w=>∃d8 d9 e0 e1 e2,m3 F e2∧Cat KDData e2 e1 l∧Bnd 64 l∧Has Tryz.f19.ntmps a [(0,.agg #[sl b a0.Datas c,sl d a0.Funs e]),(1,pP f 0),(2,.pointer none),(14,.map (some d8)),(16,pP f 0),(17,sl b a0.Datas c),(18,sl d9 l e0),(19,.agg #[sl b a0.Datas c,sl d a0.Funs e])]∧Sat (eV m n F) e2 [bK f #[sl b a0.Datas c,sl d a0.Funs e] 25,mapv t0 d8 [],rowo d9 l.length e0 106 3 e1] w) ?_ ?_
 rintro a w ⟨d8,d9,e0,e1,e2,e3,jY,jZ,ha,hs⟩
 refine v8 ?_ ha hs
 clear ha hs a w
 refine cQ (i:=0) (j:=1) (q:=8) z z z (by kernel_rfl) (l1:=#[T,O,T,T,T,T,T,T,O,O,O,O]) (l2:=#[O,T,T,T,T,T,T,T,O,O,O,O]) (l3:=#[O,O,T,T,T,T,T,T,T,O,O,O]) z z z ?_ ?_ ?_
 ·intro oW
  exact n4 (P:=Tryz.prog) t0 p1 z fun oX=>m1 oW (fun _=>(aG [1] e3 (l0 _) z))<|r4 jK fun a w ha hs=>⟨oX,d8,d9,e0,e1,e2,e3,jY,jZ,cv ha,(am [1,0,0,0] hs z)⟩
 ·intro oY
  exact n4 (P:=Tryz.prog) t0 p1 z fun oZ=>m1 oY (fun _=>(aG [1] e3 (l0 _) z))<|r4 jM fun a w ha hs=>⟨oZ,d8,d9,e0,e1,e2,e3,jY,jZ,cv ha,(am [1,0,0,0] hs z)⟩
 intro o0
 refine cl (k7 N) z z<|?_
 rintro _ o1 _ ⟨o2,o3,rfl,o4,rfl⟩ j0
 exact m1 o0 (fun _=>(aG [1] (s0 e3 j0) (l0 _) z))<|r4 li fun a w ha hs=>⟨d8,o2,d9,e0,e1,o3,o1,(s0 e3 j0),(g4 j0 jY),jZ,o4,cv ha,(am [1,1,0,0] hs z)⟩
 intro lq
 refine f6 (listed':=#[O,O,O,T,T,T,T,T,T,O,O,O]) (fuel':=6) (fun a w=>∃e4 e6 e8 fo f0 S,m3 F S∧Cat KDData S fo l∧Bnd 64 l∧Mrel (Kind.int .i64) false S f0 I∧Has Tryz.f19.ntmps a [(0,.agg #[sl b a0.Datas c,sl d a0.Funs e]),(1,pP f 0),(2,.pointer none),(16,pP f 0),(17,sl b a0.Datas c),(18,sl e6 l e8),(19,.agg #[sl b a0.Datas c,sl d a0.Funs e]),(20,.map (some e4))]∧Sat (eV m n F) S [bK f #[sl b a0.Datas c,sl d a0.Funs e] 25,mapv t0 e4 f0,rowo e6 l.length e8 106 3 fo] w) ?_ ?_
 rintro a w ⟨e4,e6,e8,fo,f0,S,gP,j1,j2,j3,ha,hs⟩
 refine v8 ?_ ha hs
 clear ha hs a w
 refine cQ (i:=0) (j:=1) (q:=2) z z z (by kernel_rfl) (l1:=#[T,O,O,T,T,T,T,T,T,O,O,O]) (l2:=#[O,T,O,T,T,T,T,T,T,O,O,O]) (l3:=#[O,O,T,T,T,T,T,T,T,O,O,O]) z z z ?_ ?_ ?_
 ·intro o5
  exact n4 (P:=Tryz.prog) t0 p1 z fun o6=>m1 o5 (fun _=>(aG [1] gP (l0 _) z))<|r4 kW fun a w ha hs=>⟨o6,e4,e6,e8,fo,f0,S,gP,j1,j2,j3,cv ha,(am [1,0,0,0] hs z)⟩
 ·intro o7
  exact n4 (P:=Tryz.prog) t0 p1 z fun o8=>m1 o7 (fun _=>(aG [1] gP (l0 _) z))<|r4 lc fun a w ha hs=>⟨o8,e4,e6,e8,fo,f0,S,gP,j1,j2,j3,cv ha,(am [1,0,0,0] hs z)⟩
 intro o9
 exact n4 (P:=Tryz.prog) t0 p1 z fun pa=>m1 o9 (fun _=>(aG [1] gP (l0 _) z))<|r4 li fun a w ha hs=>⟨pa,e4,e6,e8,fo,f0,S,gP,j1,j2,j3,cv ha,(am [1,0,0,0] hs z)⟩
 intro pb
 refine f6 (listed':=#[T,T,O,O,T,T,O,T,O,O,O,O]) (fuel':=7) (fun a w=>∃ij ik,Has Tryz.f19.ntmps a [(0,.agg #[sl b a0.Datas c,sl d a0.Funs e]),(1,pP f 0),(2,.pointer none),(12,.map (some ij)),(13,.map (some ik)),(16,pP f 0),(17,sl b a0.Datas c),(19,.agg #[sl b a0.Datas c,sl d a0.Funs e])]∧Sat (eV m n F) F [bK f #[sl b a0.Datas c,sl d a0.Funs e] 25,mapv t0 ij [],mapv t0 ik []] w) ?_ ?_
 rintro a w ⟨ij,ik,ha,hs⟩
 refine v8 ?_ ha hs
 clear ha hs a w
 refine aW (i:=2) (j:=3) z z (by kernel_rfl) (l1:=#[T,T,T,O,T,T,O,T,O,O,O,O]) (l2:=#[T,T,O,T,T,T,O,T,O,O,O,O]) z z ?_ ?_
 ·intro pc
  exact n4 (P:=Tryz.prog) t0 p1 z fun pd=>m1 pc (fun _=>(aF [1] z))<|r4 jN fun a w ha hs=>⟨ij,ik,pd,cv ha,(am [1,1,1,0] hs z)⟩
 intro pe
 refine cl (t8 M) z z<|?_
 rintro _ pg _ ⟨ph,pi,pj,rfl,pk,pl,rfl⟩ lr
 exact m1 pe (fun _=>(aG [1] lr (l0 _) z))<|r4 jO fun a w ha hs=>⟨ij,ik,ph,pi,pj,pg,lr,pk,pl,cv ha,(am [1,1,1,0] hs z)⟩
 intro ls
 refine f6 (listed':=#[T,O,T,O,T,T,O,T,O,O,O,O]) (fuel':=7) (fun a w=>∃il im,Has Tryz.f19.ntmps a [(0,.agg #[sl b a0.Datas c,sl d a0.Funs e]),(1,pP f 0),(2,.pointer none),(12,.map (some il)),(14,.map (some im)),(16,pP f 0),(17,sl b a0.Datas c),(19,.agg #[sl b a0.Datas c,sl d a0.Funs e])]∧Sat (eV m n F) F [bK f #[sl b a0.Datas c,sl d a0.Funs e] 25,mapv t0 il [],mapv t0 im []] w) ?_ ?_
 rintro a w ⟨il,im,ha,hs⟩
 refine v8 ?_ ha hs
 clear ha hs a w
 refine aW (i:=1) (j:=3) z z (by kernel_rfl) (l1:=#[T,T,T,O,T,T,O,T,O,O,O,O]) (l2:=#[T,O,T,T,T,T,O,T,O,O,O,O]) z z ?_ ?_
 ·intro pm
  exact n4 (P:=Tryz.prog) t0 p1 z fun pn=>m1 pm (fun _=>(aF [1] z))<|r4 jN fun a w ha hs=>⟨il,pn,im,cv ha,(am [1,1,0,0] hs z)⟩
 intro po
 refine cl (t8 M) z z<|?_
 rintro _ pp _ ⟨pq,pr,ps,rfl,pu,pv,rfl⟩ lu
 exact m1 po (fun _=>(aG [1] lu (l0 _) z))<|r4 jP fun a w ha hs=>⟨il,im,pq,pr,ps,pp,lu,pu,pv,cv ha,(am [1,1,1,0] hs z)⟩
 intro lv
 refine f6 (listed':=#[T,O,O,T,T,T,O,T,O,O,O,O]) (fuel':=7) (fun a w=>∃gQ io ip iq a1,m3 F a1∧Cat KDData a1 iq o∧Bnd 64 o∧Has Tryz.f19.ntmps a [(0,.agg #[sl b a0.Datas c,sl d a0.Funs e]),(1,pP f 0),(2,.pointer none),(12,.map (some gQ)),(15,sl io o ip),(16,pP f 0),(17,sl b a0.Datas c),(19,.agg #[sl b a0.Datas c,sl d a0.Funs e])]∧Sat (eV m n F) a1 [bK f #[sl b a0.Datas c,sl d a0.Funs e] 25,mapv t0 gQ [],rowo io o.length ip 106 3 iq] w) ?_ ?_
 rintro a w ⟨gQ,io,ip,iq,a1,a2,j4,lx,ha,hs⟩
 refine v8 ?_ ha hs
 clear ha hs a w
 refine cQ (i:=1) (j:=2) (q:=6) z z z (by kernel_rfl) (l1:=#[T,T,O,T,T,T,O,T,O,O,O,O]) (l2:=#[T,O,T,T,T,T,O,T,O,O,O,O]) (l3:=#[T,O,O,T,T,T,T,T,O,O,O,O]) z z z ?_ ?_ ?_
 ·intro pw
  exact n4 (P:=Tryz.prog) t0 p1 z fun px=>m1 pw (fun _=>(aG [1] a2 (l0 _) z))<|r4 jO fun a w ha hs=>⟨gQ,px,io,ip,iq,a1,a2,j4,lx,cv ha,(am [1,1,0,0] hs z)⟩
 ·intro py
  exact n4 (P:=Tryz.prog) t0 p1 z fun pz=>m1 py (fun _=>(aG [1] a2 (l0 _) z))<|r4 jP fun a w ha hs=>⟨gQ,pz,io,ip,iq,a1,a2,j4,lx,cv ha,(am [1,1,0,0] hs z)⟩
 intro pA
 exact pk2<|pS C dy z z z z j4 (x0 a2 H) z fun pB pC pD pE=>m1 pA (fun _=>(aG [1] a2 (l0 _) z))<|r4 ln fun a w ha hs=>⟨gQ,pB,pC,pD,a1,a2,pE,(f4 C),cv ha,(am [1,1,0] hs z)⟩
 intro ly
 refine f6 (listed':=#[O,T,T,O,T,T,O,T,O,O,O,O]) (fuel':=7) (fun a w=>∃ir it,Has Tryz.f19.ntmps a [(0,.agg #[sl b a0.Datas c,sl d a0.Funs e]),(1,pP f 0),(2,.pointer none),(13,.map (some ir)),(14,.map (some it)),(16,pP f 0),(17,sl b a0.Datas c),(19,.agg #[sl b a0.Datas c,sl d a0.Funs e])]∧Sat (eV m n F) F [bK f #[sl b a0.Datas c,sl d a0.Funs e] 25,mapv t0 ir [],mapv t0 it []] w) ?_ ?_
 rintro a w ⟨ir,it,ha,hs⟩
 refine v8 ?_ ha hs
 clear ha hs a w
 refine aW (i:=0) (j:=3) z z (by kernel_rfl) (l1:=#[T,T,T,O,T,T,O,T,O,O,O,O]) (l2:=#[O,T,T,T,T,T,O,T,O,O,O,O]) z z ?_ ?_
 ·intro pF
  exact n4 (P:=Tryz.prog) t0 p1 z fun pG=>m1 pF (fun _=>(aF [1] z))<|r4 jN fun a w ha hs=>⟨pG,ir,it,cv ha,(am [1,0,0,0] hs z)⟩
 intro pH
 refine cl (t8 M) z z<|?_
 rintro _ pI _ ⟨pJ,pK,pM,rfl,pN,pO,rfl⟩ lz
 exact m1 pH (fun _=>(aG [1] lz (l0 _) z))<|r4 jU fun a w ha hs=>⟨ir,it,pJ,pK,pM,pI,lz,pN,pO,cv ha,(am [1,1,1,0] hs z)⟩
 intro lA
 refine f6 (listed':=#[O,T,O,T,T,T,O,T,O,O,O,O]) (fuel':=7) (fun a w=>∃gR iu iv iw a3,m3 F a3∧Cat KDData a3 iw o∧Bnd 64 o∧Has Tryz.f19.ntmps a [(0,.agg #[sl b a0.Datas c,sl d a0.Funs e]),(1,pP f 0),(2,.pointer none),(13,.map (some gR)),(15,sl iu o iv),(16,pP f 0),(17,sl b a0.Datas c),(19,.agg #[sl b a0.Datas c,sl d a0.Funs e])]∧Sat (eV m n F) a3 [bK f #[sl b a0.Datas c,sl d a0.Funs e] 25,mapv t0 gR [],rowo iu o.length iv 106 3 iw] w) ?_ ?_
 rintro a w ⟨gR,iu,iv,iw,a3,a4,j5,lB,ha,hs⟩
 refine v8 ?_ ha hs
 clear ha hs a w
 refine cQ (i:=0) (j:=2) (q:=6) z z z (by kernel_rfl) (l1:=#[T,T,O,T,T,T,O,T,O,O,O,O]) (l2:=#[O,T,T,T,T,T,O,T,O,O,O,O]) (l3:=#[O,T,O,T,T,T,T,T,O,O,O,O]) z z z ?_ ?_ ?_
 ·intro pQ
  exact n4 (P:=Tryz.prog) t0 p1 z fun pR=>m1 pQ (fun _=>(aG [1] a4 (l0 _) z))<|r4 jO fun a w ha hs=>⟨pR,gR,iu,iv,iw,a3,a4,j5,lB,cv ha,(am [1,0,0,0] hs z)⟩
 ·intro pT
  exact n4 (P:=Tryz.prog) t0 p1 z fun pU=>m1 pT (fun _=>(aG [1] a4 (l0 _) z))<|r4 jU fun a w ha hs=>⟨gR,pU,iu,iv,iw,a3,a4,j5,lB,cv ha,(am [1,1,0,0] hs z)⟩
 intro pV
 exact pk2<|pS C dy z z z z j5 (x0 a4 H) z fun pW pX pY pZ=>m1 pV (fun _=>(aG [1] a4 (l0 _) z))<|r4 lp fun a w ha hs=>⟨gR,pW,pX,pY,a3,a4,pZ,(f4 C),cv ha,(am [1,1,0] hs z)⟩
 intro lC
 refine f6 (listed':=#[O,O,T,T,T,T,O,T,O,O,O,O]) (fuel':=7) (fun a w=>∃gS ix iy iz a5,m3 F a5∧Cat KDData a5 iz o∧Bnd 64 o∧Has Tryz.f19.ntmps a [(0,.agg #[sl b a0.Datas c,sl d a0.Funs e]),(1,pP f 0),(2,.pointer none),(14,.map (some gS)),(15,sl ix o iy),(16,pP f 0),(17,sl b a0.Datas c),(19,.agg #[sl b a0.Datas c,sl d a0.Funs e])]∧Sat (eV m n F) a5 [bK f #[sl b a0.Datas c,sl d a0.Funs e] 25,mapv t0 gS [],rowo ix o.length iy 106 3 iz] w) ?_ ?_
 rintro a w ⟨gS,ix,iy,iz,a5,a6,j6,lD,ha,hs⟩
 refine v8 ?_ ha hs
 clear ha hs a w
 refine cQ (i:=0) (j:=1) (q:=6) z z z (by kernel_rfl) (l1:=#[T,O,T,T,T,T,O,T,O,O,O,O]) (l2:=#[O,T,T,T,T,T,O,T,O,O,O,O]) (l3:=#[O,O,T,T,T,T,T,T,O,O,O,O]) z z z ?_ ?_ ?_
 ·intro qa
  exact n4 (P:=Tryz.prog) t0 p1 z fun qb=>m1 qa (fun _=>(aG [1] a6 (l0 _) z))<|r4 jP fun a w ha hs=>⟨qb,gS,ix,iy,iz,a5,a6,j6,lD,cv ha,(am [1,0,0,0] hs z)⟩
 ·intro qc
  exact n4 (P:=Tryz.prog) t0 p1 z fun qd=>m1 qc (fun _=>(aG [1] a6 (l0 _) z))<|r4 jU fun a w ha hs=>⟨qd,gS,ix,iy,iz,a5,a6,j6,lD,cv ha,(am [1,0,0,0] hs z)⟩
 intro qe
 exact pk2<|pS C dy z z z z j6 (x0 a6 H) z fun qf qg qh qi=>m1 qe (fun _=>(aG [1] a6 (l0 _) z))<|r4 lq fun a w ha hs=>⟨gS,qf,qg,qh,a5,a6,qi,(f4 C),cv ha,(am [1,1,0] hs z)⟩
 intro lE
 refine f6 (listed':=#[O,O,O,T,T,T,T,T,O,O,O,O]) (fuel':=7) (fun a w=>∃a7 a8 a9 b0,m3 F b0∧Cat KDData b0 a9 l∧Bnd 64 l∧Has Tryz.f19.ntmps a [(0,.agg #[sl b a0.Datas c,sl d a0.Funs e]),(1,pP f 0),(2,.pointer none),(16,pP f 0),(17,sl b a0.Datas c),(18,sl a7 l a8),(19,.agg #[sl b a0.Datas c,sl d a0.Funs e])]∧Sat (eV m n F) b0 [bK f #[sl b a0.Datas c,sl d a0.Funs e] 25,rowo a7 l.length a8 106 3 a9] w) ?_ ?_
 rintro a w ⟨a7,a8,a9,b0,U,jj,jk,ha,hs⟩
 refine v8 ?_ ha hs
 clear ha hs a w
 refine StD.four (i:=0) (j:=1) (q:=2) (s:=8) z z z z (by kernel_rfl) (l1:=#[T,O,O,T,T,T,T,T,O,O,O,O]) (l2:=#[O,T,O,T,T,T,T,T,O,O,O,O]) (l3:=#[O,O,T,T,T,T,T,T,O,O,O,O]) (l4:=#[O,O,O,T,T,T,T,T,T,O,O,O]) z z z z ?_ ?_ ?_ ?_
 ·intro qj
  exact n4 (P:=Tryz.prog) t0 p1 z fun qk=>m1 qj (fun _=>(aG [1] U (l0 _) z))<|r4 ln fun a w ha hs=>⟨qk,a7,a8,a9,b0,U,jj,jk,cv ha,(am [1,0,0] hs z)⟩
 ·intro ql
  exact n4 (P:=Tryz.prog) t0 p1 z fun qm=>m1 ql (fun _=>(aG [1] U (l0 _) z))<|r4 lp fun a w ha hs=>⟨qm,a7,a8,a9,b0,U,jj,jk,cv ha,(am [1,0,0] hs z)⟩
 ·intro qn
  exact n4 (P:=Tryz.prog) t0 p1 z fun qo=>m1 qn (fun _=>(aG [1] U (l0 _) z))<|r4 lq fun a w ha hs=>⟨qo,a7,a8,a9,b0,U,jj,jk,cv ha,(am [1,0,0] hs z)⟩
 intro qp
 refine cl (k7 N) z z<|?_
 rintro _ qq _ ⟨qr,qs,rfl,qt,rfl⟩ j7
 exact m1 qp (fun _=>(aG [1] (s0 U j7) (l0 _) z))<|r4 pb fun a w ha hs=>⟨qr,a7,a8,a9,qs,qq,(s0 U j7),(g4 j7 jj),jk,qt,cv ha,(am [1,0,0] hs z)⟩
 intro qu
 refine f6 (listed':=#[T,O,O,O,T,T,O,T,O,O,O,O]) (fuel':=8) (fun a w=>∃gT,Has Tryz.f19.ntmps a [(0,.agg #[sl b a0.Datas c,sl d a0.Funs e]),(1,pP f 0),(2,.pointer none),(12,.map (some gT)),(16,pP f 0),(17,sl b a0.Datas c),(19,.agg #[sl b a0.Datas c,sl d a0.Funs e])]∧Sat (eV m n F) F [bK f #[sl b a0.Datas c,sl d a0.Funs e] 25,mapv t0 gT []] w) ?_ ?_
 rintro a w ⟨gT,ha,hs⟩
 refine v8 ?_ ha hs
 clear ha hs a w
 refine cQ (i:=1) (j:=2) (q:=3) z z z (by kernel_rfl) (l1:=#[T,T,O,O,T,T,O,T,O,O,O,O]) (l2:=#[T,O,T,O,T,T,O,T,O,O,O,O]) (l3:=#[T,O,O,T,T,T,O,T,O,O,O,O]) z z z ?_ ?_ ?_
 ·intro qv
  exact n4 (P:=Tryz.prog) t0 p1 z fun qw=>m1 qv (fun _=>(aF [1] z))<|r4 ls fun a w ha hs=>⟨gT,qw,cv ha,(am [1,1,0] hs z)⟩
 ·intro qx
  exact n4 (P:=Tryz.prog) t0 p1 z fun qy=>m1 qx (fun _=>(aF [1] z))<|r4 lv fun a w ha hs=>⟨gT,qy,cv ha,(am [1,1,0] hs z)⟩
 intro qz
 refine cl (t8 M) z z<|?_
 rintro _ qA _ ⟨qB,qC,qD,rfl,qE,qF,rfl⟩ lF
 exact m1 qz (fun _=>(aG [1] lF (l0 _) z))<|r4 ly fun a w ha hs=>⟨gT,qB,qC,qD,qA,lF,qE,qF,cv ha,(am [1,1,0] hs z)⟩
 intro qG
 refine f6 (listed':=#[O,T,O,O,T,T,O,T,O,O,O,O]) (fuel':=8) (fun a w=>∃gU,Has Tryz.f19.ntmps a [(0,.agg #[sl b a0.Datas c,sl d a0.Funs e]),(1,pP f 0),(2,.pointer none),(13,.map (some gU)),(16,pP f 0),(17,sl b a0.Datas c),(19,.agg #[sl b a0.Datas c,sl d a0.Funs e])]∧Sat (eV m n F) F [bK f #[sl b a0.Datas c,sl d a0.Funs e] 25,mapv t0 gU []] w) ?_ ?_
 rintro a w ⟨gU,ha,hs⟩
 refine v8 ?_ ha hs
 clear ha hs a w
 refine cQ (i:=0) (j:=2) (q:=3) z z z (by kernel_rfl) (l1:=#[T,T,O,O,T,T,O,T,O,O,O,O]) (l2:=#[O,T,T,O,T,T,O,T,O,O,O,O]) (l3:=#[O,T,O,T,T,T,O,T,O,O,O,O]) z z z ?_ ?_ ?_
 ·intro qH
  exact n4 (P:=Tryz.prog) t0 p1 z fun qI=>m1 qH (fun _=>(aF [1] z))<|r4 ls fun a w ha hs=>⟨qI,gU,cv ha,(am [1,0,0] hs z)⟩
 ·intro qJ
  exact n4 (P:=Tryz.prog) t0 p1 z fun qK=>m1 qJ (fun _=>(aF [1] z))<|r4 lA fun a w ha hs=>⟨gU,qK,cv ha,(am [1,1,0] hs z)⟩
 intro qL
 refine cl (t8 M) z z<|?_
 rintro _ qM _ ⟨qN,qO,qP,rfl,qQ,qR,rfl⟩ lG
 exact m1 qL (fun _=>(aG [1] lG (l0 _) z))<|r4 lC fun a w ha hs=>⟨gU,qN,qO,qP,qM,lG,qQ,qR,cv ha,(am [1,1,0] hs z)⟩
 intro qS
 refine f6 (listed':=#[O,O,T,O,T,T,O,T,O,O,O,O]) (fuel':=8) (fun a w=>∃gV,Has Tryz.f19.ntmps a [(0,.agg #[sl b a0.Datas c,sl d a0.Funs e]),(1,pP f 0),(2,.pointer none),(14,.map (some gV)),(16,pP f 0),(17,sl b a0.Datas c),(19,.agg #[sl b a0.Datas c,sl d a0.Funs e])]∧Sat (eV m n F) F [bK f #[sl b a0.Datas c,sl d a0.Funs e] 25,mapv t0 gV []] w) ?_ ?_
 rintro a w ⟨gV,ha,hs⟩
 refine v8 ?_ ha hs
 clear ha hs a w
 refine cQ (i:=0) (j:=1) (q:=3) z z z (by kernel_rfl) (l1:=#[T,O,T,O,T,T,O,T,O,O,O,O]) (l2:=#[O,T,T,O,T,T,O,T,O,O,O,O]) (l3:=#[O,O,T,T,T,T,O,T,O,O,O,O]) z z z ?_ ?_ ?_
 ·intro qT
  exact n4 (P:=Tryz.prog) t0 p1 z fun qU=>m1 qT (fun _=>(aF [1] z))<|r4 lv fun a w ha hs=>⟨qU,gV,cv ha,(am [1,0,0] hs z)⟩
 ·intro qV
  exact n4 (P:=Tryz.prog) t0 p1 z fun qW=>m1 qV (fun _=>(aF [1] z))<|r4 lA fun a w ha hs=>⟨qW,gV,cv ha,(am [1,0,0] hs z)⟩
 intro qX
 refine cl (t8 M) z z<|?_
 rintro _ qY _ ⟨qZ,q1,q2,rfl,q3,q4,rfl⟩ lH
 exact m1 qX (fun _=>(aG [1] lH (l0 _) z))<|r4 lE fun a w ha hs=>⟨gV,qZ,q1,q2,qY,lH,q3,q4,cv ha,(am [1,1,0] hs z)⟩
 intro q5
 refine f6 (listed':=#[O,O,O,T,T,T,O,T,O,O,O,O]) (fuel':=8) (fun a w=>∃gW gX gY V,m3 F V∧Cat KDData V gY o∧Bnd 64 o∧Has Tryz.f19.ntmps a [(0,.agg #[sl b a0.Datas c,sl d a0.Funs e]),(1,pP f 0),(2,.pointer none),(15,sl gW o gX),(16,pP f 0),(17,sl b a0.Datas c),(19,.agg #[sl b a0.Datas c,sl d a0.Funs e])]∧Sat (eV m n F) V [bK f #[sl b a0.Datas c,sl d a0.Funs e] 25,rowo gW o.length gX 106 3 gY] w) ?_ ?_
 rintro a w ⟨gW,gX,gY,V,L,jl,j8,ha,hs⟩
 refine v8 ?_ ha hs
 clear ha hs a w
 refine StD.four (i:=0) (j:=1) (q:=2) (s:=6) z z z z (by kernel_rfl) (l1:=#[T,O,O,T,T,T,O,T,O,O,O,O]) (l2:=#[O,T,O,T,T,T,O,T,O,O,O,O]) (l3:=#[O,O,T,T,T,T,O,T,O,O,O,O]) (l4:=#[O,O,O,T,T,T,T,T,O,O,O,O]) z z z z ?_ ?_ ?_ ?_
 ·intro q6
  exact n4 (P:=Tryz.prog) t0 p1 z fun q7=>m1 q6 (fun _=>(aG [1] L (l0 _) z))<|r4 ly fun a w ha hs=>⟨q7,gW,gX,gY,V,L,jl,j8,cv ha,(am [1,0,0] hs z)⟩
 ·intro q8
  exact n4 (P:=Tryz.prog) t0 p1 z fun q9=>m1 q8 (fun _=>(aG [1] L (l0 _) z))<|r4 lC fun a w ha hs=>⟨q9,gW,gX,gY,V,L,jl,j8,cv ha,(am [1,0,0] hs z)⟩
 ·intro ra
  exact n4 (P:=Tryz.prog) t0 p1 z fun rb=>m1 ra (fun _=>(aG [1] L (l0 _) z))<|r4 lE fun a w ha hs=>⟨rb,gW,gX,gY,V,L,jl,j8,cv ha,(am [1,0,0] hs z)⟩
 intro rc
 exact pk1<|pS C dy z z z z jl (x0 L H) z fun rd re rf rg=>m1 rc (fun _=>(aG [1] L (l0 _) z))<|r4 qu fun a w ha hs=>⟨rd,re,rf,V,L,rg,(f4 C),cv ha,(am [1,0] hs z)⟩
 intro rh
 refine StD.four (i:=0) (j:=1) (q:=2) (s:=3) z z z z (by kernel_rfl) (l1:=#[T,O,O,O,T,T,O,T,O,O,O,O]) (l2:=#[O,T,O,O,T,T,O,T,O,O,O,O]) (l3:=#[O,O,T,O,T,T,O,T,O,O,O,O]) (l4:=#[O,O,O,T,T,T,O,T,O,O,O,O]) z z z z ?_ ?_ ?_ ?_
 ·intro ri
  exact n4 (P:=Tryz.prog) t0 p1 z fun rj=>m1 ri (fun _=>(aF [1] z))<|r4 qG fun a w ha hs=>⟨rj,cv ha,(am [1,0] hs z)⟩
 ·intro rk
  exact n4 (P:=Tryz.prog) t0 p1 z fun rl=>m1 rk (fun _=>(aF [1] z))<|r4 qS fun a w ha hs=>⟨rl,cv ha,(am [1,0] hs z)⟩
 ·intro rm
  exact n4 (P:=Tryz.prog) t0 p1 z fun ro=>m1 rm (fun _=>(aF [1] z))<|r4 q5 fun a w ha hs=>⟨ro,cv ha,(am [1,0] hs z)⟩
 intro rp
 refine cl (t8 M) z z<|?_
 rintro _ rq _ ⟨rr,rs,rt,rfl,ru,rv,rfl⟩ lI
 exact m1 rp (fun _=>(aG [1] lI (l0 _) z))<|r4 rh fun a w ha hs=>⟨rr,rs,rt,rq,lI,ru,rv,cv ha,(am [1,0] hs z)⟩
theorem dx (y:Fsl 64 KDData F e f a1) (A:Fsl 64 KDData F h i a2) (B:Fsl 144 KDFun F j l a3) (C:Mrel (Kind.int .i64) false F m a4) (D:Mrel (Kind.int .i64) false F n a5) (E:Mrel (Kind.int .i64) false F o a6) (p:Mrel (Kind.int .i64) false F q a7) (hm:m_core_Table_IsOwn g a0 a1 a2 a3 a4 a5 a6 a7=some r):
    CallSp Tryz.prog 36 #[pP s 0,sV a0] F [bK s #[.map (some a),.map (some b),.map (some c),sl e a1 f,sl h a2 i,sl j a3 l,.map (some d)] 81,mapv t0 a m,mapv t0 b n,mapv t0 c o,mapv t0 d q] (fun u F' H'=>u=(.bool r)∧H'=[bK s #[.map (some a),.map (some b),.map (some c),sl e a1 f,sl h a2 i,sl j a3 l,.map (some d)] 81,mapv t0 a m,mapv t0 b n,mapv t0 c o,mapv t0 d q]):=by
 unfold m_core_Table_IsOwn at hm
 refine f1 Tryz.func36 z z fun G H I=>ssr<|sg z<|snn<|ssr<|mv z<|yv (t4 z) z<|fa fm z<|ld 0 cj z<|mv z<|oS hm fun J v hm=>?_
 obtain⟨L,w,M,t,x⟩:=p6 (k:=a0) p (show Mval (Kind.int .i64) false _ (iV 0) 0 from⟨[iV 0],z,z⟩)
 rw [Mir.getD_some v] at t
 obtain rfl:=t
 obtain rfl:=(List.cons.inj (if_neg (show¬(false=true) by decide)▸x)).1
 cases hm
 exact yv (bw z z 4 z aj aq eL w (Mrel.look (k:=a0) (K:=(Kind.int .i64)) (agg:=false) (z0:=(iV 0)) (zd:=0) ⟨[iV 0],z,z⟩ p).2) z<|mv z<|yv (r0 z z) z<|yv (r0 z z) z<|sg z<|sg z<|snn<|ssr<|mv z<|sg z<|snn<|u2<|k0 z z ⟨z,z⟩ (aF [0,0,0,0,0] z)
abbrev aO (g:Nat):Prop:=∀{F}{a0:DExpr}{a b c d e f}(h:Fsl 16 Kind.str F a b a0.Names) (i:Fsl 104 KDExpr F c d a0.Kids) (j:Fsl 160 KDAlt F e f a0.Alts) {r}(_:m_core_isTwiceCase g a0=some r),
    CallSp Tryz.prog 37 #[.agg (ca a0 a b c d e f)] F [] (fun u F' H'=>u=(.bool r)∧H'=[])
theorem dw (Z:aO g):aO (g+1):=by
 intro F a0 o p i k d e d9 a1 H r hm
 rw [m_core_isTwiceCase] at hm
 refine f1 Tryz.func37 z z fun e0 e1 e2=>ssr<|ba z fun b=>sg z<|snn<|oD hm (fun I h s=>∃a2:Unit,I=.inl a2∧∃l,m3 F l∧h [(1,pP b 0)]∧s l [bK b (ca a0 o p i k d e) 64]) (fun I hm q=>?_) fun I q a w=>?_
 ·refine ssr<|fa u9 z<|ld 0 en z<|yv (u0 eY z) z<|mv z<|snn<|t1<|lM hm (fun m h s=>∃f,m3 F f∧h [(1,pP b 0),(10,sl d a0.Alts e),(11,lV a0.Alts),(12,nV m)]∧s f [bK b (ca a0 o p i k d e) 64]) ?_ ?_
  ·intro a w ha hs
   exact⟨F,(l0 _),cv ha,(am [0] hs z)⟩
  rintro m e3 e4 hm t a w ⟨f,u,ha,hs⟩
  refine us ha hs<|ssr<|yv (r2 z z) z<|snn<|x1<|cP hm z (fun a8 hm=>?_) fun e5 hm=>?_
  ·refine skn<|x1<|t1<|ssr<|mv z<|oS hm fun c a9 hm=>?_
   obtain⟨e6,e7,b0,b1,b2⟩:=(x0 u H).nidx a9
   obtain⟨J,K,v,x,y,A,B,C,rfl,e8,b3,b5,b6⟩:=DAlt.opn b1
   refine yv (t2 b0 fr z z) z<|yv (v1 z (k3 b2 ci)) z<|aa eD z fun n=>sg z<|sN ci z z<|snn<|oD hm (fun L h s=>∃a3:Unit,L=.inl a3∧h [(1,pP b 0),(4,pP n 0),(10,sl d a0.Alts e),(11,lV a0.Alts),(12,nV m)]∧s f [bK b (ca a0 o p i k d e) 64,bK n (fC c J K v x y A B C) 141]) (fun L hm M=>?_) fun L M a w=>?_
   ·refine ssr<|fa u9 z<|ld 1 en z<|mv z<|oS hm fun D b7 hm=>?_
    obtain⟨a4,a5,b8,a6⟩:=(x0 u H).subx b7
    refine yv (Yields.subT b8 fr z z) z<|yv (u0 eY z) z<|mv z<|snn<|t1<|lM hm (fun E h s=>h [(1,pP b 0),(4,pP n 0),(10,sl d a0.Alts e),(11,lV a0.Alts),(12,nV m),(20,sl a4 D a5),(21,lV D),(22,nV E)]∧s f [bK b (ca a0 o p i k d e) 64,bK n (fC c J K v x y A B C) 141]) ?_ ?_
    ·intro a w ha hs
     exact⟨cv ha,(am [1,0] hs z)⟩
    rintro E e9 fo hm N a w ⟨ha,hs⟩
    refine us ha hs<|ssr<|yv (r2 z z) z<|snn<|x1<|cP hm z (fun b9 hm=>?_) fun f0 hm=>?_
    ·refine skn<|x1<|t1<|ssr<|oS hm fun gP cs hm=>?_
     obtain⟨gQ,gR,cu,c0,c1⟩:=a6.nidx cs
     obtain⟨gS,gT,gU,gV,gW,gX,gY,gZ,rfl,g0,g1,g2,g3⟩:=DAlt.opn c0
     refine yv (t2 cu fr z z) z<|yv (v1 z (k3 c1 ci)) z<|aa eD z fun g7=>sN ci z z<|snn<|oC hm (fun P h s=>h [(1,pP b 0),(4,pP n 0),(10,sl d a0.Alts e),(11,lV a0.Alts),(12,nV m),(20,sl a4 D a5),(21,lV D),(22,nV E),(50,.bool P)]∧s f [bK b (ca a0 o p i k d e) 64,bK n (fC c J K v x y A B C) 141]) (fun P hm=>?_) fun P hm a w=>?_
     ·refine q0<|fa y6 z<|fa w9 z<|ld 2 r6 z<|fa y6 z<|fa w9 z<|ld 0 r6 z<|?_
      rcases iS hm with⟨Q,hm⟩|⟨Q,hm⟩
      ·refine yv (t3 Q (w1 z z)) z<|mv z<|fw y6 z z<|fw t9 z z<|lw 2 r9 z z<|fw y6 z z<|fw t9 z z<|lw 0 r9 z z<|?_
       rcases iS hm with⟨R,hm⟩|⟨R,hm⟩
       ·cases hm
        exact yw (t3 R (v6 z z)) z z<|pt z<|mv z<|fw y6 z z<|fw bu z z<|lw 2 r6 z z<|fw y6 z z<|fw bu z z<|lw 0 r6 z z<|yw (w1 z z) z z<|pt z<|u1<|eN [1,1] z
       cases hm
       exact yw (s2 R (v6 z z)) z z<|pt z<|mv z<|un z z<|un z z<|un z z<|un z z<|un z z<|un z z<|un z z<|pf z<|u1<|eN [1,1] z
      cases hm
      exact yv (s2 Q (w1 z z)) z<|mv z<|un z z<|un z z<|un z z<|un z z<|un z z<|un z z<|un z z<|pf z<|mv z<|un z z<|un z z<|un z z<|un z z<|un z z<|un z z<|un z z<|pf z<|u1<|eN [1,1] z
     rintro⟨ha,hs⟩
     refine us ha hs<|cB hm z (fun hb hm=>?_) fun hc hm=>?_
     ·cases hm
      obtain rfl:=aR N
      obtain rfl:=aR M
      obtain rfl:=aR t
      obtain rfl:=aR q
      exact ssr<|sg z<|snn<|u2<|m2<|v0<|v0<|m2<|v0<|m2<|v0<|v0<|m2<|v0<|k0 z z ⟨z,z⟩ (aF [] z)
     cases hm
     exact k4<|f2<|s4<|q0<|yv (s3 (j:=1) z z z (by have q_0:=b9;have q_1:=a6.bnd.2;omega)) z<|mv z<|snn fun a w ha hs=>⟨E+1,aL N,cv ha,(am [0,0] hs z)⟩
    cases hm
    obtain rfl:=aR N
    exact u4<|p0<|p0<|u3 fun a w ha hs=>⟨(),z,cv ha,(am [0,0] hs z)⟩
   rintro⟨a3,rfl,ha,hs⟩
   replace hm:=aL M
   refine us ha hs<|ssr<|fa af z<|yv (v1 z (n7 (vs:=[iV c.E.Op,sV c.E.Name,iV c.E.N,sl v c.E.Names x,sl y c.E.Kids A,sl B c.E.Alts C]) 1 z m7 z z)) z<|oS hm fun hd c2 hm=>cl (Z (a0:=c.E) b3 b5 b6 c2) z z<|?_
   rintro _ c3 _ ⟨rfl,rfl⟩ c4
   refine snn<|cB hm z (fun he hm=>?_) fun hf hm=>?_
   ·cases hm
    obtain rfl:=aR t
    obtain rfl:=aR q
    exact ssr<|sg z<|snn<|u2<|m2<|v0<|v0<|m2<|v0<|k0 z z ⟨z,z⟩ (aF [] z)
   cases hm
   exact k4<|f2<|s4<|q0<|yv (s3 (j:=1) z z z (by have q_0:=a8;have q_1:=H.bnd.2;omega)) z<|mv z<|snn fun a w ha hs=>⟨m+1,aL t,c3,(s0 u c4),cv ha,(am [0] hs z)⟩
  cases hm
  obtain rfl:=aR t
  exact u4<|p0<|p0<|u3 fun a w ha hs=>⟨(),z,f,u,cv ha,(am [0] hs z)⟩
 rintro⟨a2,rfl,l,c5,ha,hs⟩
 replace hm:=aL q
 refine us ha hs<|oD hm (fun S h s=>∃a7:Unit,S=.inl a7∧∃U,m3 l U∧h []∧s U []) (fun S hm V=>?_) fun S V a w=>?_
 ·refine ssr<|fa w7 z<|ld 0 da z<|yv (u0 ek z) z<|mv z<|snn<|t1<|lM hm (fun W h s=>∃G,m3 l G∧h [(57,sl i a0.Kids k),(58,lV a0.Kids),(59,nV W)]∧s G []) ?_ ?_
  ·intro a w ha hs
   exact⟨l,(l0 _),cv ha,(am [] hs z)⟩
  rintro W hg hh hm X a w ⟨G,Y,ha,hs⟩
  refine us ha hs<|ssr<|yv (r2 z z) z<|snn<|x1<|cP hm z (fun c6 hm=>?_) fun hi hm=>?_
  ·refine skn<|x1<|t1<|ssr<|oS hm fun c7 c8 hm=>?_
   obtain⟨hj,hk,c9,d1,d2⟩:=(x0 (s0 c5 Y) a1).nidx c8
   obtain⟨hl,hn,ho,hp,hq,hr,rfl,d3,d4,d5⟩:=DExpr.opn d1
   refine yv (t2 c9 el z z) z<|yv (v1 z (k3 d2 m7)) z<|aa eK z fun ht=>sN m7 z z<|snn<|ssr<|lk 0 m7 z z<|oS hm fun hu d6 hm=>cl (Z (a0:=c7) d3 d4 d5 d6) z z<|?_
   rintro _ d7 _ ⟨rfl,rfl⟩ d8
   refine snn<|cB hm z (fun hv hm=>?_) fun hw hm=>?_
   ·cases hm
    obtain rfl:=aR X
    obtain rfl:=aR V
    exact ssr<|sg z<|snn<|u2<|m2<|v0<|v0<|m2<|v0<|k0 z z ⟨z,z⟩ (aF [] z)
   cases hm
   exact k4<|f2<|s4<|q0<|yv (s3 (j:=1) z z z (by have q_0:=c6;have q_1:=a1.bnd.2;omega)) z<|mv z<|snn fun a w ha hs=>⟨W+1,aL X,d7,(s0 Y d8),cv ha,(am [] hs z)⟩
  cases hm
  obtain rfl:=aR X
  exact u4<|p0<|p0<|u3 fun a w ha hs=>⟨(),z,G,Y,cv ha,(am [] hs z)⟩
 rintro⟨a7,rfl,U,hx,ha,hs⟩
 replace hm:=aL V
 cases hm
 exact us ha hs<|ssr<|sg z<|snn<|u2<|k0 z z ⟨z,z⟩ (aF [] z)
theorem bL:∀{g},aO g
 |0=>by intros;rename_i hm;exact nN hm
 |_+1=>dw bL
abbrev bc (g:Nat):Prop:=∀{F}{a0:DPat}{a1 a b c d e}(i:Fsl 56 KDPat F a b a0.Kids) (j:Cat Kind.str F e a1) (k:Bnd 16 a1) {r}(_:m_syntax_PatNames g a0 a1=some r),
    CallSp Tryz.prog 72 #[.agg #[iV a0.Op,sV a0.Name,iV a0.N,sl a a0.Kids b],sl c a1 d] F [rowo c a1.length d 9 1 e] (fun u F' H'=>∃f d0 h,u=(sl f r d0)∧Cat Kind.str F' h r∧Bnd 16 r∧H'=[rowo f r.length d0 9 1 h])
theorem dB (I:bc g):bc (g+1):=by
 intro F a0 a1 x y J K L A B M r hm
 rw [m_syntax_PatNames] at hm
 refine f1 Tryz.func72 z z fun b6 b7 b8=>ssr<|ba z fun C=>sg z<|snn<|oC hm (fun c h s=>∃i k l,Cat Kind.str F l c∧Bnd 16 c∧h [(1,sl i c k),(2,pP C 0)]∧s F [bK C #[iV a0.Op,sV a0.Name,iV a0.N,sl x a0.Kids y] 139,rowo i c.length k 9 1 l]) (fun c hm=>?_) fun c hm a w=>?_
 ·refine ssr<|fa w9 z<|ld 0 r6 z<|yv (w1 z z) z<|snn<|cP hm z (fun b9 hm=>?_) fun cs hm=>?_
  ·refine q0<|mv z<|fa t9 z<|ld 0 r9 z<|v3 (e:=9) (cells:=#[sV a0.Name]) (A2 z) (fun _=>by kernel_rfl) z p1 fun cu=>oS hm fun c0 D hm=>?_
   cases hm
   exact pk2<|pL D bM z z z z z B ⟨[sV a0.Name],_,z,z,z⟩ z fun N P Q R=>sg z<|u1 fun a w ha hs=>⟨N,P,Q,R,(f4 D),cv ha,(am [1,0] hs z)⟩
  cases hm
  exact k4 fun a w ha hs=>⟨J,K,L,B,M,cv ha,(am [0,0] hs z)⟩
 rintro⟨i,k,l,S,U,ha,hs⟩
 refine us ha hs<|oC hm (fun d h s=>∃m n o p,m3 F p∧Cat Kind.str p o d∧Bnd 16 d∧h [(1,sl m d n)]∧s p [rowo m d.length n 9 1 o]) (fun d hm=>?_) fun d hm a w=>?_
 ·refine ssr<|fa aT z<|ld 0 fc z<|yv (u0 eZ z) z<|mv z<|snn<|t1<|lM hm (fun b h s=>∃q t u f,m3 F f∧Cat Kind.str f u b.1∧Bnd 16 b.1∧h [(1,sl q b.1 t),(16,sl x a0.Kids y),(17,lV a0.Kids),(18,nV b.2)]∧s f [rowo q b.1.length t 9 1 u]) ?_ ?_
  ·intro a w ha hs
   exact⟨i,k,l,F,(l0 _),S,U,cv ha,(am [1] hs z)⟩
  rintro b c1 c2 hm E a w ⟨q,t,u,f,v,G,H,ha,hs⟩
  refine us ha hs<|ssr<|yv (r2 z z) z<|snn<|x1<|cP hm z (fun V hm=>?_) fun c3 hm=>?_
  ·refine skn<|x1<|t1<|ssr<|oS hm fun W X hm=>?_
   obtain⟨c4,c5,Y,Z,a2⟩:=(x0 v A).nidx X
   obtain⟨c6,c8,rfl,a3⟩:=DPat.opn Z
   refine yv (t2 Y gh z z) z<|yv (v1 z (k3 a2 dh)) z<|aa fW z fun c9=>sN dh z z<|snn<|q0<|lk 0 dh z z<|mv z<|pk1<|oS hm fun a4 a5 hm=>cl (I (a0:=W) a3 G H a5) z z<|?_
   rintro _ a6 _ ⟨a7,a8,a9,rfl,b0,b1,rfl⟩ b2
   cases hm
   exact sg z<|u1<|f2<|s4<|q0<|yv (s3 (j:=1) z z z (by have q_0:=V;have q_1:=A.bnd.2;omega)) z<|mv z<|snn fun a w ha hs=>⟨(a4,b.2+1),aL E,a7,a8,a9,a6,(s0 v b2),b0,b1,cv ha,(am [0] hs z)⟩
  cases hm
  obtain rfl:=aR E
  exact u4<|p0<|p0<|u3 fun a w ha hs=>⟨q,t,u,f,v,G,H,cv ha,(am [0] hs z)⟩
 rintro⟨m,n,o,p,d1,b4,b5,ha,hs⟩
 cases hm
 exact us ha hs<|ssr<|mv z<|sg z<|snn<|u2<|k0 z z ⟨m,n,o,z,b4,b5,z⟩ (aF [0] z)
theorem aM:∀{g},bc g
 |0=>by intros;rename_i hm;exact nN hm
 |_+1=>dB aM
abbrev bT (g:Nat):Prop:=∀{F}{a0:DExpr}{a1 a b c d e f h i j}(m:Fsl 16 Kind.str F a b a0.Names) (n:Fsl 104 KDExpr F c d a0.Kids) (o:Fsl 160 KDAlt F e f a0.Alts) (p:Cat Kind.str F j a1) (q:Bnd 16 a1) {r}(_:m_core_binders g a0 a1=some r),
    CallSp Tryz.prog 39 #[.agg (ca a0 a b c d e f),sl h a1 i] F [rowo h a1.length i 9 1 j] (fun u F' H'=>∃k d0 l,u=(sl k r d0)∧Cat Kind.str F' l r∧Bnd 16 r∧H'=[rowo k r.length d0 9 1 l])
theorem ej (V:bT g):bT (g+1):=by
 intro F a0 a1 M N p q t u a9 b0 b1 b2 W X Y b3 r hm
 rw [m_core_binders] at hm
 refine f1 Tryz.func39 z z fun hj hk hl=>ssr<|ba z fun i=>sg z<|snn<|oC hm (fun k h s=>∃P Q R,Cat Kind.str F R k∧Bnd 16 k∧h [(1,sl P k Q),(2,pP i 0)]∧s F [bK i (ca a0 M N p q t u) 64,rowo P k.length Q 9 1 R]) (fun k hm=>?_) fun k hm a w=>?_
 ·refine ssr<|fa n8 z<|ld 0 r6 z<|yv (w1 z z) z<|snn<|cP hm z (fun hn hm=>?_) fun ho hm=>?_
  ·refine q0<|mv z<|fa y7 z<|ld 0 r9 z<|v3 (e:=9) (cells:=#[sV a0.Name]) (A2 z) (fun _=>by kernel_rfl) z p1 fun hp=>oS hm fun hq Z hm=>?_
   cases hm
   exact pk2<|pL Z bM z z z z z Y ⟨[sV a0.Name],_,z,z,z⟩ z fun b4 b6 b7 b8=>sg z<|u1 fun a w ha hs=>⟨b4,b6,b7,b8,(f4 Z),cv ha,(am [1,0] hs z)⟩
  cases hm
  exact k4 fun a w ha hs=>⟨a9,b0,b1,Y,b3,cv ha,(am [0,0] hs z)⟩
 rintro⟨P,Q,R,b9,hr,ha,hs⟩
 refine us ha hs<|ssr<|mv z<|fa g9 z<|ld 0 aJ z<|oS hm fun ht a2 hm=>pk1<|pS a2 bM z z z z b9 b2 z fun cs cu c0 c1=>sg z<|snn<|oC hm (fun l h s=>∃v x y c,m3 F c∧Cat Kind.str c y l∧Bnd 16 l∧h [(1,sl v l x),(2,pP i 0)]∧s c [bK i (ca a0 M N p q t u) 64,rowo v l.length x 9 1 y]) (fun l hm=>?_) fun l hm a w=>?_
 ·refine ssr<|fa w7 z<|ld 1 da z<|yv (u0 ek z) z<|mv z<|snn<|t1<|lM hm (fun d h s=>∃A B C n,m3 F n∧Cat Kind.str n C d.1∧Bnd 16 d.1∧h [(1,sl A d.1 B),(2,pP i 0),(22,sl p a0.Kids q),(23,lV a0.Kids),(24,nV d.2)]∧s n [bK i (ca a0 M N p q t u) 64,rowo A d.1.length B 9 1 C]) ?_ ?_
  ·intro a w ha hs
   exact⟨cs,cu,c0,F,(l0 _),c1,(f4 a2),cv ha,(am [1,0] hs z)⟩
  rintro d hu hv hm a3 a w ⟨A,B,C,n,S,a4,a5,ha,hs⟩
  refine us ha hs<|ssr<|yv (r2 z z) z<|snn<|x1<|cP hm z (fun c2 hm=>?_) fun hw hm=>?_
  ·refine skn<|x1<|t1<|ssr<|oS hm fun c3 c4 hm=>?_
   obtain⟨hx,hy,c5,c6,c7⟩:=(x0 S W).nidx c4
   obtain⟨hz,hA,hB,hC,hD,hE,rfl,c8,d1,d2⟩:=DExpr.opn c6
   refine yv (t2 c5 el z z) z<|yv (v1 z (k3 c7 m7)) z<|aa eK z fun hF=>sN m7 z z<|snn<|q0<|lk 0 m7 z z<|mv z<|pk2<|oS hm fun d3 d4 hm=>cl (V (a0:=c3) c8 d1 d2 a4 a5 d4) z z<|?_
   rintro _ d5 _ ⟨d6,d7,d8,rfl,d9,e0,rfl⟩ e1
   cases hm
   exact sg z<|u1<|f2<|s4<|q0<|yv (s3 (j:=1) z z z (by have q_0:=c2;have q_1:=W.bnd.2;omega)) z<|mv z<|snn fun a w ha hs=>⟨(d3,d.2+1),aL a3,d6,d7,d8,d5,(s0 S e1),d9,e0,cv ha,(am [2,0] hs z)⟩
  cases hm
  obtain rfl:=aR a3
  exact u4<|p0<|p0<|u3 fun a w ha hs=>⟨A,B,C,n,S,a4,a5,cv ha,(am [0,0] hs z)⟩
 rintro⟨v,x,y,c,e2,e3,e4,ha,hs⟩
 refine us ha hs<|oC hm (fun m h s=>∃D E G H,m3 c H∧Cat Kind.str H G m∧Bnd 16 m∧h [(1,sl D m E)]∧s H [rowo D m.length E 9 1 G]) (fun m hm=>?_) fun m hm a w=>?_
 ·refine ssr<|fa u9 z<|ld 0 en z<|yv (u0 eY z) z<|mv z<|snn<|t1<|lM hm (fun f h s=>∃I J K o,m3 c o∧Cat Kind.str o K f.1∧Bnd 16 f.1∧h [(1,sl I f.1 J),(33,sl t a0.Alts u),(34,lV a0.Alts),(35,nV f.2)]∧s o [rowo I f.1.length J 9 1 K]) ?_ ?_
  ·intro a w ha hs
   exact⟨v,x,y,c,(l0 _),e3,e4,cv ha,(am [1] hs z)⟩
  rintro f hG hH hm a6 a w ⟨I,J,K,o,U,a7,a8,ha,hs⟩
  refine us ha hs<|ssr<|yv (r2 z z) z<|snn<|x1<|cP hm z (fun e5 hm=>?_) fun hI hm=>?_
  ·refine skn<|x1<|t1<|ssr<|oS hm fun b e6 hm=>?_
   obtain⟨hJ,hK,e7,e8,e9⟩:=(x0 (s0 e2 U) X).nidx e6
   obtain⟨fo,f0,gP,gQ,gR,gS,gT,gU,rfl,gV,gW,gX,gY⟩:=DAlt.opn e8
   refine yv (t2 e7 fr z z) z<|yv (v1 z (k3 e9 ci)) z<|aa eD z fun hL=>sN ci z z<|snn<|ssr<|fa y6 z<|yv (v1 z (n7 (vs:=[iV b.P.Op,sV b.P.Name,iV b.P.N,sl fo b.P.Kids f0]) 0 z dh z z)) z<|mv z<|pk1<|oS hm fun hM gZ hm=>cl (aM (a0:=b.P) gV a7 a8 gZ) z z<|?_
   rintro _ hN _ ⟨hO,hP,hQ,rfl,g0,g1,rfl⟩ L
   refine sg z<|snn<|q0<|fa af z<|yv (v1 z (n7 (vs:=[iV b.E.Op,sV b.E.Name,iV b.E.N,sl gP b.E.Names gQ,sl gR b.E.Kids gS,sl gT b.E.Alts gU]) 1 z m7 z z)) z<|mv z<|oS hm fun g2 g3 hm=>cl (V (a0:=b.E) (x0 L gW) (x0 L gX) (x0 L gY) g0 g1 g3) z z<|?_
   rintro _ g7 _ ⟨hb,hc,hd,rfl,he,hf,rfl⟩ hg
   cases hm
   exact sg z<|u1<|f2<|s4<|q0<|yv (s3 (j:=1) z z z (by have q_0:=e5;have q_1:=X.bnd.2;omega)) z<|mv z<|snn fun a w ha hs=>⟨(g2,f.2+1),aL a6,hb,hc,hd,g7,(s0 U (s0 L hg)),he,hf,cv ha,(am [0] hs z)⟩
  cases hm
  obtain rfl:=aR a6
  exact u4<|p0<|p0<|u3 fun a w ha hs=>⟨I,J,K,o,U,a7,a8,cv ha,(am [0] hs z)⟩
 rintro⟨D,E,G,H,hR,hh,hi,ha,hs⟩
 cases hm
 exact us ha hs<|ssr<|mv z<|sg z<|snn<|u2<|k0 z z ⟨D,E,G,z,hh,hi,z⟩ (aF [0] z)
theorem bG:∀{g},bT g
 |0=>by intros;rename_i hm;exact nN hm
 |_+1=>ej bG
theorem dN (i:Fsl 16 Kind.str F l m a0) (hm:m_syntax_IsTwice g a0=some r):
    CallSp Tryz.prog 71 #[sl l a0 m] F [] (fun u F' H'=>u=(.bool r)∧H'=[]):=by
 unfold m_syntax_IsTwice at hm
 refine f1 Tryz.func71 z z fun K L M=>ssr<|sg z<|snn<|ssr<|n4 (P:=Tryz.prog) t0 p1 z fun n=>sg z<|snn<|oD hm (fun c h s=>∃o:Unit,c=.inl o∧h []∧s F []) (fun c hm d=>?_) fun c d a w=>?_
 ·refine ssr<|mv z<|yv (u0 bj z) z<|mv z<|snn<|t1<|lM hm (fun b h s=>∃e,Mrel Kind.bool false F e b.1∧h [(3,.map (some n)),(7,sl l a0 m),(8,lV a0),(9,nV b.2)]∧s F [mapv t0 n e]) ?_ ?_
  ·intro a w ha hs
   exact⟨[],(mN Kind.bool false),cv ha,(am [0] hs z)⟩
  rintro b N Q hm f a w ⟨e,p,ha,hs⟩
  refine us ha hs<|ssr<|yv (r2 z z) z<|snn<|x1<|cP hm z (fun t hm=>?_) fun R hm=>?_
  ·refine skn<|x1<|t1<|ssr<|oS hm fun v x hm=>?_
   obtain⟨S,U,y,A,B⟩:=i.nidx x
   obtain rfl:=A
   refine yv (t2 y bM z z) z<|yv (v1 z (k5 B r9 z)) z<|sg z<|snn<|x1<|ssr<|mv z<|mv z<|oS hm fun V C hm=>?_
   obtain⟨W,D,X,q,E⟩:=p6 (k:=v) p (show Mval Kind.bool false _ (.bool false) false from⟨[.bool false],z,z⟩)
   rw [Mir.getD_some C] at q
   obtain rfl:=q
   obtain rfl:=(List.cons.inj (if_neg (show¬(false=true) by decide)▸E)).1
   refine yv (f7 z z 0 z ec em gp D) z<|snn<|cB hm z (fun Y hm=>?_) fun Z hm=>?_
   ·cases hm
    obtain rfl:=aR f
    obtain rfl:=aR d
    exact ssr<|sg z<|snn<|u2<|v0<|m2<|v0<|v0<|m2<|v0<|k0 z z ⟨z,z⟩ (aF [] z)
   refine skn<|q0<|mv z<|mv z<|oS hm fun G H hm=>?_
   cases hm
   exact mP H p ⟨[.bool true],z,z⟩ ec em z fun I J=>u1<|f2<|s4<|q0<|yv (s3 (j:=1) z z z (by have q_0:=t;have q_1:=i.bnd.2;omega)) z<|mv z<|snn fun a w ha hs=>⟨(G,b.2+1),aL f,I,J,cv ha,(am [0] hs z)⟩
  cases hm
  obtain rfl:=aR f
  exact u4<|p0<|p0<|u3 fun a w ha hs=>⟨(),z,cv ha,(am [] hs z)⟩
 rintro⟨o,rfl,ha,hs⟩
 replace hm:=aL d
 cases hm
 exact us ha hs<|ssr<|sg z<|snn<|u2<|k0 z z ⟨z,z⟩ (aF [] z)
theorem w6 (N:Fsl 64 KDData F e f a1) (P:Fsl 64 KDData F h i a2) (y:Fsl 144 KDFun F j l a3) (m:Mrel (Kind.int .i64) false F n a4) (Q:Mrel (Kind.int .i64) false F o a5) (R:Mrel (Kind.int .i64) false F p a6) (q:Mrel (Kind.int .i64) false F s a7) (hm:m_core_Table_FunArity g a0 a1 a2 a3 a4 a5 a6 a7=some r):
    CallSp Tryz.prog 44 #[pP t 0,sV a0] F [bK t #[.map (some a),.map (some b),.map (some c),sl e a1 f,sl h a2 i,sl j a3 l,.map (some d)] 81,mapv t0 a n,mapv t0 b o,mapv t0 c p,mapv t0 d s] (fun u F' H'=>u=(.tuple #[iV r.1,.bool r.2])∧H'=[bK t #[.map (some a),.map (some b),.map (some c),sl e a1 f,sl h a2 i,sl j a3 l,.map (some d)] 81,mapv t0 a n,mapv t0 b o,mapv t0 c p,mapv t0 d s]):=by
 unfold m_core_Table_FunArity at hm
 refine f1 Tryz.func44 z z fun S U V=>ssr<|sg z<|sg z<|snn<|x1<|ssr<|mv z<|yv (t4 z) z<|fa df z<|ld 0 cj z<|mv z<|oS hm fun W A hm=>?_
 obtain⟨X,B,Y,w,C⟩:=p6 (k:=a0) m (show Mval (Kind.int .i64) false _ (iV 0) 0 from⟨[iV 0],z,z⟩)
 rw [Mir.getD_some A] at w
 obtain rfl:=w
 obtain rfl:=(List.cons.inj (if_neg (show¬(false=true) by decide)▸C)).1
 refine yv (bw z z 1 z aj aq eL B (Mrel.look (k:=a0) (K:=(Kind.int .i64)) (agg:=false) (z0:=(iV 0)) (zd:=0) ⟨[iV 0],z,z⟩ m).2) z<|mv z<|yv (r0 z z) z<|yv (r0 z z) z<|sg z<|sg z<|snn<|ssr<|mv z<|snn<|cB hm z (fun Z hm=>?_) fun a8 hm=>?_
 ·refine ssr<|mv z<|yv (t4 z) z<|fa fS z<|fa fU z<|ld 0 fs z<|mv z<|oS hm fun a9 D hm=>?_
  obtain⟨E,b0,G,H,I⟩:=y.idx D
  obtain⟨b1,b2,b3,b4,b5,b6,b7,b8,rfl,b9,cs,cu,c0⟩:=DFun.opn H
  cases hm
  exact yv (t2 G fF z z) z<|yv (bg (v:=(.pointer (some (E.add 1)))) z (fun _=>by kernel_rfl)) z<|yv (v1 z (Loads.Fatk 1 I aJ z)) z<|yv (u0 bj z) z<|sg z<|sg z<|snn<|u2<|v0<|x9 z z z ⟨z,z⟩ (aF [0,0,0,0,0] z)
 refine skn<|ssr<|mv z<|yv (t4 z) z<|fa fm z<|ld 0 cj z<|mv z<|oS hm fun c1 J hm=>?_
 obtain⟨c2,L,c3,x,M⟩:=p6 (k:=a0) q (show Mval (Kind.int .i64) false _ (iV 0) 0 from⟨[iV 0],z,z⟩)
 rw [Mir.getD_some J] at x
 obtain rfl:=x
 obtain rfl:=(List.cons.inj (if_neg (show¬(false=true) by decide)▸M)).1
 cases hm
 exact yv (bw z z 4 z aj aq eL L (Mrel.look (k:=a0) (K:=(Kind.int .i64)) (agg:=false) (z0:=(iV 0)) (zd:=0) ⟨[iV 0],z,z⟩ q).2) z<|mv z<|yv (r0 z z) z<|yv (r0 z z) z<|sg z<|sg z<|snn<|ssr<|mv z<|mv z<|sg z<|sg z<|snn<|u2<|x9 z z z ⟨z,z⟩ (aF [0,0,0,0,0] z)
theorem bt (B:Fsl 16 Kind.str F J K a0) (M:Fsl 64 KDData F l m a1) (N:Fsl 64 KDData F n o a2) (P:Fsl 144 KDFun F p q a3) (Q:Mrel (Kind.int .i64) false F t a4) (R:Mrel (Kind.int .i64) false F v a5) (S:Mrel (Kind.int .i64) false F x a6) (U:Mrel (Kind.int .i64) false F y a7) (hm:m_core_Table_isTwice g a0 a1 a2 a3 a4 a5 a6 a7=some r):
    CallSp Tryz.prog 38 #[pP k 0,sl J a0 K] F [bK k #[.map (some d),.map (some e),.map (some f),sl l a1 m,sl n a2 o,sl p a3 q,.map (some i)] 81,mapv t0 d t,mapv t0 e v,mapv t0 f x,mapv t0 i y] (fun u F' H'=>u=(.bool r)∧H'=[bK k #[.map (some d),.map (some e),.map (some f),sl l a1 m,sl n a2 o,sl p a3 q,.map (some i)] 81,mapv t0 d t,mapv t0 e v,mapv t0 f x,mapv t0 i y]):=by
 unfold m_core_Table_isTwice at hm
 refine f1 Tryz.func38 z z fun b2 b3 b4=>ssr<|sg z<|snn<|x1<|ssr<|mv z<|oS hm fun b5 V hm=>cl (dN B V) z z<|?_
 rintro _ C _ ⟨rfl,rfl⟩ c
 refine snn<|cB hm z (fun b6 hm=>?_) fun b7 hm=>?_
 ·cases hm
  exact ssr<|sg z<|snn<|u2<|v0<|k0 z z ⟨z,z⟩ (aF [0,0,0,0,0] z)
 refine skn<|oD hm (fun D h s=>∃L:Unit,D=.inl L∧∃E,m3 C E∧h []∧s E [mapv t0 d t,mapv t0 e v,mapv t0 f x,mapv t0 i y,bK k #[.map (some d),.map (some e),.map (some f),sl l a1 m,sl n a2 o,sl p a3 q,.map (some i)] 81]) (fun D hm G=>?_) fun D G a w=>?_
 ·refine ssr<|mv z<|yv (u0 bj z) z<|mv z<|snn<|t1<|lM hm (fun H h s=>∃A,m3 C A∧h [(0,pP k 0),(11,sl J a0 K),(12,lV a0),(13,nV H)]∧s A [mapv t0 d t,mapv t0 e v,mapv t0 f x,mapv t0 i y,bK k #[.map (some d),.map (some e),.map (some f),sl l a1 m,sl n a2 o,sl p a3 q,.map (some i)] 81]) ?_ ?_
  ·intro a w ha hs
   exact⟨C,(l0 _),cv ha,(am [1,1,1,1,0] hs z)⟩
  rintro H b8 b9 hm I a w ⟨A,b,ha,hs⟩
  refine us ha hs<|ssr<|yv (r2 z z) z<|snn<|x1<|cP hm z (fun W hm=>?_) fun cs hm=>?_
  ·refine skn<|x1<|t1<|ssr<|oS hm fun cu X hm=>?_
   obtain⟨c0,c1,Y,Z,a8⟩:=(x0 (s0 c b) B).nidx X
   obtain rfl:=Z
   refine yv (t2 Y bM z z) z<|yv (v1 z (k5 a8 r9 z)) z<|sg z<|snn<|ssr<|mv z<|mv z<|pk3<|pk3<|pk3<|pk3<|pk4<|oS hm fun c2 a9 hm=>cl (w6 (x0 (s0 c b) M) (x0 (s0 c b) N) (x0 (s0 c b) P) (p2 (s0 c b) Q) (p2 (s0 c b) R) (p2 (s0 c b) S) (p2 (s0 c b) U) a9) z z<|?_
   rintro _ b0 _ ⟨rfl,rfl⟩ b1
   refine mv z<|yv (r0 z z) z<|yv (r0 z z) z<|sg z<|sg z<|snn<|ssr<|mv z<|snn<|cB hm z (fun c3 hm=>?_) fun c4 hm=>?_
   ·cases hm
    obtain rfl:=aR I
    obtain rfl:=aR G
    exact ssr<|sg z<|snn<|u2<|m2<|v0<|v0<|m2<|v0<|k0 z z ⟨z,z⟩ (aF [0,0,0,0,0] z)
   cases hm
   exact k4<|f2<|s4<|q0<|yv (s3 (j:=1) z z z (by have q_0:=W;have q_1:=B.bnd.2;omega)) z<|mv z<|snn fun a w ha hs=>⟨H+1,aL I,b0,(s0 b b1),cv ha,(am [1,1,1,1,0] hs z)⟩
  cases hm
  obtain rfl:=aR I
  exact u4<|p0<|p0<|u3 fun a w ha hs=>⟨(),z,A,b,cv ha,(am [0,0,0,0,0] hs z)⟩
 rintro⟨L,rfl,E,c5,ha,hs⟩
 replace hm:=aL G
 cases hm
 exact us ha hs<|ssr<|sg z<|snn<|u2<|k0 z z ⟨z,z⟩ (aF [4,0,0,0,0] z)
theorem dC (l:Fsl 16 Kind.str F c d a0) (hm:m_core_with g a0=some r):
    CallSp Tryz.prog 41 #[.map none,sl c a0 d] F [] (fun u F' H'=>∃m n,u=(.map (some m))∧Mrel Kind.bool false F' n r∧H'=[mapv t0 m n]):=by
 unfold m_core_with at hm
 refine f1 Tryz.func41 z z fun K L M=>ssr<|sg z<|snn<|ssr<|n4 (P:=Tryz.prog) t0 p1 z fun b=>sg z<|snn<|oC hm (fun o h s=>h [(1,sl c a0 d),(5,.map (some b))]∧s F [mapv t0 b []]) (fun o hm=>?_) fun o hm a w=>?_
 ·refine ssr<|mv z<|St.rangeNil z ec p1 z fun p=>snn<|t1<|lM hm (fun v h s=>h [(1,sl c a0 d),(5,.map (some b)),(11,pP p 0)]∧s F [mapv t0 b [],blk p (.mapIter none 0 #[] 0)]) ?_ ?_
  ·intro a w ha hs
   exact⟨cv ha,(am [1,0] hs z)⟩
  rintro v N Q hm x a w ⟨ha,hs⟩
  cases hm
  obtain rfl:=aR x
  exact us ha hs<|ssr<|yv (Yields.nextNil z 1 z) z<|yv (r0 z z) z<|snn<|x1<|cg z<|u4<|p0<|p0<|u3 fun a w ha hs=>⟨cv ha,(am [0] hs z)⟩
 rintro⟨ha,hs⟩
 refine us ha hs<|oC hm (fun k h s=>∃e,Mrel Kind.bool false F e k∧h [(5,.map (some b))]∧s F [mapv t0 b e]) (fun k hm=>?_) fun k hm a w=>?_
 ·refine ssr<|mv z<|yv (u0 bj z) z<|mv z<|snn<|t1<|lM hm (fun f h s=>∃i,Mrel Kind.bool false F i f.1∧h [(5,.map (some b)),(18,sl c a0 d),(19,lV a0),(20,nV f.2)]∧s F [mapv t0 b i]) ?_ ?_
  ·intro a w ha hs
   exact⟨[],(mN Kind.bool false),cv ha,(am [0] hs z)⟩
  rintro f R S hm q a w ⟨i,t,ha,hs⟩
  refine us ha hs<|ssr<|yv (r2 z z) z<|snn<|x1<|cP hm z (fun y hm=>?_) fun U hm=>?_
  ·refine skn<|x1<|t1<|ssr<|oS hm fun V A hm=>?_
   obtain⟨W,X,B,C,D⟩:=l.nidx A
   obtain rfl:=C
   refine yv (t2 B bM z z) z<|yv (v1 z (k5 D r9 z)) z<|sg z<|snn<|q0<|mv z<|mv z<|oS hm fun E G hm=>?_
   cases hm
   exact mP G t ⟨[.bool true],z,z⟩ ec em z fun H I=>u1<|f2<|s4<|q0<|yv (s3 (j:=1) z z z (by have q_0:=y;have q_1:=l.bnd.2;omega)) z<|mv z<|snn fun a w ha hs=>⟨(E,f.2+1),aL q,H,I,cv ha,(am [0] hs z)⟩
  cases hm
  obtain rfl:=aR q
  exact u4<|p0<|p0<|u3 fun a w ha hs=>⟨i,t,cv ha,(am [0] hs z)⟩
 rintro⟨e,J,ha,hs⟩
 cases hm
 exact us ha hs<|ssr<|mv z<|sg z<|snn<|u2<|k0 z z ⟨b,e,z,J,z⟩ (aF [0] z)
theorem cE (o:Fsl 16 Kind.str F i k a0) (E:Cat Kind.str F p a1) (X:Bnd 16 a1) (G:Mrel Kind.bool false F t a2) (hm:m_core_Table_isLost_f1 g a0 a1 a2=some r):
    CallSp Tryz.prog 73 #[sl i a0 k,pP d 0,pP c 0] F [bK d #[.map (some b)] 95,bK c #[sl e a1 f] 60,mapv t0 b t,rowo e a1.length f 9 1 p] (fun u F' H'=>∃v x y A,u=(.tuple #[])∧Cat Kind.str F' y r.1∧Bnd 16 r.1∧Mrel Kind.bool false F' A r.2∧H'=[bK d #[.map (some b)] 95,bK c #[sl v r.1 x] 60,mapv t0 b A,rowo v r.1.length x 9 1 y]):=by
 unfold m_core_Table_isLost_f1 at hm
 refine f1 Tryz.func73 z z fun Y Z a3=>oC hm (fun q h s=>∃l,Mrel Kind.bool false F l q∧h [(0,sl i a0 k),(2,pP c 0)]∧s F [mapv t0 b l,bK d #[.map (some b)] 95,bK c #[sl e a1 f] 60,rowo e a1.length f 9 1 p]) (fun q hm=>?_) fun q hm a w=>?_
 ·refine ssr<|mv z<|yv (u0 bj z) z<|mv z<|snn<|t1<|lM hm (fun m h s=>∃n,Mrel Kind.bool false F n m.1∧h [(0,sl i a0 k),(1,pP d 0),(2,pP c 0),(6,sl i a0 k),(7,lV a0),(8,nV m.2)]∧s F [mapv t0 b n,bK d #[.map (some b)] 95,bK c #[sl e a1 f] 60,rowo e a1.length f 9 1 p]) ?_ ?_
  ·intro a w ha hs
   exact⟨t,G,cv ha,(am [2,0,0,0] hs z)⟩
  rintro m a4 a5 hm B a w ⟨n,C,ha,hs⟩
  refine us ha hs<|ssr<|yv (r2 z z) z<|snn<|x1<|cP hm z (fun H hm=>?_) fun a6 hm=>?_
  ·refine skn<|x1<|t1<|ssr<|oS hm fun a7 I hm=>?_
   obtain⟨a8,a9,J,K,L⟩:=o.nidx I
   obtain rfl:=K
   refine yv (t2 J bM z z) z<|yv (v1 z (k5 L r9 z)) z<|sg z<|snn<|q0<|ld 1 fR z<|mv z<|oS hm fun M N hm=>?_
   cases hm
   exact mP N C ⟨[.bool true],z,z⟩ ec em z fun P Q=>u1<|f2<|s4<|q0<|yv (s3 (j:=1) z z z (by have q_0:=H;have q_1:=o.bnd.2;omega)) z<|mv z<|snn fun a w ha hs=>⟨(M,m.2+1),aL B,P,Q,cv ha,(am [0,0,0,0] hs z)⟩
  cases hm
  obtain rfl:=aR B
  exact u4<|p0<|p0<|u3 fun a w ha hs=>⟨n,C,cv ha,(am [0,0,0,0] hs z)⟩
 rintro⟨l,R,ha,hs⟩
 refine us ha hs<|q0<|ld 2 aJ z<|mv z<|oS hm fun b0 D hm=>?_
 cases hm
 exact pk3<|pS D bM z z z z E o z fun S U V W=>pk3<|s1 aJ z<|u1<|St.endR0 z ⟨S,U,V,l,z,W,(f4 D),R,z⟩ (aF [3,0,1,0] z)
theorem aD (t:Cat Kind.str F l a0) (G:Bnd 16 a0) (H:Cat Kind.str F p a1) (a5:Bnd 16 a1) (I:Mrel Kind.bool false F v a2) (hm:m_core_Table_isLost_f1_2 g a0 a1 a2=some r):
    CallSp Tryz.prog 73 #[sl c a0 d,pP f 0,pP e 0] F [bK f #[.map (some b)] 95,bK e #[sl i a1 k] 60,mapv t0 b v,rowo c a0.length d 9 1 l,rowo i a1.length k 9 1 p] (fun u F' H'=>∃x y A B,u=(.tuple #[])∧Cat Kind.str F' A r.1∧Bnd 16 r.1∧Mrel Kind.bool false F' B r.2∧H'=[bK f #[.map (some b)] 95,bK e #[sl x r.1 y] 60,mapv t0 b B,rowo c a0.length d 9 1 l,rowo x r.1.length y 9 1 A]):=by
 unfold m_core_Table_isLost_f1_2 at hm
 refine f1 Tryz.func73 z z fun a6 a7 a8=>oC hm (fun q h s=>∃m,Mrel Kind.bool false F m q∧h [(0,sl c a0 d),(2,pP e 0)]∧s F [mapv t0 b m,bK f #[.map (some b)] 95,bK e #[sl i a1 k] 60,rowo c a0.length d 9 1 l,rowo i a1.length k 9 1 p]) (fun q hm=>?_) fun q hm a w=>?_
 ·refine ssr<|mv z<|yv (u0 bj z) z<|mv z<|snn<|t1<|lM hm (fun n h s=>∃o,Mrel Kind.bool false F o n.1∧h [(0,sl c a0 d),(1,pP f 0),(2,pP e 0),(6,sl c a0 d),(7,lV a0),(8,nV n.2)]∧s F [mapv t0 b o,bK f #[.map (some b)] 95,bK e #[sl i a1 k] 60,rowo c a0.length d 9 1 l,rowo i a1.length k 9 1 p]) ?_ ?_
  ·intro a w ha hs
   exact⟨v,I,cv ha,(am [2,0,0,0,0] hs z)⟩
  rintro n a9 b0 hm C a w ⟨o,D,ha,hs⟩
  refine us ha hs<|ssr<|yv (r2 z z) z<|snn<|x1<|cP hm z (fun J hm=>?_) fun b1 hm=>?_
  ·refine skn<|x1<|t1<|ssr<|oS hm fun b2 K hm=>?_
   obtain⟨L,M,b3,N,P⟩:=t.nidx K
   obtain rfl:=N
   refine s9 3 z (by omega) fun Q=>yv (t2 (f8 Q L M) bM z z) z<|yv (v1 z (aI 3 z r9 (P 0 _ z))) z<|sg z<|snn<|q0<|ld 1 fR z<|mv z<|oS hm fun S U hm=>?_
   cases hm
   exact mP U D ⟨[.bool true],z,z⟩ ec em z fun V W=>u1<|f2<|s4<|q0<|yv (s3 (j:=1) z z z (by have q_0:=J;have q_1:=G.2;omega)) z<|mv z<|snn fun a w ha hs=>⟨(S,n.2+1),aL C,V,W,cv ha,(am [0,0,0,0,0] hs z)⟩
  cases hm
  obtain rfl:=aR C
  exact u4<|p0<|p0<|u3 fun a w ha hs=>⟨o,D,cv ha,(am [0,0,0,0,0] hs z)⟩
 rintro⟨m,X,ha,hs⟩
 refine us ha hs<|q0<|ld 2 aJ z<|mv z<|oS hm fun b4 E hm=>?_
 cases hm
 exact St.pushR (R:=[mapv t0 b m,bK f #[.map (some b)] 95,bK e #[sl i a1 k] 60,rowo c a0.length d 9 1 l]) E bM z z z z 4 z z 3 z H t z p1 fun Y Z a3 a4=>pk3<|s1 aJ z<|u1<|St.endR0 z ⟨Y,Z,a3,m,z,a4,(f4 E),X,z⟩ (aF [3,0,1,1,0] z)
abbrev aB (g:Nat):Prop:=∀{F}{a0:DExpr}{a1 a2 a3 a4 a5 a6 a7 a8 e f a b c d s t v w x y h i j k l m A n o p q}(C:Fsl 16 Kind.str F s t a0.Names) (D:Fsl 104 KDExpr F v w a0.Kids) (E:Fsl 160 KDAlt F x y a0.Alts) (G:Fsl 64 KDData F h i a1) (H:Fsl 64 KDData F j k a2) (I:Fsl 144 KDFun F l m a3) (J:Mrel Kind.bool false F A a4) (K:Mrel (Kind.int .i64) false F n a5) (L:Mrel (Kind.int .i64) false F o a6) (M:Mrel (Kind.int .i64) false F p a7) (N:Mrel (Kind.int .i64) false F q a8) {r}(_:m_core_Table_isLost g a0 a1 a2 a3 a4 a5 a6 a7 a8=some r),
    CallSp Tryz.prog 40 #[pP e 0,.agg (ca a0 s t v w x y),.map (some f)] F [bK e #[.map (some a),.map (some b),.map (some c),sl h a1 i,sl j a2 k,sl l a3 m,.map (some d)] 81,mapv t0 f A,mapv t0 a n,mapv t0 b o,mapv t0 c p,mapv t0 d q] (fun u F' H'=>∃B,u=(.bool r.1)∧Mrel Kind.bool false F' B r.2∧H'=[bK e #[.map (some a),.map (some b),.map (some c),sl h a1 i,sl j a2 k,sl l a3 m,.map (some d)] 81,mapv t0 f B,mapv t0 a n,mapv t0 b o,mapv t0 c p,mapv t0 d q])
theorem de (hM:aB g):aB (g+1):=by
 intro F a0 a1 a2 a3 a4 a5 a6 a7 a8 n m d f i l b9 cs U V M N q t u v x y hh A B C E il hN hO hi hj hk e7 hl cu hn ho r hm
 rw [m_core_Table_isLost] at hm
 refine f1 Tryz.func40 z z fun kc kd ke=>ssr<|ba z fun J=>bx z fun b=>sg z<|snn<|ssr<|sg z<|snn<|oC hm (fun d7 h s=>∃d8,m3 F d8∧h [(0,pP n 0),(4,pP J 0),(5,pP b 0),(7,.bool d7)]∧s d8 [mapv t0 d A,mapv t0 f B,mapv t0 i C,mapv t0 l E,bK n #[.map (some d),.map (some f),.map (some i),sl q a1 t,sl u a2 v,sl x a3 y,.map (some l)] 81,mapv t0 m hh,bK J (ca a0 b9 cs U V M N) 64,bK b #[.map (some m)] 95]) (fun d7 hm=>?_) fun d7 hm a w=>?_
 ·refine ssr<|fa n8 z<|ld 1 r6 z<|snn<|t1<|ssr<|yv (w1 z z) z<|sg z<|snn<|cP hm z (fun kf hm=>?_) fun kg hm=>?_
  ·refine q0<|ld 0 fR z<|fa y7 z<|ld 1 r9 z<|oS hm fun kh im hm=>?_
   obtain⟨ki,io,kj,hP,ip⟩:=p6 (k:=a0.Name) e7 (show Mval Kind.bool false _ (.bool false) false from⟨[.bool false],z,z⟩)
   rw [Mir.getD_some im] at hP
   obtain rfl:=hP
   obtain rfl:=(List.cons.inj (if_neg (show¬(false=true) by decide)▸ip)).1
   cases hm
   exact yv (f7 z z 3 z ec em gp io) z<|sg z<|u1<|f2 fun a w ha hs=>⟨F,(l0 _),cv ha,(am [4,4,4,4,2,2,1,0] hs z)⟩
  refine ssr<|yv (w1 z z) z<|sg z<|snn<|cP hm z (fun kk hm=>?_) fun kl hm=>?_
  ·refine q0<|mv z<|fa y7 z<|ld 1 r9 z<|pk7<|pk7<|pk7<|pk7<|pk6<|oS hm fun km iq hm=>cl (w6 hi hj hk hl cu hn ho iq) z z<|?_
   rintro _ ir _ ⟨rfl,rfl⟩ it
   cases hm
   exact mv z<|yv (r0 z z) z<|yv (r0 z z) z<|sg z<|u1<|f2 fun a w ha hs=>⟨ir,it,cv ha,(am [1,1,1,1,0,2,1,0] hs z)⟩
  refine ssr<|yv (w1 z z) z<|sg z<|snn<|cP hm z (fun kn hm=>?_) fun ko hm=>?_
  ·refine ds [] hmix<|tp 0 z (fun _=>x2 z) z z<|tp 1 z (fun _=>t4 z) z z<|tp 2 z (fun _=>w3 az z) z z<|tk [0,1,2,4,7,8,9,10] 3 z (p3 2 cj z) z z k1<|tp 4 z (fun _=>w3 y7 z) z z<|tk [0,1,2,4,7,8,9,10] 5 z (p3 1 r9 z) z z k1<|oS hm fun kp iu hm=>?_
   obtain⟨kq,iv,kr,hQ,iw⟩:=p6 (k:=a0.Name) cu (show Mval (Kind.int .i64) false _ (iV 0) 0 from⟨[iV 0],z,z⟩)
   rw [Mir.getD_some iu] at hQ
   obtain rfl:=hQ
   obtain rfl:=(List.cons.inj (if_neg (show¬(false=true) by decide)▸iw)).1
   cases hm
   exact tk [0,1,2,4,7,8,9,10] 6 z (bw z z 5 z aj aq eL iv (Mrel.look (k:=a0.Name) (K:=(Kind.int .i64)) (agg:=false) (z0:=(iV 0)) (zd:=0) ⟨[iV 0],z,z⟩ cu).2) z z k1<|tp 7 z (fun _=>x2 z) z z<|tp 8 z (fun _=>r0 z z) z z<|tp 9 z (fun _=>r0 z z) z z<|tp 10 z (fun _=>w4 z) z z<|dn<|f2 fun a w ha hs=>⟨F,(l0 _),cv ha,(am [4,4,4,4,2,2,1,0] hs z)⟩
  cases hm
  exact k4<|f2 fun a w ha hs=>⟨F,(l0 _),cv ha,(am [4,4,4,4,2,2,1,0] hs z)⟩
 rintro⟨d8,o,ha,hs⟩
 refine us ha hs<|x1<|ssr<|mv z<|yv (p5 z) z<|snn<|?_
 refine m5 z ?_ ?_
 ·intro hp
  replace hp:¬(d7=true):=nb_t hp
  replace hm:=iF hm hp
  cases hm
  exact ssr<|sg z<|snn<|u2<|v0<|k0 z z ⟨hh,z,(p2 o e7),z⟩ (aF [4,4,0,0,0,0] z)
 intro hq
 replace hq:d7=true:=nb_f hq
 replace hm:=iT hm hq
 refine skn<|ssr<|al gK z fun c=>snn<|ssr<|yv (aH (fun _ _=>ev0) (fun _ ha=>ev2 ha z z)) z<|sg z<|snn<|ssr<|sg z<|snn<|oC hm (fun c0 h s=>∃e8 e9 fo f0 b3,m3 d8 b3∧Mrel Kind.bool false b3 e8 c0.1∧Cat Kind.str b3 f0 c0.2∧Bnd 16 c0.2∧h [(0,pP n 0),(4,pP J 0),(5,pP b 0),(8,pP c 0),(9,.func (.func 73) #[] #[pP b 0,pP c 0]),(10,.bool false)]∧s b3 [mapv t0 d A,mapv t0 f B,mapv t0 i C,mapv t0 l E,bK n #[.map (some d),.map (some f),.map (some i),sl q a1 t,sl u a2 v,sl x a3 y,.map (some l)] 81,mapv t0 m e8,bK J (ca a0 b9 cs U V M N) 64,bK b #[.map (some m)] 95,bK c #[sl e9 c0.2 fo] 60,rowo e9 c0.2.length fo 9 1 f0]) (fun c0 hm=>?_) fun c0 hm a w=>?_
 ·refine ssr<|fa n8 z<|ld 7 r6 z<|yv (w1 z z) z<|snn<|cP hm z (fun ks hm=>?_) fun kt hm=>?_
  ·refine q0<|mv z<|fa g9 z<|ld 7 aJ z<|n6 9 1<|pk7<|pk2<|pk9<|oS hm fun ku ix hm=>cl (cE (x0 o il) (show Cat Kind.str _ [] [] from z) r8 (p2 o e7) ix) z z<|?_
   rintro _ iy _ ⟨iz,iA,iB,iC,rfl,iD,iE,iG,rfl⟩ iH
   cases hm
   exact u1 fun a w ha hs=>⟨iC,iz,iA,iB,iy,iH,iG,iD,iE,cv ha,(am [4,4,4,4,4,2,3,0,0,0] hs z)⟩
  cases hm
  exact k4<|n6 9 1 fun a w ha hs=>⟨hh,none,0,[],d8,(l0 _),(p2 o e7),(show Cat Kind.str _ [] [] from z),r8,cv ha,(am [2,2,2,2,2,2,2,2,1,0] hs z)⟩
 rintro⟨e8,e9,fo,f0,b3,G,iI,iJ,iK,ha,hs⟩
 refine us ha hs<|oC hm (fun b4 h s=>∃gP gQ gR gS b5,m3 b3 b5∧Mrel Kind.bool false b5 gP b4.1∧Cat Kind.str b5 gS b4.2.1∧Bnd 16 b4.2.1∧h [(0,pP n 0),(4,pP J 0),(5,pP b 0),(8,pP c 0),(9,.func (.func 73) #[] #[pP b 0,pP c 0]),(10,.bool b4.2.2)]∧s b5 [mapv t0 d A,mapv t0 f B,mapv t0 i C,mapv t0 l E,bK n #[.map (some d),.map (some f),.map (some i),sl q a1 t,sl u a2 v,sl x a3 y,.map (some l)] 81,mapv t0 m gP,bK J (ca a0 b9 cs U V M N) 64,bK b #[.map (some m)] 95,bK c #[sl gQ b4.2.1 gR] 60,rowo gQ b4.2.1.length gR 9 1 gS]) (fun b4 hm=>?_) fun b4 hm a w=>?_
 ·refine ssr<|fa w7 z<|ld 6 da z<|yv (u0 ek z) z<|mv z<|snn<|t1<|lM hm (fun H h s=>∃c6 c1 c2 c7 W,m3 b3 W∧Mrel Kind.bool false W c6 H.1∧Cat Kind.str W c7 H.2.1∧Bnd 16 H.2.1∧h [(0,pP n 0),(4,pP J 0),(5,pP b 0),(8,pP c 0),(9,.func (.func 73) #[] #[pP b 0,pP c 0]),(10,.bool H.2.2.1),(62,sl U a0.Kids V),(63,lV a0.Kids),(64,nV H.2.2.2)]∧s W [mapv t0 d A,mapv t0 f B,mapv t0 i C,mapv t0 l E,bK n #[.map (some d),.map (some f),.map (some i),sl q a1 t,sl u a2 v,sl x a3 y,.map (some l)] 81,mapv t0 m c6,bK J (ca a0 b9 cs U V M N) 64,bK b #[.map (some m)] 95,bK c #[sl c1 H.2.1 c2] 60,rowo c1 H.2.1.length c2 9 1 c7]) ?_ ?_
  ·intro a w ha hs
   exact⟨e8,e9,fo,f0,b3,(l0 _),iI,iJ,iK,cv ha,(am [0,0,0,0,0,0,0,0,0,0] hs z)⟩
  rintro H kv kw hm hR a w ⟨c6,c1,c2,c7,W,a9,hr,ht,hu,ha,hs⟩
  refine us ha hs<|ssr<|yv (r2 z z) z<|snn<|x1<|cP hm z (fun iL hm=>?_) fun kx hm=>?_
  ·refine skn<|oC hm (fun X h s=>∃gT gU gV gW c8,m3 W c8∧Mrel Kind.bool false c8 gT X.1∧Cat Kind.str c8 gW X.2.1∧Bnd 16 X.2.1∧h [(0,pP n 0),(4,pP J 0),(5,pP b 0),(8,pP c 0),(9,.func (.func 73) #[] #[pP b 0,pP c 0]),(10,.bool X.2.2),(62,sl U a0.Kids V),(63,lV a0.Kids),(64,nV H.2.2.2)]∧s c8 [mapv t0 d A,mapv t0 f B,mapv t0 i C,mapv t0 l E,bK n #[.map (some d),.map (some f),.map (some i),sl q a1 t,sl u a2 v,sl x a3 y,.map (some l)] 81,mapv t0 m gT,bK J (ca a0 b9 cs U V M N) 64,bK b #[.map (some m)] 95,bK c #[sl gU X.2.1 gV] 60,rowo gU X.2.1.length gV 9 1 gW]) (fun X hm=>?_) fun X hm a w=>?_
   ·refine t1<|ssr<|mv z<|oS hm fun hv iM hm=>?_
    obtain⟨ky,kz,iN,iO,iP⟩:=(x0 (s0 o (s0 G a9)) hN).nidx iM
    obtain⟨hS,hT,hU,hV,hW,hX,rfl,iQ,iR,iU⟩:=DExpr.opn iO
    refine yv (t2 iN el z z) z<|yv (v1 z (k3 iP m7)) z<|aa eK z fun gX=>sg z<|sN m7 z z<|snn<|oC hm (fun c3 h s=>∃gY d9 e0 e1 c9,m3 W c9∧Mrel Kind.bool false c9 gY c3.1∧Cat Kind.str c9 e1 c3.2∧Bnd 16 c3.2∧h [(0,pP n 0),(4,pP J 0),(5,pP b 0),(8,pP c 0),(9,.func (.func 73) #[] #[pP b 0,pP c 0]),(10,.bool H.2.2.1),(12,pP gX 0),(62,sl U a0.Kids V),(63,lV a0.Kids),(64,nV H.2.2.2)]∧s c9 [mapv t0 d A,mapv t0 f B,mapv t0 i C,mapv t0 l E,bK n #[.map (some d),.map (some f),.map (some i),sl q a1 t,sl u a2 v,sl x a3 y,.map (some l)] 81,mapv t0 m gY,bK J (ca a0 b9 cs U V M N) 64,bK b #[.map (some m)] 95,bK c #[sl d9 c3.2 e0] 60,bK gX (ca hv hS hT hU hV hW hX) 64,rowo d9 c3.2.length e0 9 1 e1]) (fun c3 hm=>?_) fun c3 hm a w=>?_
    ·refine oC hm (fun hw h s=>h [(0,pP n 0),(4,pP J 0),(5,pP b 0),(8,pP c 0),(9,.func (.func 73) #[] #[pP b 0,pP c 0]),(10,.bool H.2.2.1),(12,pP gX 0),(62,sl U a0.Kids V),(63,lV a0.Kids),(64,nV H.2.2.2),(75,.bool hw)]∧s W [mapv t0 d A,mapv t0 f B,mapv t0 i C,mapv t0 l E,bK n #[.map (some d),.map (some f),.map (some i),sl q a1 t,sl u a2 v,sl x a3 y,.map (some l)] 81,mapv t0 m c6,bK J (ca a0 b9 cs U V M N) 64,bK b #[.map (some m)] 95,bK c #[sl c1 H.2.1 c2] 60,bK gX (ca hv hS hT hU hV hW hX) 64,rowo c1 H.2.1.length c2 9 1 c7]) (fun hw hm=>?_) fun hw hm a w=>?_
     ·refine q0<|fa n8 z<|ld 7 r6 z<|?_
      rcases iS hm with⟨hx,hm⟩|⟨hx,hm⟩
      ·cases hm
       exact yv (t3 hx (w1 z z)) z<|mv z<|mw z z<|yw (w1 z z) z z<|pt z<|u1<|eN [1,1,1,1,1,1,1,1,1,0,0] z
      cases hm
      exact yv (s2 hx (w1 z z)) z<|mv z<|un z z<|un z z<|pf z<|u1<|eN [1,1,1,1,1,1,1,1,1,0,0] z
     rintro⟨ha,hs⟩
     refine us ha hs<|cB hm z (fun kA hm=>?_) fun kB hm=>?_
     ·refine q0<|mv z<|fa y7 z<|ld 6 r9 z<|v3 (e:=9) (cells:=#[sV a0.Name]) (A2 z) (fun _=>by kernel_rfl) z p1 fun kC=>wr ([a0.Name]:List (List UInt8)) 1 z z<|pk11<|pk1<|pk7<|pk10<|pk10<|oS hm fun kD iW hm=>cl (aD (show Cat Kind.str W [sV a0.Name] ([a0.Name]:List (List UInt8)) from⟨[sV a0.Name],_,z,z,z⟩) (show Bnd 16 ([a0.Name]:List (List UInt8)) from⟨by simp,by simp⟩) ht hu hr iW) z z<|?_
      rintro _ iX _ ⟨iY,iZ,i0,i1,rfl,i2,i3,i4,rfl⟩ i5
      cases hm
      exact u1 fun a w ha hs=>⟨i1,iY,iZ,i0,iX,i5,i4,i2,i3,cv ha,(am [5,5,5,5,5,2,4,0,0,2,1] hs z)⟩
     cases hm
     exact k4 fun a w ha hs=>⟨c6,c1,c2,c7,W,(l0 _),hr,ht,hu,cv ha,(am [0,0,0,0,0,0,0,0,0,0,0] hs z)⟩
    rintro⟨gY,d9,e0,e1,c9,Q,hY,hZ,h0,ha,hs⟩
    refine us ha hs<|q0<|?_
    rcases iS hm with⟨hy,hm⟩|⟨hy,hm⟩
    ·have i6:(H.2.2.1)=true:=hy
     try rw [i6]
     cases hm
     exact mv z<|mv z<|un z z<|un z z<|un z z<|un z z<|pt z<|sg z<|u1<|f2 fun a w ha hs=>⟨gY,d9,e0,e1,c9,Q,hY,hZ,h0,cv ha,(am [0,0,0,0,0,0,0,0,0,1] hs z)⟩
    have i7:(H.2.2.1)=false:=w2 hy
    try rw [i7]
    refine mv z<|mv z<|mw z z<|yw (g5 9 m7 z) z z<|lw 7 fR z z<|pk3<|pk3<|pk3<|pk3<|pk5<|pk5<|oS hm fun kE i8 hm=>f5 _ (hM (a0:=hv) (x0 Q iQ) (x0 Q iR) (x0 Q iU) (x0 (s0 o (s0 G (s0 a9 Q))) hi) (x0 (s0 o (s0 G (s0 a9 Q))) hj) (x0 (s0 o (s0 G (s0 a9 Q))) hk) hY (p2 (s0 o (s0 G (s0 a9 Q))) hl) (p2 (s0 o (s0 G (s0 a9 Q))) cu) (p2 (s0 o (s0 G (s0 a9 Q))) hn) (p2 (s0 o (s0 G (s0 a9 Q))) ho) i8) z (A1 z) z en40.out z z z<|?_
    rintro _ i9 _ ⟨ja,rfl,jb,rfl⟩ h1
    cases hm
    exact pf z<|sg z<|u1<|f2 fun a w ha hs=>⟨ja,d9,e0,e1,i9,(s0 Q h1),jb,(g4 h1 hZ),h0,cv ha,(am [2,2,2,2,0,0,0,0,0,1] hs z)⟩
   rintro⟨gT,gU,gV,gW,c8,jc,jd,je,jf,ha,hs⟩
   cases hm
   exact us ha hs<|q0<|yv (s3 (j:=1) z z z (by have q_0:=iL;have q_1:=hN.bnd.2;omega)) z<|mv z<|snn fun a w ha hs=>⟨(X.1,X.2.1,X.2.2,H.2.2.2+1),aL hR,gT,gU,gV,gW,c8,(s0 a9 jc),jd,je,jf,cv ha,(am [0,0,0,0,0,0,0,0,0,0] hs z)⟩
  cases hm
  obtain rfl:=aR hR
  exact u4<|p0<|p0<|u3 fun a w ha hs=>⟨c6,c1,c2,c7,W,a9,hr,ht,hu,cv ha,(am [0,0,0,0,0,0,0,0,0,0] hs z)⟩
 rintro⟨gP,gQ,gR,gS,b5,b0,jg,jh,ji,ha,hs⟩
 refine us ha hs<|oC hm (fun L h s=>∃gZ d1 d2 e2 b1,m3 b5 b1∧Mrel Kind.bool false b1 gZ L.1∧Cat Kind.str b1 e2 L.2.1∧Bnd 16 L.2.1∧h [(5,pP b 0),(8,pP c 0),(10,.bool L.2.2)]∧s b1 [mapv t0 d A,mapv t0 f B,mapv t0 i C,mapv t0 l E,bK n #[.map (some d),.map (some f),.map (some i),sl q a1 t,sl u a2 v,sl x a3 y,.map (some l)] 81,mapv t0 m gZ,bK b #[.map (some m)] 95,bK c #[sl d1 L.2.1 d2] 60,rowo d1 L.2.1.length d2 9 1 e2]) (fun L hm=>?_) fun L hm a w=>?_
 ·refine ssr<|fa u9 z<|ld 6 en z<|yv (u0 eY z) z<|mv z<|snn<|t1<|lM hm (fun p h s=>∃d3 b6 b7 d4 b2,m3 b5 b2∧Mrel Kind.bool false b2 d3 p.1∧Cat Kind.str b2 d4 p.2.1∧Bnd 16 p.2.1∧h [(0,pP n 0),(5,pP b 0),(8,pP c 0),(9,.func (.func 73) #[] #[pP b 0,pP c 0]),(10,.bool p.2.2.1),(90,sl M a0.Alts N),(91,lV a0.Alts),(92,nV p.2.2.2)]∧s b2 [mapv t0 d A,mapv t0 f B,mapv t0 i C,mapv t0 l E,bK n #[.map (some d),.map (some f),.map (some i),sl q a1 t,sl u a2 v,sl x a3 y,.map (some l)] 81,mapv t0 m d3,bK b #[.map (some m)] 95,bK c #[sl b6 p.2.1 b7] 60,rowo b6 p.2.1.length b7 9 1 d4]) ?_ ?_
  ·intro a w ha hs
   exact⟨gP,gQ,gR,gS,b5,(l0 _),jg,jh,ji,cv ha,(am [0,0,0,0,0,0,1,1,1] hs z)⟩
  rintro p kF kG hm h2 a w ⟨d3,b6,b7,d4,b2,S,h3,h4,h5,ha,hs⟩
  refine us ha hs<|ssr<|yv (r2 z z) z<|snn<|x1<|cP hm z (fun jj hm=>?_) fun kH hm=>?_
  ·refine skn<|oC hm (fun Y h s=>∃g0 g1 g2 g3 d5,m3 b2 d5∧Mrel Kind.bool false d5 g0 Y.1∧Cat Kind.str d5 g3 Y.2.1∧Bnd 16 Y.2.1∧h [(0,pP n 0),(5,pP b 0),(8,pP c 0),(9,.func (.func 73) #[] #[pP b 0,pP c 0]),(10,.bool Y.2.2),(90,sl M a0.Alts N),(91,lV a0.Alts),(92,nV p.2.2.2)]∧s d5 [mapv t0 d A,mapv t0 f B,mapv t0 i C,mapv t0 l E,bK n #[.map (some d),.map (some f),.map (some i),sl q a1 t,sl u a2 v,sl x a3 y,.map (some l)] 81,mapv t0 m g0,bK b #[.map (some m)] 95,bK c #[sl g1 Y.2.1 g2] 60,rowo g1 Y.2.1.length g2 9 1 g3]) (fun Y hm=>?_) fun Y hm a w=>?_
   ·refine t1<|ssr<|oS hm fun I jk hm=>?_
    obtain⟨kI,kJ,jl,jm,jn⟩:=(x0 (s0 o (s0 G (s0 b0 S))) hO).nidx jk
    obtain⟨hz,hA,hB,hC,hD,hE,hF,hG,rfl,jo,jp,jq,jr⟩:=DAlt.opn jm
    refine yv (t2 jl fr z z) z<|yv (v1 z (k3 jn ci)) z<|aa eD z fun g7=>sN ci z z<|snn<|oC hm (fun e3 h s=>h [(0,pP n 0),(5,pP b 0),(8,pP c 0),(9,.func (.func 73) #[] #[pP b 0,pP c 0]),(10,.bool e3),(14,pP g7 0),(90,sl M a0.Alts N),(91,lV a0.Alts),(92,nV p.2.2.2)]∧s b2 [mapv t0 d A,mapv t0 f B,mapv t0 i C,mapv t0 l E,bK n #[.map (some d),.map (some f),.map (some i),sl q a1 t,sl u a2 v,sl x a3 y,.map (some l)] 81,mapv t0 m d3,bK b #[.map (some m)] 95,bK c #[sl b6 p.2.1 b7] 60,bK g7 (fC I hz hA hB hC hD hE hF hG) 141,rowo b6 p.2.1.length b7 9 1 d4]) (fun e3 hm=>?_) fun e3 hm a w=>?_
    ·refine x1<|ds [] hmix<|tp 0 z (fun _=>x2 z) z z<|tp 1 z (fun _=>t4 z) z z<|tp 2 z (fun _=>w3 az z) z z<|tk [0,1,2,4,5,8,9,10,11,12] 3 z (p3 5 cj z) z z k1<|tp 4 z (fun _=>w3 y6 z) z z<|tp 5 z (fun _=>w3 t9 z) z z<|tk [0,1,2,4,5,8,9,10,11,12] 6 z (p3 0 r9 z) z z k1<|oS hm fun kK js hm=>?_
     obtain⟨kL,jt,kM,h6,ju⟩:=p6 (k:=I.P.Name) (p2 (s0 o (s0 G (s0 b0 S))) cu) (show Mval (Kind.int .i64) false _ (iV 0) 0 from⟨[iV 0],z,z⟩)
     rw [Mir.getD_some js] at h6
     obtain rfl:=h6
     obtain rfl:=(List.cons.inj (if_neg (show¬(false=true) by decide)▸ju)).1
     refine tk [0,1,2,4,5,8,9,10,11,12] 7 z (bw z z 2 z aj aq eL jt (Mrel.look (k:=I.P.Name) (K:=(Kind.int .i64)) (agg:=false) (z0:=(iV 0)) (zd:=0) ⟨[iV 0],z,z⟩ (p2 (s0 o (s0 G (s0 b0 S))) cu)).2) z z k1<|tp 8 z (fun _=>x2 z) z z<|tp 9 z (fun _=>r0 z z) z z<|tp 10 z (fun _=>r0 z z) z z<|tp 11 z (fun _=>w4 z) z z<|tp 12 z (fun _=>w4 z) z z<|dn<|s4<|oC hm (fun hH h s=>h [(0,pP n 0),(5,pP b 0),(8,pP c 0),(9,.func (.func 73) #[] #[pP b 0,pP c 0]),(10,.bool p.2.2.1),(14,pP g7 0),(90,sl M a0.Alts N),(91,lV a0.Alts),(92,nV p.2.2.2),(114,.bool hH)]∧s b2 [mapv t0 d A,mapv t0 f B,mapv t0 i C,mapv t0 l E,bK n #[.map (some d),.map (some f),.map (some i),sl q a1 t,sl u a2 v,sl x a3 y,.map (some l)] 81,mapv t0 m d3,bK b #[.map (some m)] 95,bK c #[sl b6 p.2.1 b7] 60,bK g7 (fC I hz hA hB hC hD hE hF hG) 141,rowo b6 p.2.1.length b7 9 1 d4]) (fun hH hm=>?_) fun hH hm a w=>?_
     ·refine q0<|fa y6 z<|fa w9 z<|ld 0 r6 z<|?_
      rcases iS hm with⟨hI,hm⟩|⟨hI,hm⟩
      ·cases hm
       exact yv (t3 hI (w1 z z)) z<|mv z<|mw z z<|yw (p5 z) z z<|pt z<|u1<|eN [1,1,1,1,1,1,1,1,0,0] z
      cases hm
      exact yv (s2 hI (w1 z z)) z<|mv z<|un z z<|un z z<|pf z<|u1<|eN [1,1,1,1,1,1,1,1,0,0] z
     rintro⟨ha,hs⟩
     refine us ha hs<|cB hm z (fun kN hm=>?_) fun kO hm=>?_
     ·cases hm
      exact q0<|sg z<|u1<|eN [0,0,0,0,0,0,0,0,0,0] z
     cases hm
     exact k4 fun a w ha hs=>⟨cv ha,(am [0,0,0,0,0,0,0,0,0,0] hs z)⟩
    rintro⟨ha,hs⟩
    refine us ha hs<|ssr<|ld 7 aJ z<|yv (u0 bj z) z<|sg z<|snn<|ssr<|mv z<|fa y6 z<|yv (v1 z (n7 (vs:=[iV I.P.Op,sV I.P.Name,iV I.P.N,sl hz I.P.Kids hA]) 8 z dh z z)) z<|n6 9 1<|oS hm fun kP jv hm=>cl (aM (a0:=I.P) jo (show Cat Kind.str _ [] [] from z) r8 jv) z z<|?_
    rintro _ kQ _ ⟨kR,kS,kT,rfl,jw,jy,rfl⟩ P
    refine pk10<|pk1<|pk7<|pk9<|pk9<|oS hm fun d6 jz hm=>cl (aD jw jy (g4 P h4) h5 (p2 P h3) jz) z z<|?_
    rintro _ h7 _ ⟨b8,c4,hb,jA,rfl,h8,h9,ia,rfl⟩ Z
    refine snn<|oC hm (fun e4 h s=>∃hc c5,m3 h7 c5∧Mrel Kind.bool false c5 hc e4.1∧h [(0,pP n 0),(5,pP b 0),(8,pP c 0),(9,.func (.func 73) #[] #[pP b 0,pP c 0]),(10,.bool e4.2),(17,lV p.2.1),(90,sl M a0.Alts N),(91,lV a0.Alts),(92,nV p.2.2.2)]∧s c5 [mapv t0 d A,mapv t0 f B,mapv t0 i C,mapv t0 l E,bK n #[.map (some d),.map (some f),.map (some i),sl q a1 t,sl u a2 v,sl x a3 y,.map (some l)] 81,mapv t0 m hc,bK b #[.map (some m)] 95,bK c #[sl b8 d6.1 c4] 60,rowo b8 d6.1.length c4 9 1 hb]) (fun e4 hm=>?_) fun e4 hm a w=>?_
    ·refine q0<|?_
     rcases iS hm with⟨hJ,hm⟩|⟨hJ,hm⟩
     ·have jB:(e3)=true:=hJ
      try rw [jB]
      cases hm
      exact mv z<|mv z<|un z z<|un z z<|un z z<|un z z<|un z z<|pt z<|sg z<|u1 fun a w ha hs=>⟨jA,h7,(l0 _),ia,cv ha,(am [5,5,5,5,5,2,0,0,1] hs z)⟩
     have jC:(e3)=false:=w2 hJ
     try rw [jC]
     refine mv z<|mv z<|mw z z<|fw af z z<|yw (v1 z (n7 (vs:=[iV I.E.Op,sV I.E.Name,iV I.E.N,sl hB I.E.Names hC,sl hD I.E.Kids hE,sl hF I.E.Alts hG]) 10 z m7 z z)) z z<|lw 0 fR z z<|pk8<|pk8<|pk8<|pk8<|pk6<|pk9<|oS hm fun kU jD hm=>f5 _ (hM (a0:=I.E) (x0 (s0 P Z) jp) (x0 (s0 P Z) jq) (x0 (s0 P Z) jr) (x0 (s0 o (s0 G (s0 b0 (s0 S (s0 P Z))))) hi) (x0 (s0 o (s0 G (s0 b0 (s0 S (s0 P Z))))) hj) (x0 (s0 o (s0 G (s0 b0 (s0 S (s0 P Z))))) hk) ia (p2 (s0 o (s0 G (s0 b0 (s0 S (s0 P Z))))) hl) (p2 (s0 o (s0 G (s0 b0 (s0 S (s0 P Z))))) cu) (p2 (s0 o (s0 G (s0 b0 (s0 S (s0 P Z))))) hn) (p2 (s0 o (s0 G (s0 b0 (s0 S (s0 P Z))))) ho) jD) z (A1 z) z en40.out z z z<|?_
     rintro _ jE _ ⟨jF,rfl,jG,rfl⟩ jH
     cases hm
     exact pf z<|sg z<|u1 fun a w ha hs=>⟨jF,jE,jH,jG,cv ha,(am [2,2,2,2,0,0,0,0,1] hs z)⟩
    rintro⟨hc,c5,hK,jI,ha,hs⟩
    refine us ha hs<|ssr<|ld 7 aJ z<|mv z<|oS hm fun ib hd hm=>St.rowo_len 8 z fun jJ=>?_
    obtain⟨jK,jL,ic,kV⟩:=subOwn (D:=Kind.str) b8 9 jJ hd
    refine yv (Yields.subD ic bM z z) z<|yv (u0 bj z) z<|mv z<|snn<|t1<|lM hm (fun e5 h s=>∃he,Mrel Kind.bool false c5 he e5.1∧h [(0,pP n 0),(5,pP b 0),(8,pP c 0),(9,.func (.func 73) #[] #[pP b 0,pP c 0]),(10,.bool e4.2),(90,sl M a0.Alts N),(91,lV a0.Alts),(92,nV p.2.2.2),(132,sl jK ib jL),(133,lV ib),(134,nV e5.2)]∧s c5 [mapv t0 d A,mapv t0 f B,mapv t0 i C,mapv t0 l E,bK n #[.map (some d),.map (some f),.map (some i),sl q a1 t,sl u a2 v,sl x a3 y,.map (some l)] 81,mapv t0 m he,bK b #[.map (some m)] 95,bK c #[sl b8 d6.1 c4] 60,rowo b8 d6.1.length c4 9 1 hb]) ?_ ?_
    ·intro a w ha hs
     exact⟨hc,jI,cv ha,(am [0,0,0,0,0,0,0,0,0] hs z)⟩
    rintro e5 kW kX hm ie a w ⟨he,ig,ha,hs⟩
    refine us ha hs<|ssr<|yv (r2 z z) z<|snn<|x1<|cP hm z (fun jM hm=>?_) fun kY hm=>?_
    ·refine skn<|x1<|t1<|ssr<|oS hm fun jN ih hm=>?_
     obtain⟨kZ,la,ii⟩:=sub_idx hd (nlit ih)
     rw [Mir.idx_nat] at ii
     obtain⟨lb,lc,lf,jO,jP⟩:=(g4 hK h8).nidx ii
     obtain rfl:=jO
     cases hm
     exact s9 8 z (by omega) fun jQ=>yv (t2 (IdxAt.part jQ ic hd (nlit ih)) bM z z) z<|yv (v1 z (aI 8 z r9 (jP 0 _ z))) z<|sg z<|snn<|q0<|ld 6 fR z<|mv z<|St.mapDelK (R:=[mapv t0 d A,mapv t0 f B,mapv t0 i C,mapv t0 l E,bK n #[.map (some d),.map (some f),.map (some i),sl q a1 t,sl u a2 v,sl x a3 y,.map (some l)] 81,bK b #[.map (some m)] 95,bK c #[sl b8 d6.1 c4] 60,rowo b8 d6.1.length c4 9 1 hb]) ig z z 5 z z ec em p1 fun jR jT=>u1<|f2<|s4<|q0<|yv (s3 (j:=1) z z z (by have q_0:=jM;have q_1:=(Bnd.of_sub h9 hd).2;omega)) z<|mv z<|snn fun a w ha hs=>⟨((Mir.del e5.1 jN),e5.2+1),aL ie,jR,jT,cv ha,(am [1,1,1,1,1,0,0,0,0] hs z)⟩
    cases hm
    obtain rfl:=aR ie
    exact u4<|p0<|p0<|u3<|f2 fun a w ha hs=>⟨he,b8,c4,hb,c5,(s0 P (s0 Z hK)),ig,(g4 hK h8),h9,cv ha,(am [0,0,0,0,0,0,0,0,0] hs z)⟩
   rintro⟨g0,g1,g2,g3,d5,jU,jV,jW,jX,ha,hs⟩
   cases hm
   exact us ha hs<|q0<|yv (s3 (j:=1) z z z (by have q_0:=jj;have q_1:=hO.bnd.2;omega)) z<|mv z<|snn fun a w ha hs=>⟨(Y.1,Y.2.1,Y.2.2,p.2.2.2+1),aL h2,g0,g1,g2,g3,d5,(s0 S jU),jV,jW,jX,cv ha,(am [0,0,0,0,0,0,0,0,0] hs z)⟩
  cases hm
  obtain rfl:=aR h2
  exact u4<|p0<|p0<|u3 fun a w ha hs=>⟨d3,b6,b7,d4,b2,S,h3,h4,h5,cv ha,(am [0,0,0,0,0,0,0,0,0] hs z)⟩
 rintro⟨gZ,d1,d2,e2,b1,lg,jY,jZ,j0,ha,hs⟩
 refine us ha hs<|oC hm (fun hL h s=>∃hf,Mrel Kind.bool false b1 hf hL∧h [(10,.bool L.2.2)]∧s b1 [mapv t0 d A,mapv t0 f B,mapv t0 i C,mapv t0 l E,bK n #[.map (some d),.map (some f),.map (some i),sl q a1 t,sl u a2 v,sl x a3 y,.map (some l)] 81,mapv t0 m hf]) (fun hL hm=>?_) fun hL hm a w=>?_
 ·refine ssr<|ld 7 aJ z<|yv (u0 bj z) z<|mv z<|snn<|t1<|lM hm (fun e6 h s=>∃hg,Mrel Kind.bool false b1 hg e6.1∧h [(5,pP b 0),(10,.bool L.2.2),(142,sl d1 L.2.1 d2),(143,lV L.2.1),(144,nV e6.2)]∧s b1 [mapv t0 d A,mapv t0 f B,mapv t0 i C,mapv t0 l E,bK n #[.map (some d),.map (some f),.map (some i),sl q a1 t,sl u a2 v,sl x a3 y,.map (some l)] 81,mapv t0 m hg,bK b #[.map (some m)] 95,rowo d1 L.2.1.length d2 9 1 e2]) ?_ ?_
  ·intro a w ha hs
   exact⟨gZ,jY,cv ha,(am [0,0,0,0,0,0,0,1] hs z)⟩
  rintro e6 lh li hm ij a w ⟨hg,ik,ha,hs⟩
  refine us ha hs<|ssr<|yv (r2 z z) z<|snn<|x1<|cP hm z (fun j1 hm=>?_) fun lj hm=>?_
  ·refine skn<|x1<|t1<|ssr<|oS hm fun j2 j3 hm=>?_
   obtain⟨j4,j5,ll,j6,j7⟩:=jZ.nidx j3
   obtain rfl:=j6
   cases hm
   exact s9 7 z (by omega) fun j8=>yv (t2 (f8 j8 j4 j5) bM z z) z<|yv (v1 z (aI 7 z r9 (j7 0 _ z))) z<|sg z<|snn<|q0<|ld 6 fR z<|mv z<|St.mapDelK (R:=[mapv t0 d A,mapv t0 f B,mapv t0 i C,mapv t0 l E,bK n #[.map (some d),.map (some f),.map (some i),sl q a1 t,sl u a2 v,sl x a3 y,.map (some l)] 81,bK b #[.map (some m)] 95,rowo d1 L.2.1.length d2 9 1 e2]) ik z z 5 z z ec em p1 fun j9 ka=>u1<|f2<|s4<|q0<|yv (s3 (j:=1) z z z (by have q_0:=j1;have q_1:=j0.2;omega)) z<|mv z<|snn fun a w ha hs=>⟨((Mir.del e6.1 j2),e6.2+1),aL ij,j9,ka,cv ha,(am [1,1,1,1,1,0,0,0] hs z)⟩
  cases hm
  obtain rfl:=aR ij
  exact u4<|p0<|p0<|u3 fun a w ha hs=>⟨hg,ik,cv ha,(am [0,0,0,0,0,0] hs z)⟩
 rintro⟨hf,kb,ha,hs⟩
 cases hm
 exact us ha hs<|ssr<|mv z<|sg z<|snn<|u2<|k0 z z ⟨hf,z,kb,z⟩ (aF [4,4,0,0,0,0] z)
theorem ax:∀{g},aB g
 |0=>by intros;rename_i hm;exact nN hm
 |_+1=>de ax
abbrev aw (g:Nat):Prop:=∀{F}{a0:DExpr}{a1 a2 a3 a4 a5 a6 a7 e a b c d q s t v w x f h i j k l m n o p}(y:Fsl 16 Kind.str F q s a0.Names) (A:Fsl 104 KDExpr F t v a0.Kids) (B:Fsl 160 KDAlt F w x a0.Alts) (C:Fsl 64 KDData F f h a1) (D:Fsl 64 KDData F i j a2) (E:Fsl 144 KDFun F k l a3) (G:Mrel (Kind.int .i64) false F m a4) (H:Mrel (Kind.int .i64) false F n a5) (I:Mrel (Kind.int .i64) false F o a6) (J:Mrel (Kind.int .i64) false F p a7) {r}(_:m_core_Table_isUnfit g a0 a1 a2 a3 a4 a5 a6 a7=some r),
    CallSp Tryz.prog 42 #[pP e 0,.agg (ca a0 q s t v w x)] F [bK e #[.map (some a),.map (some b),.map (some c),sl f a1 h,sl i a2 j,sl k a3 l,.map (some d)] 81,mapv t0 a m,mapv t0 b n,mapv t0 c o,mapv t0 d p] (fun u F' H'=>u=(.bool r)∧H'=[bK e #[.map (some a),.map (some b),.map (some c),sl f a1 h,sl i a2 j,sl k a3 l,.map (some d)] 81,mapv t0 a m,mapv t0 b n,mapv t0 c o,mapv t0 d p])
theorem cY (b1:aw g):aw (g+1):=by
 intro F a0 a1 a2 a3 a4 a5 a6 a7 m e f i l R S N P t u x y A B C D E G H I hD c6 b2 U V W X J K Y r hm
 rw [m_core_Table_isUnfit] at hm
 refine f1 Tryz.func42 z z fun hE hF hG=>ssr<|ba z fun o=>sg z<|snn<|oD hm (fun b3 h s=>∃c7:Unit,b3=.inl c7∧∃L,m3 F L∧h [(0,pP m 0),(3,pP o 0)]∧s L [mapv t0 e E,mapv t0 f G,mapv t0 i H,mapv t0 l I,bK m #[.map (some e),.map (some f),.map (some i),sl x a1 y,sl A a2 B,sl C a3 D,.map (some l)] 81,bK o (ca a0 R S N P t u) 64]) (fun b3 hm Z=>?_) fun b3 Z a w=>?_
 ·refine ssr<|fa n8 z<|ld 0 r6 z<|snn<|t1<|ssr<|yv (w1 z z) z<|sg z<|snn<|cP hm z (fun hH hm=>?_) fun hI hm=>?_
  ·refine ssr<|mv z<|fa y7 z<|ld 0 r9 z<|pk5<|pk5<|pk5<|pk5<|pk5<|oS hm fun hJ e4 hm=>cl (w6 U V W X J K Y e4) z z<|?_
   rintro _ e5 _ ⟨rfl,rfl⟩ e6
   refine mv z<|yv (r0 z z) z<|yv (r0 z z) z<|sg z<|sg z<|snn<|ssr<|fa w7 z<|ld 5 da z<|yv (u0 ek z) z<|mv z<|yv (t5 z z) z<|snn<|cP hm z (fun hK hm=>?_) fun hL hm=>?_
   ·cases hm
    obtain rfl:=aR Z
    exact ssr<|sg z<|snn<|u2<|m2<|v0<|k0 z z ⟨z,z⟩ (aF [0,0,0,0,0] z)
   cases hm
   exact k4<|f2 fun a w ha hs=>⟨(),z,e5,e6,cv ha,(am [1,1,1,1,0,0] hs z)⟩
  refine ssr<|yv (w1 z z) z<|sg z<|snn<|cP hm z (fun hM hm=>?_) fun hN hm=>?_
  ·refine x1<|ds [] hmix<|tp 0 z (fun _=>w3 w7 z) z z<|tk [0,2,3,4,5,7,10] 1 z (p3 0 da z) z z k1<|tp 2 z (fun _=>u0 ek z) z z<|tp 3 z (fun _=>x2 z) z z<|tp 4 z (fun _=>t4 z) z z<|tp 5 z (fun _=>w3 az z) z z<|tk [0,2,3,4,5,7,10] 6 z (p3 1 cj z) z z k1<|tp 7 z (fun _=>w3 y7 z) z z<|tk [0,2,3,4,5,7,10] 8 z (p3 0 r9 z) z z k1<|oS hm fun hO e7 hm=>?_
   obtain⟨hP,e8,hQ,c8,e9⟩:=p6 (k:=a0.Name) J (show Mval (Kind.int .i64) false _ (iV 0) 0 from⟨[iV 0],z,z⟩)
   rw [Mir.getD_some e7] at c8
   obtain rfl:=c8
   obtain rfl:=(List.cons.inj (if_neg (show¬(false=true) by decide)▸e9)).1
   refine tk [0,2,3,4,5,7,10] 9 z (f7 z z 3 z aj aq eL e8) z z k1<|tp 10 z (fun _=>t5 z z) z z<|dn<|s4<|cP hm z (fun hR hm=>?_) fun hS hm=>?_
   ·cases hm
    obtain rfl:=aR Z
    exact ssr<|sg z<|snn<|u2<|m2<|v0<|k0 z z ⟨z,z⟩ (aF [1,1,1,1,1] z)
   cases hm
   exact k4<|f2 fun a w ha hs=>⟨(),z,F,(l0 _),cv ha,(am [2,2,2,2,1,0] hs z)⟩
  cases hm
  exact k4<|f2 fun a w ha hs=>⟨(),z,F,(l0 _),cv ha,(am [2,2,2,2,1,0] hs z)⟩
 rintro⟨c7,rfl,L,b,ha,hs⟩
 replace hm:=aL Z
 refine us ha hs<|oD hm (fun b4 h s=>∃c9:Unit,b4=.inl c9∧∃M,m3 L M∧h [(0,pP m 0),(3,pP o 0)]∧s M [mapv t0 e E,mapv t0 f G,mapv t0 i H,mapv t0 l I,bK m #[.map (some e),.map (some f),.map (some i),sl x a1 y,sl A a2 B,sl C a3 D,.map (some l)] 81,bK o (ca a0 R S N P t u) 64]) (fun b4 hm b5=>?_) fun b4 b5 a w=>?_
 ·refine ssr<|fa u9 z<|ld 5 en z<|yv (u0 eY z) z<|mv z<|snn<|t1<|lM hm (fun a8 h s=>∃p,m3 L p∧h [(0,pP m 0),(3,pP o 0),(42,sl t a0.Alts u),(43,lV a0.Alts),(44,nV a8)]∧s p [mapv t0 e E,mapv t0 f G,mapv t0 i H,mapv t0 l I,bK m #[.map (some e),.map (some f),.map (some i),sl x a1 y,sl A a2 B,sl C a3 D,.map (some l)] 81,bK o (ca a0 R S N P t u) 64]) ?_ ?_
  ·intro a w ha hs
   exact⟨L,(l0 _),cv ha,(am [0,0,0,0,0,0] hs z)⟩
  rintro a8 hT hU hm b6 a w ⟨p,c,ha,hs⟩
  refine us ha hs<|ssr<|yv (r2 z z) z<|snn<|x1<|cP hm z (fun fo hm=>?_) fun hV hm=>?_
  ·refine skn<|x1<|t1<|ssr<|oS hm fun d f0 hm=>?_
   obtain⟨hW,hX,gP,gQ,gR⟩:=(x0 (s0 b c) b2).nidx f0
   obtain⟨hY,hZ,d1,d2,d3,d4,d5,d6,rfl,h0,d7,d8,d9⟩:=DAlt.opn gQ
   refine yv (t2 gP fr z z) z<|yv (v1 z (k3 gR ci)) z<|aa eD z fun h1=>sN ci z z<|snn<|ssr<|fa u9 z<|ld 6 en z<|oS hm fun Q b7 hm=>?_
   replace b7:=nlit b7
   obtain⟨gS,h2,gT,gU,gV⟩:=(x0 (s0 b c) b2).idx b7
   obtain⟨gW,gX,h3,h4,h5,h6,h7,h8,rfl,h9,ia,ib,ic⟩:=DAlt.opn gU
   refine yv (t2 gT fr z z) z<|yv (bg (v:=(.pointer (some gS))) z (fun _=>by kernel_rfl)) z<|yv (v1 z (Loads.Fatn (vs:=[iV Q.P.Op,sV Q.P.Name,iV Q.P.N,sl gW Q.P.Kids gX]) 0 gV dh z z)) z<|aa fW z fun ie=>sN dh z z<|snn<|oC hm (fun b8 h s=>∃a9,m3 p a9∧h [(0,pP m 0),(3,pP o 0),(42,sl t a0.Alts u),(43,lV a0.Alts),(44,nV a8),(103,.bool b8)]∧s a9 [mapv t0 e E,mapv t0 f G,mapv t0 i H,mapv t0 l I,bK m #[.map (some e),.map (some f),.map (some i),sl x a1 y,sl A a2 B,sl C a3 D,.map (some l)] 81,bK o (ca a0 R S N P t u) 64]) (fun b8 hm=>?_) fun b8 hm a w=>?_
   ·refine ds [49] hmix<|tp 0 z (fun _=>w3 y6 z) z z<|tp 1 z (fun _=>w3 w9 z) z z<|tk [0,1,3,5,6,7,8,10,11,12,13,15,16,17,18,20,21,24,25,26,27,28,30,31,34,35,36,38,41,42,43,44,45,46,47,50] 2 z (p3 1 r6 z) z z k1<|tp 3 z (fun _=>w3 w9 z) z z<|tk [0,1,3,5,6,7,8,10,11,12,13,15,16,17,18,20,21,24,25,26,27,28,30,31,34,35,36,38,41,42,43,44,45,46,47,50] 4 z (p3 0 r6 z) z z k1<|?_
    rcases iS hm with⟨b9,hm⟩|⟨b9,hm⟩
    ·refine tp 5 z (fun _=>g6 b9 (p4 z z)) z z<|tp 6 z (fun _=>x2 z) z z<|tq 7 z (fun _=>w3 y6 z) z z z<|tq 8 z (fun _=>w3 w9 z) z z z<|tv [0,1,3,5,6,7,8,10,11,12,13,15,16,17,18,20,21,24,25,26,27,28,30,31,34,35,36,38,41,42,43,44,45,46,47,50] 9 z (p3 1 r6 z) z z z k1<|?_
     rcases iS hm with⟨cs,hm⟩|⟨cs,hm⟩
     ·refine tq 10 z (fun _=>t3 cs (w1 z z)) z z z<|tq 11 z (fun _=>x2 z) z z z<|tq 12 z (fun _=>w3 y6 z) z z z<|tq 13 z (fun _=>w3 aT z) z z z<|tv [0,1,3,5,6,7,8,10,11,12,13,15,16,17,18,20,21,24,25,26,27,28,30,31,34,35,36,38,41,42,43,44,45,46,47,50] 14 z (p3 1 fc z) z z z k1<|tq 15 z (fun _=>u0 eZ z) z z z<|tq 16 z (fun _=>x2 z) z z z<|tq 17 z (fun _=>t4 z) z z z<|tq 18 z (fun _=>w3 az z) z z z<|tv [0,1,3,5,6,7,8,10,11,12,13,15,16,17,18,20,21,24,25,26,27,28,30,31,34,35,36,38,41,42,43,44,45,46,47,50] 19 z (p3 6 cj z) z z z k1<|tq 20 z (fun _=>w3 y6 z) z z z<|tq 21 z (fun _=>w3 t9 z) z z z<|tv [0,1,3,5,6,7,8,10,11,12,13,15,16,17,18,20,21,24,25,26,27,28,30,31,34,35,36,38,41,42,43,44,45,46,47,50] 22 z (p3 1 r9 z) z z z k1<|oS hm fun ig gY hm=>?_
      obtain⟨ih,gZ,ii,e0,g0⟩:=p6 (k:=d.P.Name) (p2 (s0 b c) J) (show Mval (Kind.int .i64) false _ (iV 0) 0 from⟨[iV 0],z,z⟩)
      rw [Mir.getD_some gY] at e0
      obtain rfl:=e0
      obtain rfl:=(List.cons.inj (if_neg (show¬(false=true) by decide)▸g0)).1
      refine tv [0,1,3,5,6,7,8,10,11,12,13,15,16,17,18,20,21,24,25,26,27,28,30,31,34,35,36,38,41,42,43,44,45,46,47,50] 23 z (f7 z z 3 z aj aq eL gZ) z z z k1<|?_
      rcases iS hm with⟨cu,hm⟩|⟨cu,hm⟩
      ·refine tq 24 z (fun _=>g6 cu (p4 z z)) z z z<|tq 25 z (fun _=>x2 z) z z z<|tq 26 z (fun _=>x2 z) z z z<|tq 27 z (fun _=>t4 z) z z z<|tq 28 z (fun _=>w3 ea z) z z z<|tv [0,1,3,5,6,7,8,10,11,12,13,15,16,17,18,20,21,24,25,26,27,28,30,31,34,35,36,38,41,42,43,44,45,46,47,50] 29 z (p3 6 cj z) z z z k1<|tq 30 z (fun _=>w3 y6 z) z z z<|tq 31 z (fun _=>w3 t9 z) z z z<|tv [0,1,3,5,6,7,8,10,11,12,13,15,16,17,18,20,21,24,25,26,27,28,30,31,34,35,36,38,41,42,43,44,45,46,47,50] 32 z (p3 1 r9 z) z z z k1<|oS hm fun ij g1 hm=>?_
       obtain⟨ik,g2,il,e1,g3⟩:=p6 (k:=d.P.Name) (p2 (s0 b c) K) (show Mval (Kind.int .i64) false _ (iV 0) 0 from⟨[iV 0],z,z⟩)
       rw [Mir.getD_some g1] at e1
       obtain rfl:=e1
       obtain rfl:=(List.cons.inj (if_neg (show¬(false=true) by decide)▸g3)).1
       refine tv [0,1,3,5,6,7,8,10,11,12,13,15,16,17,18,20,21,24,25,26,27,28,30,31,34,35,36,38,41,42,43,44,45,46,47,50] 33 z (f7 z z 4 z aj aq eL g2) z z z k1<|tq 34 z (fun _=>x2 z) z z z<|tq 35 z (fun _=>t4 z) z z z<|tq 36 z (fun _=>w3 ea z) z z z<|tv [0,1,3,5,6,7,8,10,11,12,13,15,16,17,18,20,21,24,25,26,27,28,30,31,34,35,36,38,41,42,43,44,45,46,47,50] 37 z (p3 6 cj z) z z z k1<|tq 38 z (fun _=>w3 t9 z) z z z<|tv [0,1,3,5,6,7,8,10,11,12,13,15,16,17,18,20,21,24,25,26,27,28,30,31,34,35,36,38,41,42,43,44,45,46,47,50] 39 z (p3 0 r9 z) z z z k1<|oS hm fun im g7 hm=>?_
       obtain⟨io,hb,ip,e2,hc⟩:=p6 (k:=Q.P.Name) (p2 (s0 b c) K) (show Mval (Kind.int .i64) false _ (iV 0) 0 from⟨[iV 0],z,z⟩)
       rw [Mir.getD_some g7] at e2
       obtain rfl:=e2
       obtain rfl:=(List.cons.inj (if_neg (show¬(false=true) by decide)▸hc)).1
       refine tv [0,1,3,5,6,7,8,10,11,12,13,15,16,17,18,20,21,24,25,26,27,28,30,31,34,35,36,38,41,42,43,44,45,46,47,50] 40 z (f7 z z 4 z aj aq eL hb) z z z k1<|?_
       rcases iS hm with⟨c0,hm⟩|⟨c0,hm⟩
       ·refine tq 41 z (fun _=>g6 c0 (p4 z z)) z z z<|tq 42 z (fun _=>n3 z z) z z z<|tq 43 z (fun _=>f3 z z) z z z<|tp 44 z (fun _=>n3 z z) z z<|tp 45 z (fun _=>x2 z) z z<|tq 46 z (fun _=>x2 z) z z z<|tq 47 z (fun _=>w3 af z) z z z<|tv [0,1,3,5,6,7,8,10,11,12,13,15,16,17,18,20,21,24,25,26,27,28,30,31,34,35,36,38,41,42,43,44,45,46,47,50] 48 z (v1 z (n7 (vs:=[iV d.E.Op,sV d.E.Name,iV d.E.N,sl d1 d.E.Names d2,sl d3 d.E.Kids d4,sl d5 d.E.Alts d6]) 1 z m7 z z)) z z z k1<|oN 49 z z fun hd=>pk5<|pk5<|pk5<|pk5<|pk6<|oS hm fun iq he hm=>f5 _ (b1 (a0:=d.E) d7 d8 d9 (x0 (s0 b c) U) (x0 (s0 b c) V) (x0 (s0 b c) W) (p2 (s0 b c) X) (p2 (s0 b c) J) (p2 (s0 b c) K) (p2 (s0 b c) Y) he) z (A1 z) z en42.out z z z<|?_
        rintro _ hf _ ⟨rfl,rfl⟩ hg
        cases hm
        exact m1 hd (fun h=>by cases h)<|tp 50 z (fun _=>n3 z z) z z<|dn fun a w ha hs=>⟨hf,hg,cv ha,(am [1,1,1,1,0,2] hs z)⟩
       cases hm
       exact tq 41 z (fun _=>t6 c0 (p4 z z)) z z z<|tq 42 z (fun _=>n3 z z) z z z<|tq 43 z (fun _=>f3 z z) z z z<|tp 44 z (fun _=>n3 z z) z z<|tp 45 z (fun _=>x2 z) z z<|tn 46 z z z<|tn 47 z z z<|tn 48 z z z<|oN 49 z z fun hh=>un z z<|m1 hh (fun h=>by cases h)<|tp 50 z (fun _=>f3 z z) z z<|dn fun a w ha hs=>⟨p,(l0 _),cv ha,(am [2,2,2,2,2,2] hs z)⟩
      cases hm
      exact tq 24 z (fun _=>t6 cu (p4 z z)) z z z<|tq 25 z (fun _=>x2 z) z z z<|tn 26 z z z<|tn 27 z z z<|tn 28 z z z<|tn 29 z z z<|tn 30 z z z<|tn 31 z z z<|tn 32 z z z<|tn 33 z z z<|tn 34 z z z<|tn 35 z z z<|tn 36 z z z<|tn 37 z z z<|tn 38 z z z<|tn 39 z z z<|tn 40 z z z<|tn 41 z z z<|tq 42 z (fun _=>f3 z z) z z z<|tq 43 z (fun _=>f3 z z) z z z<|tp 44 z (fun _=>n3 z z) z z<|tp 45 z (fun _=>x2 z) z z<|tn 46 z z z<|tn 47 z z z<|tn 48 z z z<|oN 49 z z fun hi=>un z z<|m1 hi (fun h=>by cases h)<|tp 50 z (fun _=>f3 z z) z z<|dn fun a w ha hs=>⟨p,(l0 _),cv ha,(am [2,2,2,2,2,2] hs z)⟩
     refine tq 10 z (fun _=>s2 cs (w1 z z)) z z z<|tq 11 z (fun _=>x2 z) z z z<|tn 12 z z z<|tn 13 z z z<|tn 14 z z z<|tn 15 z z z<|tn 16 z z z<|tn 17 z z z<|tn 18 z z z<|tn 19 z z z<|tn 20 z z z<|tn 21 z z z<|tn 22 z z z<|tn 23 z z z<|tn 24 z z z<|tn 25 z z z<|tn 26 z z z<|tn 27 z z z<|tn 28 z z z<|tn 29 z z z<|tn 30 z z z<|tn 31 z z z<|tn 32 z z z<|tn 33 z z z<|tn 34 z z z<|tn 35 z z z<|tn 36 z z z<|tn 37 z z z<|tn 38 z z z<|tn 39 z z z<|tn 40 z z z<|tn 41 z z z<|tn 42 z z z<|tq 43 z (fun _=>n3 z z) z z z<|tp 44 z (fun _=>n3 z z) z z<|tp 45 z (fun _=>x2 z) z z<|tq 46 z (fun _=>x2 z) z z z<|tq 47 z (fun _=>w3 af z) z z z<|tv [0,1,3,5,6,7,8,10,11,12,13,15,16,17,18,20,21,24,25,26,27,28,30,31,34,35,36,38,41,42,43,44,45,46,47,50] 48 z (v1 z (n7 (vs:=[iV d.E.Op,sV d.E.Name,iV d.E.N,sl d1 d.E.Names d2,sl d3 d.E.Kids d4,sl d5 d.E.Alts d6]) 1 z m7 z z)) z z z k1<|oN 49 z z fun hj=>pk5<|pk5<|pk5<|pk5<|pk6<|oS hm fun ir hk hm=>f5 _ (b1 (a0:=d.E) d7 d8 d9 (x0 (s0 b c) U) (x0 (s0 b c) V) (x0 (s0 b c) W) (p2 (s0 b c) X) (p2 (s0 b c) J) (p2 (s0 b c) K) (p2 (s0 b c) Y) hk) z (A1 z) z en42.out z z z<|?_
     rintro _ hl _ ⟨rfl,rfl⟩ hn
     cases hm
     exact m1 hj (fun h=>by cases h)<|tp 50 z (fun _=>n3 z z) z z<|dn fun a w ha hs=>⟨hl,hn,cv ha,(am [1,1,1,1,0,2] hs z)⟩
    cases hm
    exact tp 5 z (fun _=>t6 b9 (p4 z z)) z z<|tp 6 z (fun _=>x2 z) z z<|tn 7 z z z<|tn 8 z z z<|tn 9 z z z<|tn 10 z z z<|tn 11 z z z<|tn 12 z z z<|tn 13 z z z<|tn 14 z z z<|tn 15 z z z<|tn 16 z z z<|tn 17 z z z<|tn 18 z z z<|tn 19 z z z<|tn 20 z z z<|tn 21 z z z<|tn 22 z z z<|tn 23 z z z<|tn 24 z z z<|tn 25 z z z<|tn 26 z z z<|tn 27 z z z<|tn 28 z z z<|tn 29 z z z<|tn 30 z z z<|tn 31 z z z<|tn 32 z z z<|tn 33 z z z<|tn 34 z z z<|tn 35 z z z<|tn 36 z z z<|tn 37 z z z<|tn 38 z z z<|tn 39 z z z<|tn 40 z z z<|tn 41 z z z<|tn 42 z z z<|tn 43 z z z<|tp 44 z (fun _=>f3 z z) z z<|tp 45 z (fun _=>x2 z) z z<|tn 46 z z z<|tn 47 z z z<|tn 48 z z z<|oN 49 z z fun ho=>un z z<|m1 ho (fun h=>by cases h)<|tp 50 z (fun _=>f3 z z) z z<|dn fun a w ha hs=>⟨p,(l0 _),cv ha,(am [2,2,2,2,2,2] hs z)⟩
   rintro⟨a9,hp,ha,hs⟩
   refine us ha hs<|cB hm z (fun it hm=>?_) fun iu hm=>?_
   ·cases hm
    obtain rfl:=aR b6
    obtain rfl:=aR b5
    exact ssr<|sg z<|snn<|u2<|m2<|v0<|v0<|m2<|v0<|k0 z z ⟨z,z⟩ (aF [4,0,0,0,0] z)
   cases hm
   exact k4<|f2<|s4<|q0<|yv (s3 (j:=1) z z z (by have q_0:=fo;have q_1:=b2.bnd.2;omega)) z<|mv z<|snn fun a w ha hs=>⟨a8+1,aL b6,a9,(s0 c hp),cv ha,(am [0,0,0,0,0,0] hs z)⟩
  cases hm
  obtain rfl:=aR b6
  exact u4<|p0<|p0<|u3 fun a w ha hs=>⟨(),z,p,c,cv ha,(am [0,0,0,0,0,0] hs z)⟩
 rintro⟨c9,rfl,M,q,ha,hs⟩
 replace hm:=aL b5
 refine us ha hs<|oD hm (fun c1 h s=>∃e3:Unit,c1=.inl e3∧∃c2,m3 M c2∧h []∧s c2 [mapv t0 e E,mapv t0 f G,mapv t0 i H,mapv t0 l I,bK m #[.map (some e),.map (some f),.map (some i),sl x a1 y,sl A a2 B,sl C a3 D,.map (some l)] 81]) (fun c1 hm c3=>?_) fun c1 c3 a w=>?_
 ·refine ssr<|fa w7 z<|ld 5 da z<|yv (u0 ek z) z<|mv z<|snn<|t1<|lM hm (fun c4 h s=>∃b0,m3 M b0∧h [(0,pP m 0),(106,sl N a0.Kids P),(107,lV a0.Kids),(108,nV c4)]∧s b0 [mapv t0 e E,mapv t0 f G,mapv t0 i H,mapv t0 l I,bK m #[.map (some e),.map (some f),.map (some i),sl x a1 y,sl A a2 B,sl C a3 D,.map (some l)] 81]) ?_ ?_
  ·intro a w ha hs
   exact⟨M,(l0 _),cv ha,(am [0,0,0,0,0] hs z)⟩
  rintro c4 iv iw hm c5 a w ⟨b0,n,ha,hs⟩
  refine us ha hs<|ssr<|yv (r2 z z) z<|snn<|x1<|cP hm z (fun hq hm=>?_) fun ix hm=>?_
  ·refine skn<|x1<|t1<|ssr<|oS hm fun hr ht hm=>?_
   obtain⟨iy,iz,hu,hv,hw⟩:=(x0 (s0 b (s0 q n)) c6).nidx ht
   obtain⟨iA,iB,iC,iD,iE,iG,rfl,hx,hy,hz⟩:=DExpr.opn hv
   refine yv (t2 hu el z z) z<|yv (v1 z (k3 hw m7)) z<|aa eK z fun iH=>sN m7 z z<|snn<|ssr<|mv z<|lk 0 m7 z z<|pk4<|pk4<|pk4<|pk4<|pk5<|oS hm fun iI hA hm=>cl (b1 (a0:=hr) hx hy hz (x0 (s0 b (s0 q n)) U) (x0 (s0 b (s0 q n)) V) (x0 (s0 b (s0 q n)) W) (p2 (s0 b (s0 q n)) X) (p2 (s0 b (s0 q n)) J) (p2 (s0 b (s0 q n)) K) (p2 (s0 b (s0 q n)) Y) hA) z z<|?_
   rintro _ hB _ ⟨rfl,rfl⟩ hC
   refine snn<|cB hm z (fun iJ hm=>?_) fun iK hm=>?_
   ·cases hm
    obtain rfl:=aR c5
    obtain rfl:=aR c3
    exact ssr<|sg z<|snn<|u2<|m2<|v0<|v0<|m2<|v0<|k0 z z ⟨z,z⟩ (aF [0,0,0,0,0] z)
   cases hm
   exact k4<|f2<|s4<|q0<|yv (s3 (j:=1) z z z (by have q_0:=hq;have q_1:=c6.bnd.2;omega)) z<|mv z<|snn fun a w ha hs=>⟨c4+1,aL c5,hB,(s0 n hC),cv ha,(am [1,1,1,1,0] hs z)⟩
  cases hm
  obtain rfl:=aR c5
  exact u4<|p0<|p0<|u3 fun a w ha hs=>⟨(),z,b0,n,cv ha,(am [0,0,0,0,0] hs z)⟩
 rintro⟨e3,rfl,c2,iL,ha,hs⟩
 replace hm:=aL c3
 cases hm
 exact us ha hs<|ssr<|sg z<|snn<|u2<|k0 z z ⟨z,z⟩ (aF [4,0,0,0,0] z)
theorem ai:∀{g},aw g
 |0=>by intros;rename_i hm;exact nN hm
 |_+1=>cY ai
theorem cy {a0:DCore}(hk:Fsl 64 KDData F o p a0.Datas) (G:Fsl 144 KDFun F c d a0.Funs) (hm:m_core_Validate g a0=some r):
    CallSp Tryz.prog 17 #[.agg #[sl o a0.Datas p,sl c a0.Funs d]] F [] (fun u F' H'=>u=(iV r)∧H'=[]):=by
 unfold m_core_Validate at hm
 refine f1 Tryz.func17 z z fun j5 j6 j7=>ssr<|ba z fun b=>sg z<|snn<|x1<|ssr<|fa aA z<|ld 0 fs z<|yv (u0 fP z) z<|yv (t5 z z) z<|snn<|cP hm z (fun j8 hm=>?_) fun j9 hm=>?_
 ·cases hm
  exact ssr<|sg z<|snn<|u2<|v0<|k0 z z ⟨z,z⟩ (aF [] z)
 refine skn<|oD hm (fun d7 h s=>∃hl:Unit,d7=.inl hl∧∃d8,m3 F d8∧h [(1,pP b 0)]∧s d8 [bK b #[sl o a0.Datas p,sl c a0.Funs d] 25]) (fun d7 hm d9=>?_) fun d7 d9 a w=>?_
 ·refine ssr<|fa aA z<|ld 0 fs z<|yv (u0 fP z) z<|mv z<|snn<|t1<|lM hm (fun e0 h s=>∃b6,m3 F b6∧h [(1,pP b 0),(23,sl c a0.Funs d),(24,lV a0.Funs),(25,nV e0)]∧s b6 [bK b #[sl o a0.Datas p,sl c a0.Funs d] 25]) ?_ ?_
  ·intro a w ha hs
   exact⟨F,(l0 _),cv ha,(am [0] hs z)⟩
  rintro e0 ka kb hm e1 a w ⟨b6,e2,ha,hs⟩
  refine us ha hs<|ssr<|yv (r2 z z) z<|snn<|x1<|cP hm z (fun hU hm=>?_) fun kc hm=>?_
  ·refine skn<|x1<|t1<|ssr<|oS hm fun N hV hm=>?_
   obtain⟨kd,ke,hW,hX,hY⟩:=(x0 e2 G).nidx hV
   obtain⟨kf,kg,hZ,h0,h1,h2,h3,h4,rfl,kh,h5,h6,h7⟩:=DFun.opn hX
   refine yv (t2 hW fF z z) z<|yv (v1 z (k3 hY eo)) z<|aa gb z fun ki=>sN eo z z<|snn<|ssr<|fa br z<|yv (v1 z (n7 (vs:=[iV N.E.Op,sV N.E.Name,iV N.E.N,sl hZ N.E.Names h0,sl h1 N.E.Kids h2,sl h3 N.E.Alts h4]) 0 z m7 z z)) z<|oS hm fun kj h8 hm=>cl (cM (a0:=N.E) h5 h6 h7 h8) z z<|?_
   rintro _ h9 _ ⟨rfl,rfl⟩ ia
   refine snn<|cB hm z (fun kk hm=>?_) fun kl hm=>?_
   ·cases hm
    obtain rfl:=aR e1
    obtain rfl:=aR d9
    exact ssr<|sg z<|snn<|u2<|m2<|v0<|v0<|m2<|v0<|k0 z z ⟨z,z⟩ (aF [] z)
   cases hm
   exact k4<|f2<|s4<|q0<|yv (s3 (j:=1) z z z (by have q_0:=hU;have q_1:=G.bnd.2;omega)) z<|mv z<|snn fun a w ha hs=>⟨e0+1,aL e1,h9,(s0 e2 ia),cv ha,(am [1] hs z)⟩
  cases hm
  obtain rfl:=aR e1
  exact u4<|p0<|p0<|u3 fun a w ha hs=>⟨(),z,b6,e2,cv ha,(am [0] hs z)⟩
 rintro⟨hl,rfl,d8,q,ha,hs⟩
 replace hm:=aL d9
 refine us ha hs<|x1<|ssr<|fa fq z<|ld 0 ft z<|yv (v2 (v:=(.agg #[sl o a0.Datas p,nS,nS])) (A2 z) (fun _=>by kernel_rfl)) z<|oS hm fun hn ib hm=>cl (dY (a0:=(DDecls.mk a0.Datas ([]:List DClass) ([]:List DInst))) (x0 q hk) r3 r3 ib) z z<|?_
 rintro _ e3 _ ⟨rfl,rfl⟩ B
 refine sg z<|snn<|ssr<|mv z<|yv (p4 z z) z<|snn<|?_
 refine m5 z ?_ ?_
 ·intro e4
  replace e4:¬(hn=0):=nd_t e4
  replace hm:=iF hm e4
  cases hm
  exact ssr<|mv z<|sg z<|snn<|u2<|v0<|k0 z z ⟨z,z⟩ (aF [] z)
 intro e5
 replace e5:hn=0:=nd_f e5
 replace hm:=iT hm e5
 refine skn<|oD hm (fun e6 h s=>∃ho:Unit,e6=.inl ho∧∃e7,m3 e3 e7∧h [(1,pP b 0)]∧s e7 [bK b #[sl o a0.Datas p,sl c a0.Funs d] 25]) (fun e6 hm b7=>?_) fun e6 b7 a w=>?_
 ·refine ssr<|fa aA z<|ld 0 fs z<|yv (u0 fP z) z<|mv z<|snn<|t1<|lM hm (fun a6 h s=>∃a7,m3 e3 a7∧h [(1,pP b 0),(41,sl c a0.Funs d),(42,lV a0.Funs),(43,nV a6)]∧s a7 [bK b #[sl o a0.Datas p,sl c a0.Funs d] 25]) ?_ ?_
  ·intro a w ha hs
   exact⟨e3,(l0 _),cv ha,(am [0] hs z)⟩
  rintro a6 km kn hm b8 a w ⟨a7,e8,ha,hs⟩
  refine us ha hs<|ssr<|yv (r2 z z) z<|snn<|x1<|cP hm z (fun ic hm=>?_) fun ko hm=>?_
  ·refine skn<|oD hm (fun e9 h s=>∃hp:Unit,e9=.inl hp∧∃b9,m3 a7 b9∧h [(1,pP b 0),(41,sl c a0.Funs d),(42,lV a0.Funs),(43,nV a6)]∧s b9 [bK b #[sl o a0.Datas p,sl c a0.Funs d] 25]) (fun e9 hm cs=>?_) fun e9 cs a w=>?_
   ·refine t1<|ssr<|oS hm fun I ie hm=>?_
    obtain⟨kp,kq,ig,ih,ii⟩:=(x0 (s0 q (s0 B e8)) G).nidx ie
    obtain⟨hq,hr,ht,hu,hv,hw,hx,hy,rfl,hz,ij,ik,il⟩:=DFun.opn ih
    refine yv (t2 ig fF z z) z<|yv (v1 z (k3 ii eo)) z<|aa gb z fun hA=>sN eo z z<|snn<|x1<|oC hm (fun fo h s=>∃b1,m3 a7 b1∧h [(1,pP b 0),(7,pP hA 0),(41,sl c a0.Funs d),(42,lV a0.Funs),(43,nV a6),(62,.bool fo)]∧s b1 [bK b #[sl o a0.Datas p,sl c a0.Funs d] 25,bK hA (gu I hq hr ht hu hv hw hx hy) 66]) (fun fo hm=>?_) fun fo hm a w=>?_
    ·refine q0<|fa bW z<|ld 0 r9 z<|oS hm fun hB im hm=>cl (u8 im) z z<|?_
     rintro _ hC _ ⟨rfl,rfl⟩ a8
     rcases iS hm with⟨f0,hm⟩|⟨f0,hm⟩
     ·have io:(hB)=true:=f0
      try rw [io]
      refine yv (v7 z) z<|mv z<|fw cA z z<|lw 0 aJ z z<|yw (u0 bj z) z z<|?_
      rcases iS hm with⟨gP,hm⟩|⟨gP,hm⟩
      ·cases hm
       exact yw (t3 gP (t5 z z)) z z<|pf z<|mv z<|un z z<|un z z<|un z z<|un z z<|pt z<|u1 fun a w ha hs=>⟨hC,a8,cv ha,(am [1,0] hs z)⟩
      refine yw (s2 gP (t5 z z)) z z<|pf z<|mv z<|fw br z z<|yw (v1 z (n7 (vs:=[iV I.E.Op,sV I.E.Name,iV I.E.N,sl ht I.E.Names hu,sl hv I.E.Kids hw,sl hx I.E.Alts hy]) 0 z m7 z z)) z z<|oS hm fun kr ip hm=>f5 _ (cX (a0:=I.E) (x0 a8 ij) (x0 a8 ik) (x0 a8 il) ip) z (A1 z) z en35.out z z z<|?_
      rintro _ iq _ ⟨rfl,rfl⟩ ir
      cases hm
      exact yw (p5 z) z z<|pf z<|u1 fun a w ha hs=>⟨iq,(s0 a8 ir),cv ha,(am [1,0] hs z)⟩
     have it:(hB)=false:=w2 f0
     try rw [it]
     cases hm
     exact yv (an z) z<|mv z<|un z z<|un z z<|un z z<|un z z<|pt z<|mv z<|un z z<|un z z<|un z z<|un z z<|pt z<|u1 fun a w ha hs=>⟨hC,a8,cv ha,(am [1,0] hs z)⟩
    rintro⟨b1,hD,ha,hs⟩
    refine us ha hs<|cB hm z (fun ks hm=>?_) fun kt hm=>?_
    ·cases hm
     obtain rfl:=aR cs
     obtain rfl:=aR b8
     obtain rfl:=aR b7
     exact ssr<|sg z<|snn<|u2<|v0<|m2<|v0<|v0<|m2<|v0<|k0 z z ⟨z,z⟩ (aF [] z)
    refine skn<|ssr<|fa cA z<|ld 1 aJ z<|yv (u0 bj z) z<|mv z<|snn<|t1<|lM hm (fun gQ h s=>∃cu,m3 b1 cu∧h [(1,pP b 0),(41,sl c a0.Funs d),(42,lV a0.Funs),(43,nV a6),(64,sl hq I.Vars hr),(65,lV I.Vars),(66,nV gQ)]∧s cu [bK b #[sl o a0.Datas p,sl c a0.Funs d] 25]) ?_ ?_
    ·intro a w ha hs
     exact⟨b1,(l0 _),cv ha,(am [0] hs z)⟩
    rintro gQ ku kv hm gR a w ⟨cu,gS,ha,hs⟩
    refine us ha hs<|ssr<|yv (r2 z z) z<|snn<|x1<|cP hm z (fun iu hm=>?_) fun kw hm=>?_
    ·refine skn<|x1<|t1<|ssr<|oS hm fun kx iv hm=>?_
     obtain⟨ky,kz,iw,ix,iy⟩:=(x0 (s0 hD gS) hz).nidx iv
     obtain rfl:=ix
     refine yv (t2 iw bM z z) z<|yv (v1 z (k5 iy r9 z)) z<|sg z<|snn<|ssr<|mv z<|oS hm fun hE iz hm=>cl (u8 iz) z z<|?_
     rintro _ iA _ ⟨rfl,rfl⟩ iB
     refine yv (p5 z) z<|snn<|?_
     refine m5 z ?_ ?_
     ·intro gT
      replace gT:¬(hE=true):=nb_t gT
      replace hm:=iF hm gT
      cases hm
      obtain rfl:=aR gR
      obtain rfl:=aR cs
      obtain rfl:=aR b8
      obtain rfl:=aR b7
      exact ssr<|sg z<|snn<|u2<|m2<|v0<|v0<|m2<|m2<|v0<|v0<|m2<|v0<|k0 z z ⟨z,z⟩ (aF [] z)
     intro gU
     replace gU:hE=true:=nb_f gU
     replace hm:=iT hm gU
     cases hm
     exact k4<|f2<|s4<|q0<|yv (s3 (j:=1) z z z (by have q_0:=iu;have q_1:=hz.bnd.2;omega)) z<|mv z<|snn fun a w ha hs=>⟨gQ+1,aL gR,iA,(s0 gS iB),cv ha,(am [0] hs z)⟩
    cases hm
    obtain rfl:=aR gR
    exact u4<|p0<|p0<|u3<|f2 fun a w ha hs=>⟨(),z,cu,(s0 hD gS),cv ha,(am [0] hs z)⟩
   rintro⟨hp,rfl,b9,iC,ha,hs⟩
   replace hm:=aL cs
   cases hm
   exact us ha hs<|q0<|yv (s3 (j:=1) z z z (by have q_0:=ic;have q_1:=G.bnd.2;omega)) z<|mv z<|snn fun a w ha hs=>⟨a6+1,aL b8,b9,(s0 e8 iC),cv ha,(am [0] hs z)⟩
  cases hm
  obtain rfl:=aR b8
  exact u4<|p0<|p0<|u3 fun a w ha hs=>⟨(),z,a7,e8,cv ha,(am [0] hs z)⟩
 rintro⟨ho,rfl,e7,D,ha,hs⟩
 replace hm:=aL b7
 refine us ha hs<|ssr<|lk 0 aX z z<|oS hm fun i iD hm=>cl (f9 (a0:=a0) (x0 (s0 q (s0 B D)) hk) (x0 (s0 q (s0 B D)) G) iD) z z<|?_
 rintro _ gV _ ⟨C,t,x,y,A,Q,S,U,V,W,X,Y,Z,a1,a2,rfl,c0,c1,c2,c3,c4,c5,c6,rfl⟩ J
 refine sg z<|snn<|ssr<|n4 (P:=Tryz.prog) t0 p1 z fun b2=>sg z<|snn<|oD hm (fun gW h s=>∃hF:Unit,gW=.inl hF∧∃a9,m3 gV a9∧h [(1,pP b 0),(10,pP C 0)]∧s a9 [bK b #[sl o a0.Datas p,sl c a0.Funs d] 25,mapv t0 t Y,mapv t0 x Z,mapv t0 y a1,mapv t0 A a2,bK C #[.map (some t),.map (some x),.map (some y),sl Q i.1 S,sl U i.2.1 V,sl W i.2.2.1 X,.map (some A)] 81]) (fun gW hm gX=>?_) fun gW gX a w=>?_
 ·refine ssr<|fa aA z<|ld 6 fs z<|yv (u0 fP z) z<|mv z<|snn<|t1<|lM hm (fun b4 h s=>∃b5 a3,m3 gV a3∧Mrel Kind.bool false a3 b5 b4.1∧h [(1,pP b 0),(10,pP C 0),(11,.map (some b2)),(79,sl c a0.Funs d),(80,lV a0.Funs),(81,nV b4.2)]∧s a3 [bK b #[sl o a0.Datas p,sl c a0.Funs d] 25,mapv t0 t Y,mapv t0 x Z,mapv t0 y a1,mapv t0 A a2,bK C #[.map (some t),.map (some x),.map (some y),sl Q i.1 S,sl U i.2.1 V,sl W i.2.2.1 X,.map (some A)] 81,mapv t0 b2 b5]) ?_ ?_
  ·intro a w ha hs
   exact⟨[],gV,(l0 _),(mN Kind.bool false),cv ha,(am [6,2,2,2,2,1,0] hs z)⟩
  rintro b4 kA kB hm gY a w ⟨b5,a3,e,gZ,ha,hs⟩
  refine us ha hs<|ssr<|yv (r2 z z) z<|snn<|x1<|cP hm z (fun iE hm=>?_) fun kC hm=>?_
  ·refine skn<|x1<|t1<|ssr<|oS hm fun l iG hm=>?_
   obtain⟨kD,kE,iH,iI,iJ⟩:=(x0 (s0 q (s0 B (s0 D (s0 J e)))) G).nidx iG
   obtain⟨hG,hH,c7,c8,c9,d1,d2,d3,rfl,iK,hI,hJ,hK⟩:=DFun.opn iI
   refine yv (t2 iH fF z z) z<|yv (v1 z (k3 iJ eo)) z<|aa gb z fun g0=>sN eo z z<|snn<|x1<|oC hm (fun g1 h s=>∃d4,m3 a3 d4∧h [(1,pP b 0),(10,pP C 0),(11,.map (some b2)),(13,pP g0 0),(79,sl c a0.Funs d),(80,lV a0.Funs),(81,nV b4.2),(109,.bool g1)]∧s d4 [bK b #[sl o a0.Datas p,sl c a0.Funs d] 25,mapv t0 t Y,mapv t0 x Z,mapv t0 y a1,mapv t0 A a2,bK C #[.map (some t),.map (some x),.map (some y),sl Q i.1 S,sl U i.2.1 V,sl W i.2.2.1 X,.map (some A)] 81,mapv t0 b2 b5,bK g0 (gu l hG hH c7 c8 c9 d1 d2 d3) 66]) (fun g1 hm=>?_) fun g1 hm a w=>?_
   ·refine ds [22,23] hmix<|tp 0 z (fun _=>x2 z) z z<|tp 1 z (fun _=>w3 bW z) z z<|tk [0,1,4,5,6,9,10,11,14,15,16,17,19,24] 2 z (p3 0 r9 z) z z k1<|oS hm fun kF hL hm=>?_
    rcases iS hm with⟨g2,hm⟩|⟨g2,hm⟩
    ·obtain⟨kG,iL,kH,hM,iM⟩:=p6 (k:=l.Name) gZ (show Mval Kind.bool false _ (.bool false) false from⟨[.bool false],z,z⟩)
     rw [Mir.getD_some hL] at hM
     obtain rfl:=hM
     obtain rfl:=(List.cons.inj (if_neg (show¬(false=true) by decide)▸iM)).1
     cases hm
     exact tk [0,1,4,5,6,9,10,11,14,15,16,17,19,24] 3 z (Yields.boolT g2 (f7 z z 7 z ec em gp iL)) z z k1<|tp 4 z (fun _=>x2 z) z z<|tn 5 z z z<|tn 6 z z z<|tn 7 z z z<|tn 8 z z z<|tp 9 z (fun _=>f3 z z) z z<|tp 10 z (fun _=>x2 z) z z<|tn 11 z z z<|tn 12 z z z<|tn 13 z z z<|tp 14 z (fun _=>f3 z z) z z<|tp 15 z (fun _=>x2 z) z z<|tn 16 z z z<|tn 17 z z z<|tn 18 z z z<|tn 19 z z z<|tn 20 z z z<|tn 21 z z z<|oN 22 z z fun iN=>un z z<|m1 iN (fun h=>by cases h)<|oN 23 z z fun iO=>un z z<|m1 iO (fun h=>by cases h)<|tp 24 z (fun _=>f3 z z) z z<|dn fun a w ha hs=>⟨a3,(l0 _),cv ha,(am [1,1,1,1,1,1,1,0] hs z)⟩
    obtain⟨kI,iP,kJ,hN,iQ⟩:=p6 (k:=l.Name) gZ (show Mval Kind.bool false _ (.bool false) false from⟨[.bool false],z,z⟩)
    rw [Mir.getD_some hL] at hN
    obtain rfl:=hN
    obtain rfl:=(List.cons.inj (if_neg (show¬(false=true) by decide)▸iQ)).1
    refine tk [0,1,4,5,6,9,10,11,14,15,16,17,19,24] 3 z (Yields.boolF g2 (f7 z z 7 z ec em gp iP)) z z k1<|tp 4 z (fun _=>x2 z) z z<|tq 5 z (fun _=>x2 z) z z z<|tq 6 z (fun _=>w3 bW z) z z z<|tv [0,1,4,5,6,9,10,11,14,15,16,17,19,24] 7 z (p3 0 r9 z) z z z k1<|oN 8 z z fun iR=>pk5<|pk5<|pk5<|pk5<|pk6<|oS hm fun hO iU hm=>f5 _ (dx (x0 e c0) (x0 e c1) (x0 e c2) (p2 e c3) (p2 e c4) (p2 e c5) (p2 e c6) iU) z (A1 z) z en36.out z z z<|?_
    rintro _ iW _ ⟨rfl,rfl⟩ f
    refine m1 iR (fun _=>(aG [5,5,1,1,1,1,0,0] f (s0 q (s0 B (s0 D (s0 J e)))) z))<|?_
    rcases iS hm with⟨g3,hm⟩|⟨g3,hm⟩
    ·have iX:(hO)=true:=g3
     try rw [iX]
     cases hm
     exact tp 9 z (fun _=>n3 z z) z z<|tp 10 z (fun _=>x2 z) z z<|tn 11 z z z<|tn 12 z z z<|tn 13 z z z<|tp 14 z (fun _=>f3 z z) z z<|tp 15 z (fun _=>x2 z) z z<|tn 16 z z z<|tn 17 z z z<|tn 18 z z z<|tn 19 z z z<|tn 20 z z z<|tn 21 z z z<|oN 22 z z fun iY=>un z z<|m1 iY (fun h=>by cases h)<|oN 23 z z fun iZ=>un z z<|m1 iZ (fun h=>by cases h)<|tp 24 z (fun _=>f3 z z) z z<|dn fun a w ha hs=>⟨iW,f,cv ha,(am [6,1,1,1,1,0,1,0] hs z)⟩
    have i0:(hO)=false:=w2 g3
    try rw [i0]
    refine tp 9 z (fun _=>n3 z z) z z<|tp 10 z (fun _=>x2 z) z z<|tq 11 z (fun _=>w3 br z) z z z<|tv [0,1,4,5,6,9,10,11,14,15,16,17,19,24] 12 z (v1 z (n7 (vs:=[iV l.E.Op,sV l.E.Name,iV l.E.N,sl c7 l.E.Names c8,sl c9 l.E.Kids d1,sl d2 l.E.Alts d3]) 0 z m7 z z)) z z z (Among.of_le f (s0 q (s0 B (s0 D (s0 J e)))) (r1 5 z z (r1 5 z z (r1 1 z z (r1 1 z z (r1 1 z z (r1 1 z z (r1 0 z z (r1 0 z z t7)))))))))<|oN 13 z z fun i1=>oS hm fun hP i2 hm=>f5 _ (bL (a0:=l.E) (x0 f hI) (x0 f hJ) (x0 f hK) i2) z (A1 z) z en37.out z z z<|?_
    rintro _ i3 _ ⟨rfl,rfl⟩ m
    refine m1 i1 (fun _=>(aG [5,5,1,1,1,1,0,0] (s0 f m) (s0 q (s0 B (s0 D (s0 J e)))) z))<|?_
    rcases iS hm with⟨g7,hm⟩|⟨g7,hm⟩
    ·have i4:(hP)=true:=g7
     try rw [i4]
     cases hm
     exact tp 14 z (fun _=>n3 z z) z z<|tp 15 z (fun _=>x2 z) z z<|tn 16 z z z<|tn 17 z z z<|tn 18 z z z<|tn 19 z z z<|tn 20 z z z<|tn 21 z z z<|oN 22 z z fun i5=>un z z<|m1 i5 (fun h=>by cases h)<|oN 23 z z fun i6=>un z z<|m1 i6 (fun h=>by cases h)<|tp 24 z (fun _=>f3 z z) z z<|dn fun a w ha hs=>⟨i3,(s0 f m),cv ha,(am [6,1,1,1,1,0,1,0] hs z)⟩
    have i7:(hP)=false:=w2 g7
    try rw [i7]
    refine tp 14 z (fun _=>n3 z z) z z<|tp 15 z (fun _=>x2 z) z z<|tq 16 z (fun _=>x2 z) z z z<|tq 17 z (fun _=>w3 br z) z z z<|tv [0,1,4,5,6,9,10,11,14,15,16,17,19,24] 18 z (v1 z (n7 (vs:=[iV l.E.Op,sV l.E.Name,iV l.E.N,sl c7 l.E.Names c8,sl c9 l.E.Kids d1,sl d2 l.E.Alts d3]) 0 z m7 z z)) z z z (Among.of_le (s0 f m) (s0 q (s0 B (s0 D (s0 J e)))) (r1 5 z z (r1 5 z z (r1 1 z z (r1 1 z z (r1 1 z z (r1 1 z z (r1 0 z z (r1 0 z z t7)))))))))<|tq 19 z (fun _=>w3 cA z) z z z<|tv [0,1,4,5,6,9,10,11,14,15,16,17,19,24] 20 z (p3 0 aJ z) z z z (Among.of_le (s0 f m) (s0 q (s0 B (s0 D (s0 J e)))) (r1 5 z z (r1 5 z z (r1 1 z z (r1 1 z z (r1 1 z z (r1 1 z z (r1 0 z z (r1 0 z z t7)))))))))<|oN 21 z z fun i8=>n6 9 1<|oS hm fun kK hQ hm=>St.pushS (R:=[bK C #[.map (some t),.map (some x),.map (some y),sl Q i.1 S,sl U i.2.1 V,sl W i.2.2.1 X,.map (some A)] 81,mapv t0 t Y,mapv t0 x Z,mapv t0 y a1,mapv t0 A a2,bK g0 (gu l hG hH c7 c8 c9 d1 d2 d3) 66,bK b #[sl o a0.Datas p,sl c a0.Funs d] 25,mapv t0 b2 b5]) hQ bM z z z z 0 z z (show Cat Kind.str _ [] [] from z) (x0 (s0 f m) iK) z z fun kL kM kN i9=>m1 i8 (fun _=>(aG [6,6,2,2,2,2,1,1] (s0 f m) (s0 q (s0 B (s0 D (s0 J e)))) z))<|oN 22 z z fun ja=>oS hm fun jb jc hm=>f5 _ (bG (a0:=l.E) (x0 (s0 f m) hI) (x0 (s0 f m) hJ) (x0 (s0 f m) hK) i9 (f4 hQ) jc) z (A1 z) z en39.out z z z<|?_
    rintro _ kO _ ⟨jd,je,jf,rfl,jg,jh,rfl⟩ L
    refine m1 ja (fun h=>by cases h)<|oN 23 z z fun ji=>pk5<|pk5<|pk5<|pk5<|pk5<|oS hm fun kP jj hm=>f5 _ (CallSp.lend (Hl:=[rowo jd jb.length je 9 1 jf]) (fun m_ hm_ hd_ h1_ h2_=>(bt (lentR hm_ 0 z z jg jh h1_ h2_) (x0 h1_ (x0 (s0 e (s0 f (s0 m L))) c0)) (x0 h1_ (x0 (s0 e (s0 f (s0 m L))) c1)) (x0 h1_ (x0 (s0 e (s0 f (s0 m L))) c2)) (p2 h1_ (p2 (s0 e (s0 f (s0 m L))) c3)) (p2 h1_ (p2 (s0 e (s0 f (s0 m L))) c4)) (p2 h1_ (p2 (s0 e (s0 f (s0 m L))) c5)) (p2 h1_ (p2 (s0 e (s0 f (s0 m L))) c6)) jj).mono (fun _ _ _ h_ _ _=>h_))) z (A1 z) z en38.out z z z<|?_
    rintro _ jk _ ⟨_,rfl,rfl,rfl⟩ jl
    cases hm
    exact m1 ji (fun h=>by cases h)<|tp 24 z (fun _=>n3 z z) z z<|dn fun a w ha hs=>⟨jk,(s0 f (s0 m (s0 L jl))),cv ha,(am [7,1,1,1,1,0,2,1] hs z)⟩
   rintro⟨d4,hR,ha,hs⟩
   refine us ha hs<|cB hm z (fun kQ hm=>?_) fun kR hm=>?_
   ·cases hm
    obtain rfl:=aR gY
    obtain rfl:=aR gX
    exact ssr<|sg z<|snn<|u2<|v0<|m2<|v0<|v0<|m2<|v0<|k0 z z ⟨z,z⟩ (aF [] z)
   refine skn<|q0<|mv z<|fa bW z<|ld 7 r9 z<|oS hm fun jm jn hm=>?_
   cases hm
   exact pk6<|mP jn (p2 hR gZ) ⟨[.bool true],z,z⟩ ec em z fun jo jp=>u1<|f2<|s4<|q0<|yv (s3 (j:=1) z z z (by have q_0:=iE;have q_1:=G.bnd.2;omega)) z<|mv z<|snn fun a w ha hs=>⟨(jm,b4.2+1),aL gY,jo,d4,(s0 e hR),jp,cv ha,(am [1,1,1,1,1,1,0] hs z)⟩
  cases hm
  obtain rfl:=aR gY
  exact u4<|p0<|p0<|u3 fun a w ha hs=>⟨(),z,a3,e,cv ha,(am [0,0,0,0,0,0] hs z)⟩
 rintro⟨hF,rfl,a9,n,ha,hs⟩
 replace hm:=aL gX
 refine us ha hs<|oD hm (fun hb h s=>∃hS:Unit,hb=.inl hS∧∃b0,m3 a9 b0∧h [(1,pP b 0),(10,pP C 0)]∧s b0 [bK b #[sl o a0.Datas p,sl c a0.Funs d] 25,mapv t0 t Y,mapv t0 x Z,mapv t0 y a1,mapv t0 A a2,bK C #[.map (some t),.map (some x),.map (some y),sl Q i.1 S,sl U i.2.1 V,sl W i.2.2.1 X,.map (some A)] 81]) (fun hb hm hc=>?_) fun hb hc a w=>?_
 ·refine ssr<|fa aA z<|ld 0 fs z<|yv (u0 fP z) z<|mv z<|snn<|t1<|lM hm (fun hd h s=>∃d5,m3 a9 d5∧h [(1,pP b 0),(10,pP C 0),(115,sl c a0.Funs d),(116,lV a0.Funs),(117,nV hd)]∧s d5 [bK b #[sl o a0.Datas p,sl c a0.Funs d] 25,mapv t0 t Y,mapv t0 x Z,mapv t0 y a1,mapv t0 A a2,bK C #[.map (some t),.map (some x),.map (some y),sl Q i.1 S,sl U i.2.1 V,sl W i.2.2.1 X,.map (some A)] 81]) ?_ ?_
  ·intro a w ha hs
   exact⟨a9,(l0 _),cv ha,(am [0,0,0,0,0,0] hs z)⟩
  rintro hd kS kT hm he a w ⟨d5,H,ha,hs⟩
  refine us ha hs<|ssr<|yv (r2 z z) z<|snn<|x1<|cP hm z (fun jq hm=>?_) fun kU hm=>?_
  ·refine skn<|x1<|t1<|ssr<|oS hm fun a4 jr hm=>?_
   obtain⟨kV,kW,js,jt,ju⟩:=(x0 (s0 q (s0 B (s0 D (s0 J (s0 n H))))) G).nidx jr
   obtain⟨kX,kY,jv,jw,jy,jz,jA,jB,rfl,jC,jD,jE,jF⟩:=DFun.opn jt
   refine yv (t2 js fF z z) z<|yv (v1 z (k3 ju eo)) z<|aa gb z fun kZ=>sN eo z z<|snn<|x1<|ds [6] hmix<|tp 0 z (fun _=>x2 z) z z<|tp 1 z (fun _=>w3 br z) z z<|tk [0,1,3] 2 z (v1 z (n7 (vs:=[iV a4.E.Op,sV a4.E.Name,iV a4.E.N,sl jv a4.E.Names jw,sl jy a4.E.Kids jz,sl jA a4.E.Alts jB]) 0 z m7 z z)) z z k1<|tp 3 z (fun _=>w3 cA z) z z<|tk [0,1,3] 4 z (p3 0 aJ z) z z k1<|oN 5 z z fun jG=>oS hm fun la jH hm=>cl (dC jC jH) z z<|?_
   rintro _ lb _ ⟨lc,lf,rfl,jI,rfl⟩ E
   refine m1 jG (fun _=>(aG [1,1,1,1,1,1,1] E (s0 q (s0 B (s0 D (s0 J (s0 n H))))) z))<|oN 6 z z fun jJ=>pk6<|pk6<|pk6<|pk6<|pk4<|pk7<|oS hm fun lg jK hm=>cl (ax (a0:=a4.E) (x0 E jD) (x0 E jE) (x0 E jF) (x0 (s0 n (s0 H E)) c0) (x0 (s0 n (s0 H E)) c1) (x0 (s0 n (s0 H E)) c2) jI (p2 (s0 n (s0 H E)) c3) (p2 (s0 n (s0 H E)) c4) (p2 (s0 n (s0 H E)) c5) (p2 (s0 n (s0 H E)) c6) jK) z z<|?_
   rintro _ jL _ ⟨lh,rfl,li,rfl⟩ jM
   refine m1 jJ (fun h=>by cases h)<|dn<|s4<|cB hm z (fun lj hm=>?_) fun ll hm=>?_
   ·cases hm
    obtain rfl:=aR he
    obtain rfl:=aR hc
    exact ssr<|sg z<|snn<|u2<|m2<|v0<|v0<|m2<|v0<|k0 z z ⟨z,z⟩ (aF [] z)
   cases hm
   exact k4<|f2<|s4<|q0<|yv (s3 (j:=1) z z z (by have q_0:=jq;have q_1:=G.bnd.2;omega)) z<|mv z<|snn fun a w ha hs=>⟨hd+1,aL he,jL,(s0 H (s0 E jM)),cv ha,(am [7,2,2,2,2,0] hs z)⟩
  cases hm
  obtain rfl:=aR he
  exact u4<|p0<|p0<|u3 fun a w ha hs=>⟨(),z,d5,H,cv ha,(am [0,0,0,0,0,0] hs z)⟩
 rintro⟨hS,rfl,b0,M,ha,hs⟩
 replace hm:=aL hc
 refine us ha hs<|oD hm (fun hf h s=>∃hT:Unit,hf=.inl hT∧∃hg,m3 b0 hg∧h []∧s hg []) (fun hf hm hh=>?_) fun hf hh a w=>?_
 ·refine ssr<|fa aA z<|ld 0 fs z<|yv (u0 fP z) z<|mv z<|snn<|t1<|lM hm (fun hi h s=>∃d6,m3 b0 d6∧h [(10,pP C 0),(130,sl c a0.Funs d),(131,lV a0.Funs),(132,nV hi)]∧s d6 [mapv t0 t Y,mapv t0 x Z,mapv t0 y a1,mapv t0 A a2,bK C #[.map (some t),.map (some x),.map (some y),sl Q i.1 S,sl U i.2.1 V,sl W i.2.2.1 X,.map (some A)] 81]) ?_ ?_
  ·intro a w ha hs
   exact⟨b0,(l0 _),cv ha,(am [1,1,1,1,1] hs z)⟩
  rintro hi lm ln hm hj a w ⟨d6,K,ha,hs⟩
  refine us ha hs<|ssr<|yv (r2 z z) z<|snn<|x1<|cP hm z (fun jN hm=>?_) fun lo hm=>?_
  ·refine skn<|x1<|t1<|ssr<|oS hm fun a5 jO hm=>?_
   obtain⟨lp,lq,jP,jQ,jR⟩:=(x0 (s0 q (s0 B (s0 D (s0 J (s0 n (s0 M K)))))) G).nidx jO
   obtain⟨lr,ls,jT,jU,jV,jW,jX,jY,rfl,lu,jZ,j0,j1⟩:=DFun.opn jQ
   refine yv (t2 jP fF z z) z<|yv (v1 z (k3 jR eo)) z<|aa gb z fun lv=>sN eo z z<|snn<|ssr<|mv z<|fa br z<|yv (v1 z (n7 (vs:=[iV a5.E.Op,sV a5.E.Name,iV a5.E.N,sl jT a5.E.Names jU,sl jV a5.E.Kids jW,sl jX a5.E.Alts jY]) 0 z m7 z z)) z<|pk4<|pk4<|pk4<|pk4<|pk5<|oS hm fun lx j2 hm=>cl (ai (a0:=a5.E) jZ j0 j1 (x0 (s0 n (s0 M K)) c0) (x0 (s0 n (s0 M K)) c1) (x0 (s0 n (s0 M K)) c2) (p2 (s0 n (s0 M K)) c3) (p2 (s0 n (s0 M K)) c4) (p2 (s0 n (s0 M K)) c5) (p2 (s0 n (s0 M K)) c6) j2) z z<|?_
   rintro _ j3 _ ⟨rfl,rfl⟩ j4
   refine snn<|cB hm z (fun ly hm=>?_) fun lz hm=>?_
   ·cases hm
    obtain rfl:=aR hj
    obtain rfl:=aR hh
    exact ssr<|sg z<|snn<|u2<|m2<|v0<|v0<|m2<|v0<|k0 z z ⟨z,z⟩ (aF [] z)
   cases hm
   exact k4<|f2<|s4<|q0<|yv (s3 (j:=1) z z z (by have q_0:=jN;have q_1:=G.bnd.2;omega)) z<|mv z<|snn fun a w ha hs=>⟨hi+1,aL hj,j3,(s0 K j4),cv ha,(am [1,1,1,1,0] hs z)⟩
  cases hm
  obtain rfl:=aR hj
  exact u4<|p0<|p0<|u3 fun a w ha hs=>⟨(),z,d6,K,cv ha,(am [] hs z)⟩
 rintro⟨hT,rfl,hg,lA,ha,hs⟩
 replace hm:=aL hh
 cases hm
 exact us ha hs<|ssr<|sg z<|snn<|u2<|k0 z z ⟨z,z⟩ (aF [] z)
theorem ef {a0:DNode}(U:Fsl 8 (Kind.int .i64) F c d a0.Kids) (hm:m_graph_isNode g a0 a1=some r):
    CallSp Tryz.prog 43 #[.agg #[iV a0.Op,sV a0.Name,iV a0.N,sl c a0.Kids d],iV a1] F [] (fun u F' H'=>u=(.bool r)∧H'=[]):=by
 unfold m_graph_isNode at hm
 refine f1 Tryz.func43 z z fun c0 c1 c2=>ssr<|ba z fun b=>sg z<|snn<|oD hm (fun l h s=>∃V:Unit,l=.inl V∧h [(2,pP b 0)]∧s F [bK b #[iV a0.Op,sV a0.Name,iV a0.N,sl c a0.Kids d] 71]) (fun l hm m=>?_) fun l m a w=>?_
 ·refine ssr<|fa r5 z<|ld 0 n9 z<|yv (u0 aE z) z<|mv z<|snn<|t1<|lM hm (fun f h s=>h [(1,iV a1),(2,pP b 0),(9,sl c a0.Kids d),(10,lV a0.Kids),(11,nV f)]∧s F [bK b #[iV a0.Op,sV a0.Name,iV a0.N,sl c a0.Kids d] 71]) ?_ ?_
  ·intro a w ha hs
   exact⟨cv ha,(am [0] hs z)⟩
  rintro f c3 c4 hm n a w ⟨ha,hs⟩
  refine us ha hs<|ssr<|yv (r2 z z) z<|snn<|x1<|cP hm z (fun a3 hm=>?_) fun c5 hm=>?_
  ·refine skn<|x1<|t1<|ssr<|oS hm fun c6 a4 hm=>?_
   obtain⟨c7,c8,a5,a6,a7⟩:=U.nidx a4
   obtain rfl:=a6
   refine yv (t2 a5 y9 z z) z<|yv (v1 z (k5 a7 r6 z)) z<|sg z<|snn<|oC hm (fun o h s=>h [(1,iV a1),(2,pP b 0),(9,sl c a0.Kids d),(10,lV a0.Kids),(11,nV f),(21,.bool o)]∧s F [bK b #[iV a0.Op,sV a0.Name,iV a0.N,sl c a0.Kids d] 71]) (fun o hm=>?_) fun o hm a w=>?_
   ·refine q0<|mv z<|?_
    rcases iS hm with⟨p,hm⟩|⟨p,hm⟩
    ·cases hm
     exact yv (t3 p (r2 z z)) z<|mv z<|un z z<|un z z<|un z z<|pt z<|u1<|eN [0] z
    cases hm
    exact yv (s2 p (r2 z z)) z<|mv z<|mw z z<|mw z z<|yw (u5 z z) z z<|pf z<|u1<|eN [0] z
   rintro⟨ha,hs⟩
   refine us ha hs<|cB hm z (fun c9 hm=>?_) fun d1 hm=>?_
   ·cases hm
    obtain rfl:=aR n
    obtain rfl:=aR m
    exact ssr<|sg z<|snn<|u2<|m2<|v0<|v0<|m2<|v0<|k0 z z ⟨z,z⟩ (aF [] z)
   cases hm
   exact k4<|f2<|s4<|q0<|yv (s3 (j:=1) z z z (by have q_0:=a3;have q_1:=U.bnd.2;omega)) z<|mv z<|snn fun a w ha hs=>⟨f+1,aL n,cv ha,(am [0] hs z)⟩
  cases hm
  obtain rfl:=aR n
  exact u4<|p0<|p0<|u3 fun a w ha hs=>⟨(),z,cv ha,(am [0] hs z)⟩
 rintro⟨V,rfl,ha,hs⟩
 replace hm:=aL m
 refine us ha hs<|oC hm (fun e h s=>h [(2,pP b 0),(7,.bool e)]∧s F [bK b #[iV a0.Op,sV a0.Name,iV a0.N,sl c a0.Kids d] 71]) (fun e hm=>?_) fun e hm a w=>?_
 ·refine q0<|fa u6 z<|ld 0 r9 z<|?_
  rcases iS hm with⟨q,hm⟩|⟨q,hm⟩
  ·cases hm
   exact yv (t3 q (v6 z z)) z<|mv z<|fw w8 z z<|lw 0 r6 z z<|yw (w1 z z) z z<|pt z<|sg z<|u1<|eN [0] z
  cases hm
  exact yv (s2 q (v6 z z)) z<|mv z<|un z z<|un z z<|un z z<|pf z<|sg z<|u1<|eN [0] z
 rintro⟨ha,hs⟩
 refine us ha hs<|x1<|ssr<|fa v5 z<|ld 0 r6 z<|snn<|t1<|ssr<|yv (w1 z z) z<|sg z<|snn<|cP hm z (fun d2 hm=>?_) fun d3 hm=>?_
 ·refine oC hm (fun t h s=>∃v,m3 F v∧h [(4,.bool t)]∧s v []) (fun t hm=>?_) fun t hm a w=>?_
  ·refine q0<|fa u6 z<|ld 0 r9 z<|oS hm fun W a8 hm=>cl (ar a8) z z<|?_
   rintro _ x _ ⟨rfl,rfl⟩ y
   rcases iS hm with⟨A,hm⟩|⟨A,hm⟩
   ·have a9:(W)=true:=A
    try rw [a9]
    refine mv z<|fw w8 z z<|lw 0 r6 z z<|?_
    rcases iS hm with⟨B,hm⟩|⟨B,hm⟩
    ·cases hm
     exact yw (t3 B (w1 z z)) z z<|pt z<|mv z<|fw r5 z z<|lw 0 n9 z z<|yw (u0 aE z) z z<|yw (u7 z z) z z<|pt z<|sg z<|u1 fun a w ha hs=>⟨x,y,cv ha,(am [] hs z)⟩
    cases hm
    exact yw (s2 B (w1 z z)) z z<|pt z<|mv z<|un z z<|un z z<|un z z<|un z z<|pf z<|sg z<|u1 fun a w ha hs=>⟨x,y,cv ha,(am [] hs z)⟩
   have b0:(W)=false:=w2 A
   try rw [b0]
   cases hm
   exact mv z<|un z z<|un z z<|un z z<|pf z<|mv z<|un z z<|un z z<|un z z<|un z z<|pf z<|sg z<|u1 fun a w ha hs=>⟨x,y,cv ha,(am [] hs z)⟩
  rintro⟨v,d4,ha,hs⟩
  cases hm
  exact us ha hs<|u2<|m2<|v0<|k0 z z ⟨z,z⟩ (aF [] z)
 refine ssr<|yv (w1 z z) z<|sg z<|snn<|cP hm z (fun d5 hm=>?_) fun d6 hm=>?_
 ·refine oC hm (fun C h s=>∃D,m3 F D∧h [(4,.bool C)]∧s D []) (fun C hm=>?_) fun C hm a w=>?_
  ·refine q0<|fa u6 z<|ld 0 r9 z<|oS hm fun X b1 hm=>cl (bB b1) z z<|?_
   rintro _ i _ ⟨rfl,rfl⟩ k
   rcases iS hm with⟨E,hm⟩|⟨E,hm⟩
   ·have b3:(X)=true:=E
    try rw [b3]
    refine mv z<|fw u6 z z<|lw 0 r9 z z<|?_
    rcases iS hm with⟨G,hm⟩|⟨G,hm⟩
    ·cases hm
     exact yw (g6 G (aV z z)) z z<|pt z<|mv z<|un z z<|un z z<|un z z<|pf z<|mv z<|un z z<|un z z<|un z z<|un z z<|pf z<|sg z<|u1 fun a w ha hs=>⟨i,k,cv ha,(am [] hs z)⟩
    refine yw (t6 G (aV z z)) z z<|pt z<|mv z<|fw w8 z z<|lw 0 r6 z z<|?_
    rcases iS hm with⟨H,hm⟩|⟨H,hm⟩
    ·cases hm
     exact yw (t3 H (w1 z z)) z z<|pt z<|mv z<|fw r5 z z<|lw 0 n9 z z<|yw (u0 aE z) z z<|yw (u7 z z) z z<|pt z<|sg z<|u1 fun a w ha hs=>⟨i,k,cv ha,(am [] hs z)⟩
    cases hm
    exact yw (s2 H (w1 z z)) z z<|pt z<|mv z<|un z z<|un z z<|un z z<|un z z<|pf z<|sg z<|u1 fun a w ha hs=>⟨i,k,cv ha,(am [] hs z)⟩
   have b4:(X)=false:=w2 E
   try rw [b4]
   cases hm
   exact mv z<|un z z<|un z z<|un z z<|pf z<|mv z<|un z z<|un z z<|un z z<|pf z<|mv z<|un z z<|un z z<|un z z<|un z z<|pf z<|sg z<|u1 fun a w ha hs=>⟨i,k,cv ha,(am [] hs z)⟩
  rintro⟨D,d7,ha,hs⟩
  cases hm
  exact us ha hs<|u2<|m2<|v0<|k0 z z ⟨z,z⟩ (aF [] z)
 refine ssr<|yv (w1 z z) z<|sg z<|snn<|cP hm z (fun d8 hm=>?_) fun d9 hm=>?_
 ·refine oC hm (fun I h s=>∃J,m3 F J∧h [(4,.bool I)]∧s J []) (fun I hm=>?_) fun I hm a w=>?_
  ·refine q0<|fa u6 z<|ld 0 r9 z<|?_
   rcases iS hm with⟨K,hm⟩|⟨K,hm⟩
   ·refine yv (t3 K (v6 z z)) z<|mv z<|fw w8 z z<|lw 0 r6 z z<|oS hm fun Y b5 hm=>f5 _ (p8 b5) z (A1 z) z en75.out z z z<|?_
    rintro _ Z _ ⟨rfl,rfl⟩ a2
    rcases iS hm with⟨L,hm⟩|⟨L,hm⟩
    ·have b6:(Y)=true:=L
     try rw [b6]
     cases hm
     exact pt z<|mv z<|fw r5 z z<|lw 0 n9 z z<|yw (u0 aE z) z z<|yw (w1 z z) z z<|pt z<|sg z<|u1 fun a w ha hs=>⟨Z,a2,cv ha,(am [] hs z)⟩
    have b7:(Y)=false:=w2 L
    try rw [b7]
    cases hm
    exact pt z<|mv z<|un z z<|un z z<|un z z<|un z z<|pf z<|sg z<|u1 fun a w ha hs=>⟨Z,a2,cv ha,(am [] hs z)⟩
   cases hm
   exact yv (s2 K (v6 z z)) z<|mv z<|un z z<|un z z<|un z z<|pf z<|mv z<|un z z<|un z z<|un z z<|un z z<|pf z<|sg z<|u1 fun a w ha hs=>⟨F,(l0 _),cv ha,(am [] hs z)⟩
  rintro⟨J,e0,ha,hs⟩
  cases hm
  exact us ha hs<|u2<|m2<|v0<|k0 z z ⟨z,z⟩ (aF [] z)
 refine oC hm (fun M h s=>h [(2,pP b 0),(7,.bool e),(32,iV a0.Op),(86,.bool M)]∧s F [bK b #[iV a0.Op,sV a0.Name,iV a0.N,sl c a0.Kids d] 71]) (fun M hm=>?_) fun M hm a w=>?_
 ·refine ssr<|yv (w1 z z) z<|sg z<|snn<|cP hm z (fun e1 hm=>?_) fun e2 hm=>?_
  ·cases hm
   exact k4 fun a w ha hs=>⟨cv ha,(am [0] hs z)⟩
  cases hm
  exact q0<|yv (w1 z z) z<|sg z<|u1<|eN [0] z
 rintro⟨ha,hs⟩
 refine us ha hs<|cB hm z (fun e3 hm=>?_) fun e4 hm=>?_
 ·refine oC hm (fun N h s=>h [(4,.bool N)]∧s F []) (fun N hm=>?_) fun N hm a w=>?_
  ·refine q0<|?_
   rcases iS hm with⟨P,hm⟩|⟨P,hm⟩
   ·have b8:(e)=true:=P
    try rw [b8]
    cases hm
    exact mv z<|mv z<|fw r5 z z<|lw 0 n9 z z<|yw (u0 aE z) z z<|yw (w1 z z) z z<|pt z<|sg z<|u1<|eN [] z
   have b9:(e)=false:=w2 P
   try rw [b9]
   cases hm
   exact mv z<|mv z<|un z z<|un z z<|un z z<|un z z<|pf z<|sg z<|u1<|eN [] z
  rintro⟨ha,hs⟩
  cases hm
  exact us ha hs<|u2<|m2<|v0<|k0 z z ⟨z,z⟩ (aF [] z)
 refine oC hm (fun Q h s=>h [(2,pP b 0),(7,.bool e),(96,.bool Q)]∧s F [bK b #[iV a0.Op,sV a0.Name,iV a0.N,sl c a0.Kids d] 71]) (fun Q hm=>?_) fun Q hm a w=>?_
 ·refine ssr<|yv (w1 z z) z<|sg z<|snn<|cP hm z (fun e5 hm=>?_) fun e6 hm=>?_
  ·cases hm
   exact k4 fun a w ha hs=>⟨cv ha,(am [0] hs z)⟩
  cases hm
  exact q0<|yv (w1 z z) z<|sg z<|u1<|eN [0] z
 rintro⟨ha,hs⟩
 refine us ha hs<|cB hm z (fun e7 hm=>?_) fun e8 hm=>?_
 ·refine oC hm (fun R h s=>h [(4,.bool R)]∧s F []) (fun R hm=>?_) fun R hm a w=>?_
  ·refine q0<|?_
   rcases iS hm with⟨S,hm⟩|⟨S,hm⟩
   ·have cs:(e)=true:=S
    try rw [cs]
    cases hm
    exact mv z<|mv z<|fw r5 z z<|lw 0 n9 z z<|yw (u0 aE z) z z<|yw (w1 z z) z z<|pt z<|sg z<|u1<|eN [] z
   have cu:(e)=false:=w2 S
   try rw [cu]
   cases hm
   exact mv z<|mv z<|un z z<|un z z<|un z z<|un z z<|pf z<|sg z<|u1<|eN [] z
  rintro⟨ha,hs⟩
  cases hm
  exact us ha hs<|u2<|m2<|v0<|k0 z z ⟨z,z⟩ (aF [] z)
 cases hm
 exact k4<|f2<|s4<|ssr<|sg z<|snn<|u2<|k0 z z ⟨z,z⟩ (aF [] z)
end Go.Proofs.YtjkcinpmbgcgpaaGreatDoor
