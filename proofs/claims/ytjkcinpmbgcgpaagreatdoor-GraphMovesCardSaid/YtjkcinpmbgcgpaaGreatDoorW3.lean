/- Each function does what its plain words tell. -/
import Derived.Test.YtjkcinpmbgcgpaaGreatDoorW2
namespace Go.Proofs.YtjkcinpmbgcgpaaGreatDoor
open Go Go.Sy Go.RowKit
set_option linter.unusedVariables false
set_option autoImplicit true
set_option relaxedAutoImplicit true
set_option maxHeartbeats 1000000
open Go.Mir
theorem ex {a0:DGraph}(M:Fsl 56 KDNode F l m a0.Nodes) (e2:Fsl 64 KDData F p q a2) (e3:Fsl 64 KDData F t v a3) (e4:Fsl 144 KDFun F x y a4) (e5:Mrel (Kind.int .i64) false F A a5) (N:Mrel (Kind.int .i64) false F B a6) (e6:Mrel (Kind.int .i64) false F C a7) (e7:Mrel (Kind.int .i64) false F D a8) (hm:m_graph_Shape g a0 a1 a2 a3 a4 a5 a6 a7 a8=some r):
    CallSp Tryz.prog 18 #[pP f 0,.agg #[iV a0.Root,sl l a0.Nodes m],.bool a1] F [bK f #[.map (some b),.map (some c),.map (some d),sl p a2 q,sl t a3 v,sl x a4 y,.map (some e)] 81,mapv t0 b A,mapv t0 c B,mapv t0 d C,mapv t0 e D] (fun u F' H'=>u=(iV r)∧H'=[bK f #[.map (some b),.map (some c),.map (some d),sl p a2 q,sl t a3 v,sl x a4 y,.map (some e)] 81,mapv t0 b A,mapv t0 c B,mapv t0 d C,mapv t0 e D]):=by
 unfold m_graph_Shape at hm
 refine f1 Tryz.func18 z z fun hD hE hF=>ssr<|ba z fun n=>sg z<|snn<|x1<|ssr<|fa v4 z<|ld 0 m8 z<|yv (u0 be z) z<|yv (t5 z z) z<|snn<|cP hm z (fun hG hm=>?_) fun hH hm=>?_
 ·cases hm
  exact ssr<|sg z<|snn<|u2<|v0<|k0 z z ⟨z,z⟩ (aF [1,1,1,1,1] z)
 refine skn<|x1<|oC hm (fun b1 h s=>h [(0,pP f 0),(2,.bool a1),(4,pP n 0),(39,.bool b1)]∧s F [mapv t0 b A,mapv t0 c B,mapv t0 d C,mapv t0 e D,bK f #[.map (some b),.map (some c),.map (some d),sl p a2 q,sl t a3 v,sl x a4 y,.map (some e)] 81,bK n #[iV a0.Root,sl l a0.Nodes m] 28]) (fun b1 hm=>?_) fun b1 hm a w=>?_
 ·refine q0<|fa v4 z<|ld 0 m8 z<|yv (u0 be z) z<|?_
  rcases iS hm with⟨b2,hm⟩|⟨b2,hm⟩
  ·cases hm
   exact yv (t3 b2 (w1 z z)) z<|mv z<|un z z<|un z z<|un z z<|pt z<|mv z<|un z z<|un z z<|un z z<|un z z<|un z z<|un z z<|pt z<|u1<|eN [2,2,2,2,1,0] z
  refine yv (s2 b2 (w1 z z)) z<|mv z<|fw y8 z z<|lw 0 r6 z z<|?_
  rcases iS hm with⟨b3,hm⟩|⟨b3,hm⟩
  ·cases hm
   exact yw (t3 b3 (r2 z z)) z z<|pf z<|mv z<|un z z<|un z z<|un z z<|un z z<|un z z<|un z z<|pt z<|u1<|eN [2,2,2,2,1,0] z
  cases hm
  exact yw (s2 b3 (r2 z z)) z z<|pf z<|mv z<|fw y8 z z<|lw 0 r6 z z<|fw v4 z z<|lw 0 m8 z z<|yw (u0 be z) z z<|yw (u5 z z) z z<|pf z<|u1<|eN [2,2,2,2,1,0] z
 rintro⟨ha,hs⟩
 refine us ha hs<|cB hm z (fun hI hm=>?_) fun hJ hm=>?_
 ·cases hm
  exact ssr<|sg z<|snn<|u2<|v0<|k0 z z ⟨z,z⟩ (aF [4,0,0,0,0] z)
 refine skn<|oD hm (fun b4 h s=>∃e8:Unit,b4=.inl e8∧∃P,m3 F P∧h [(0,pP f 0),(4,pP n 0)]∧s P [mapv t0 b A,mapv t0 c B,mapv t0 d C,mapv t0 e D,bK f #[.map (some b),.map (some c),.map (some d),sl p a2 q,sl t a3 v,sl x a4 y,.map (some e)] 81,bK n #[iV a0.Root,sl l a0.Nodes m] 28]) (fun b4 hm U=>?_) fun b4 U a w=>?_
 ·refine ssr<|fa v4 z<|ld 5 m8 z<|yv (u0 be z) z<|mv z<|snn<|t1<|lM hm (fun I h s=>∃J,m3 F J∧h [(0,pP f 0),(2,.bool I.1),(4,pP n 0),(41,sl l a0.Nodes m),(42,lV a0.Nodes),(43,nV I.2)]∧s J [mapv t0 b A,mapv t0 c B,mapv t0 d C,mapv t0 e D,bK f #[.map (some b),.map (some c),.map (some d),sl p a2 q,sl t a3 v,sl x a4 y,.map (some e)] 81,bK n #[iV a0.Root,sl l a0.Nodes m] 28]) ?_ ?_
  ·intro a w ha hs
   exact⟨F,(l0 _),cv ha,(am [0,0,0,0,0,0] hs z)⟩
  rintro I hK hL hm V a w ⟨J,b5,ha,hs⟩
  refine us ha hs<|ssr<|yv (r2 z z) z<|snn<|x1<|cP hm z (fun gX hm=>?_) fun hM hm=>?_
  ·refine skn<|x1<|t1<|ssr<|oS hm fun o gY hm=>?_
   obtain⟨hN,hO,gZ,g0,g1⟩:=(x0 b5 M).nidx gY
   obtain⟨W,X,rfl,g2⟩:=DNode.opn g0
   refine yv (t2 gZ bz z z) z<|yv (v1 z (k3 g1 ak)) z<|aa cR z fun Q=>sN ak z z<|snn<|oD hm (fun b6 h s=>∃R:Bool×Int,b6=.inl R∧h [(0,pP f 0),(2,.bool R.1),(4,pP n 0),(8,pP Q 0),(41,sl l a0.Nodes m),(42,lV a0.Nodes),(43,nV I.2)]∧s J [mapv t0 b A,mapv t0 c B,mapv t0 d C,mapv t0 e D,bK f #[.map (some b),.map (some c),.map (some d),sl p a2 q,sl t a3 v,sl x a4 y,.map (some e)] 81,bK n #[iV a0.Root,sl l a0.Nodes m] 28,bK Q #[iV o.Op,sV o.Name,iV R.2,sl W o.Kids X] 71]) (fun b6 hm b7=>?_) fun b6 b7 a w=>?_
   ·refine oC hm (fun L h s=>h [(0,pP f 0),(2,.bool L.1),(4,pP n 0),(8,pP Q 0),(41,sl l a0.Nodes m),(42,lV a0.Nodes),(43,nV I.2),(52,.bool L.2)]∧s J [mapv t0 b A,mapv t0 c B,mapv t0 d C,mapv t0 e D,bK f #[.map (some b),.map (some c),.map (some d),sl p a2 q,sl t a3 v,sl x a4 y,.map (some e)] 81,bK n #[iV a0.Root,sl l a0.Nodes m] 28,bK Q #[iV o.Op,sV o.Name,iV o.N,sl W o.Kids X] 71]) (fun L hm=>?_) fun L hm a w=>?_
    ·refine q0<|?_
     rcases iS hm with⟨b8,hm⟩|⟨b8,hm⟩
     ·have g3:(I.1)=true:=b8
      try rw [g3]
      cases hm
      exact mv z<|mv z<|fw v5 z z<|lw 0 r6 z z<|yw (w1 z z) z z<|pt z<|u1<|eN [1,1,1,1,1,1,0] z
     have g7:(I.1)=false:=w2 b8
     try rw [g7]
     cases hm
     exact mv z<|mv z<|un z z<|un z z<|un z z<|pf z<|u1<|eN [1,1,1,1,1,1,0] z
    rintro⟨ha,hs⟩
    refine us ha hs<|cB hm z (fun hP hm=>?_) fun hQ hm=>?_
    ·refine x1<|oC hm (fun cs h s=>h [(0,pP f 0),(2,.bool L.1),(4,pP n 0),(8,pP Q 0),(41,sl l a0.Nodes m),(42,lV a0.Nodes),(43,nV I.2),(60,.bool cs)]∧s J [mapv t0 b A,mapv t0 c B,mapv t0 d C,mapv t0 e D,bK f #[.map (some b),.map (some c),.map (some d),sl p a2 q,sl t a3 v,sl x a4 y,.map (some e)] 81,bK n #[iV a0.Root,sl l a0.Nodes m] 28,bK Q #[iV o.Op,sV o.Name,iV o.N,sl W o.Kids X] 71]) (fun cs hm=>?_) fun cs hm a w=>?_
     ·refine q0<|fa w8 z<|ld 6 r6 z<|?_
      rcases iS hm with⟨cu,hm⟩|⟨cu,hm⟩
      ·cases hm
       exact yv (t3 cu (r2 z z)) z<|mv z<|un z z<|un z z<|un z z<|pt z<|u1<|eN [0,0,0,0,0,0,0] z
      cases hm
      exact yv (s2 cu (r2 z z)) z<|mv z<|fw w8 z z<|lw 6 r6 z z<|yw (t5 z z) z z<|pf z<|u1<|eN [0,0,0,0,0,0,0] z
     rintro⟨ha,hs⟩
     refine us ha hs<|cB hm z (fun hR hm=>?_) fun hS hm=>?_
     ·cases hm
      obtain rfl:=aR b7
      obtain rfl:=aR V
      obtain rfl:=aR U
      exact ssr<|sg z<|snn<|u2<|v0<|v0<|m2<|v0<|v0<|m2<|v0<|k0 z z ⟨z,z⟩ (aF [4,0,0,0,0] z)
     cases hm
     exact skn<|q0<|fa w8 z<|pk6<|sO r6 z z z z (cs':=#[iV o.Op,sV o.Name,iV 0,sl W o.Kids X]) z<|u1 fun a w ha hs=>⟨(L.1,(0:Int)),z,cv ha,(am [1,1,1,1,1,1,0] hs z)⟩
    cases hm
    exact k4 fun a w ha hs=>⟨(L.1,o.N),z,cv ha,(am [0,0,0,0,0,0,0] hs z)⟩
   rintro⟨R,rfl,ha,hs⟩
   replace hm:=aL b7
   refine us ha hs<|ssr<|lk 6 ak z z<|fa v4 z<|ld 5 m8 z<|yv (u0 be z) z<|oS hm fun e9 hb hm=>cl (ef (a0:=(DNode.mk o.Op o.Name R.2 o.Kids)) g2 hb) z z<|?_
   rintro _ hc _ ⟨rfl,rfl⟩ hd
   refine yv (p5 z) z<|snn<|?_
   refine m5 z ?_ ?_
   ·intro c0
    replace c0:¬(e9=true):=nb_t c0
    replace hm:=iF hm c0
    cases hm
    obtain rfl:=aR V
    obtain rfl:=aR U
    exact ssr<|sg z<|snn<|u2<|m2<|v0<|v0<|m2<|v0<|k0 z z ⟨z,z⟩ (aF [4,0,0,0,0] z)
   intro c1
   replace c1:e9=true:=nb_f c1
   replace hm:=iT hm c1
   cases hm
   exact k4<|f2<|s4<|q0<|yv (s3 (j:=1) z z z (by have q_0:=gX;have q_1:=M.bnd.2;omega)) z<|mv z<|snn fun a w ha hs=>⟨(R.1,I.2+1),aL V,hc,(s0 b5 hd),cv ha,(am [0,0,0,0,0,0] hs z)⟩
  cases hm
  obtain rfl:=aR V
  exact u4<|p0<|p0<|u3 fun a w ha hs=>⟨(),z,J,b5,cv ha,(am [0,0,0,0,0,0] hs z)⟩
 rintro⟨e8,rfl,P,i,ha,hs⟩
 replace hm:=aL U
 refine us ha hs<|oD hm (fun c2 h s=>∃fo:Unit,c2=.inl fo∧∃S,m3 P S∧h [(0,pP f 0),(4,pP n 0)]∧s S [mapv t0 b A,mapv t0 c B,mapv t0 d C,mapv t0 e D,bK f #[.map (some b),.map (some c),.map (some d),sl p a2 q,sl t a3 v,sl x a4 y,.map (some e)] 81,bK n #[iV a0.Root,sl l a0.Nodes m] 28]) (fun c2 hm c3=>?_) fun c2 c3 a w=>?_
 ·refine ssr<|fa v4 z<|ld 5 m8 z<|yv (u0 be z) z<|mv z<|snn<|t1<|lM hm (fun Y h s=>∃Z,m3 P Z∧h [(0,pP f 0),(4,pP n 0),(70,sl l a0.Nodes m),(71,lV a0.Nodes),(72,nV Y)]∧s Z [mapv t0 b A,mapv t0 c B,mapv t0 d C,mapv t0 e D,bK f #[.map (some b),.map (some c),.map (some d),sl p a2 q,sl t a3 v,sl x a4 y,.map (some e)] 81,bK n #[iV a0.Root,sl l a0.Nodes m] 28]) ?_ ?_
  ·intro a w ha hs
   exact⟨P,(l0 _),cv ha,(am [0,0,0,0,0,0] hs z)⟩
  rintro Y hT hU hm c4 a w ⟨Z,E,ha,hs⟩
  refine us ha hs<|ssr<|yv (r2 z z) z<|snn<|x1<|cP hm z (fun he hm=>?_) fun hV hm=>?_
  ·refine skn<|x1<|t1<|ssr<|oS hm fun f0 hf hm=>?_
   obtain⟨hW,hX,hg,hh,hi⟩:=(x0 (s0 i E) M).nidx hf
   obtain⟨hY,hZ,rfl,h0⟩:=DNode.opn hh
   refine yv (t2 hg bz z z) z<|yv (v1 z (k3 hi ak)) z<|aa cR z fun h1=>sN ak z z<|snn<|ssr<|mv z<|fa u6 z<|ld 0 r9 z<|pk4<|pk4<|pk4<|pk4<|pk5<|oS hm fun gP hj hm=>cl (w6 (x0 (s0 i E) e2) (x0 (s0 i E) e3) (x0 (s0 i E) e4) (p2 (s0 i E) e5) (p2 (s0 i E) N) (p2 (s0 i E) e6) (p2 (s0 i E) e7) hj) z z<|?_
   rintro _ gQ _ ⟨rfl,rfl⟩ c5
   refine mv z<|yv (r0 z z) z<|yv (r0 z z) z<|sg z<|sg z<|snn<|x1<|ds [] hmix<|tp 0 z (fun _=>x2 z) z z<|tp 1 z (fun _=>t4 z) z z<|tp 2 z (fun _=>w3 az z) z z<|tk [0,1,2,4,7,8,9,10,11] 3 z (p3 0 cj z) z z k1<|tp 4 z (fun _=>w3 u6 z) z z<|tk [0,1,2,4,7,8,9,10,11] 5 z (p3 5 r9 z) z z k1<|oS hm fun h2 hk hm=>?_
   obtain⟨h3,hl,h4,gR,hn⟩:=p6 (k:=f0.Name) (p2 (s0 i (s0 E c5)) N) (show Mval (Kind.int .i64) false _ (iV 0) 0 from⟨[iV 0],z,z⟩)
   rw [Mir.getD_some hk] at gR
   obtain rfl:=gR
   obtain rfl:=(List.cons.inj (if_neg (show¬(false=true) by decide)▸hn)).1
   refine tk [0,1,2,4,7,8,9,10,11] 6 z (bw z z 2 z aj aq eL hl (Mrel.look (k:=f0.Name) (K:=(Kind.int .i64)) (agg:=false) (z0:=(iV 0)) (zd:=0) ⟨[iV 0],z,z⟩ (p2 (s0 i (s0 E c5)) N)).2) z z k1<|tp 7 z (fun _=>x2 z) z z<|tp 8 z (fun _=>r0 z z) z z<|tp 9 z (fun _=>r0 z z) z z<|tp 10 z (fun _=>w4 z) z z<|tp 11 z (fun _=>w4 z) z z<|dn<|s4<|oC hm (fun c6 h s=>h [(0,pP f 0),(4,pP n 0),(70,sl l a0.Nodes m),(71,lV a0.Nodes),(72,nV Y),(108,.bool c6)]∧s gQ [mapv t0 b A,mapv t0 c B,mapv t0 d C,mapv t0 e D,bK f #[.map (some b),.map (some c),.map (some d),sl p a2 q,sl t a3 v,sl x a4 y,.map (some e)] 81,bK n #[iV a0.Root,sl l a0.Nodes m] 28]) (fun c6 hm=>?_) fun c6 hm a w=>?_
   ·refine q0<|fa v5 z<|ld 5 r6 z<|?_
    rcases iS hm with⟨c7,hm⟩|⟨c7,hm⟩
    ·refine yv (t3 c7 (w1 z z)) z<|mv z<|?_
     rcases iS hm with⟨c8,hm⟩|⟨c8,hm⟩
     ·have ho:(gP.2)=true:=c8
      try rw [ho]
      refine mw z z<|yw (v7 z) z z<|pt z<|mv z<|fw v5 z z<|lw 5 r6 z z<|?_
      rcases iS hm with⟨c9,hm⟩|⟨c9,hm⟩
      ·cases hm
       exact yw (t3 c9 (w1 z z)) z z<|mw z z<|mw z z<|yw (p5 z) z z<|yw (f3 z z) z z<|pf z<|u1<|eN [1,1,1,1,0,1] z
      cases hm
      exact yw (s2 c9 (w1 z z)) z z<|mw z z<|un z z<|un z z<|yw (n3 z z) z z<|pf z<|u1<|eN [1,1,1,1,0,1] z
     have hp:(gP.2)=false:=w2 c8
     try rw [hp]
     cases hm
     exact mw z z<|yw (an z) z z<|pt z<|mv z<|un z z<|un z z<|un z z<|un z z<|k2 p1 z z<|k2 p1 z z<|un z z<|pt z<|u1<|eN [1,1,1,1,0,1] z
    refine yv (s2 c7 (w1 z z)) z<|mv z<|un z z<|un z z<|pf z<|mv z<|fw v5 z z<|lw 5 r6 z z<|?_
    rcases iS hm with⟨d1,hm⟩|⟨d1,hm⟩
    ·cases hm
     exact yw (t3 d1 (w1 z z)) z z<|mw z z<|mw z z<|yw (p5 z) z z<|yw (f3 z z) z z<|pf z<|u1<|eN [1,1,1,1,0,1] z
    cases hm
    exact yw (s2 d1 (w1 z z)) z z<|mw z z<|un z z<|un z z<|yw (n3 z z) z z<|pf z<|u1<|eN [1,1,1,1,0,1] z
   rintro⟨ha,hs⟩
   refine us ha hs<|cB hm z (fun h5 hm=>?_) fun h6 hm=>?_
   ·cases hm
    obtain rfl:=aR c4
    obtain rfl:=aR c3
    exact ssr<|sg z<|snn<|u2<|m2<|v0<|v0<|m2<|v0<|k0 z z ⟨z,z⟩ (aF [4,0,0,0,0] z)
   cases hm
   exact k4<|f2<|s4<|q0<|yv (s3 (j:=1) z z z (by have q_0:=he;have q_1:=M.bnd.2;omega)) z<|mv z<|snn fun a w ha hs=>⟨Y+1,aL c4,gQ,(s0 E c5),cv ha,(am [0,0,0,0,0,0] hs z)⟩
  cases hm
  obtain rfl:=aR c4
  exact u4<|p0<|p0<|u3 fun a w ha hs=>⟨(),z,Z,E,cv ha,(am [0,0,0,0,0,0] hs z)⟩
 rintro⟨fo,rfl,S,H,ha,hs⟩
 replace hm:=aL c3
 refine us ha hs<|oD hm (fun d2 h s=>∃gS:Unit,d2=.inl gS∧∃d3,m3 S d3∧h []∧s d3 [mapv t0 b A,mapv t0 c B,mapv t0 d C,mapv t0 e D,bK f #[.map (some b),.map (some c),.map (some d),sl p a2 q,sl t a3 v,sl x a4 y,.map (some e)] 81]) (fun d2 hm d4=>?_) fun d2 d4 a w=>?_
 ·refine ssr<|fa v4 z<|ld 5 m8 z<|yv (u0 be z) z<|mv z<|snn<|t1<|lM hm (fun a9 h s=>∃b0,m3 S b0∧h [(0,pP f 0),(111,sl l a0.Nodes m),(112,lV a0.Nodes),(113,nV a9)]∧s b0 [mapv t0 b A,mapv t0 c B,mapv t0 d C,mapv t0 e D,bK f #[.map (some b),.map (some c),.map (some d),sl p a2 q,sl t a3 v,sl x a4 y,.map (some e)] 81]) ?_ ?_
  ·intro a w ha hs
   exact⟨S,(l0 _),cv ha,(am [0,0,0,0,0] hs z)⟩
  rintro a9 h7 h8 hm d5 a w ⟨b0,G,ha,hs⟩
  refine us ha hs<|ssr<|yv (r2 z z) z<|snn<|x1<|cP hm z (fun hq hm=>?_) fun h9 hm=>?_
  ·refine skn<|x1<|t1<|ssr<|oS hm fun gT hr hm=>?_
   obtain⟨ia,ib,ht,hu,hv⟩:=(x0 (s0 i (s0 H G)) M).nidx hr
   obtain⟨ic,ie,rfl,ig⟩:=DNode.opn hu
   refine yv (t2 ht bz z z) z<|yv (v1 z (k3 hv ak)) z<|aa cR z fun ih=>sN ak z z<|snn<|ssr<|mv z<|fa u6 z<|ld 0 r9 z<|pk4<|pk4<|pk4<|pk4<|pk5<|oS hm fun ii hw hm=>cl (w6 (x0 (s0 i (s0 H G)) e2) (x0 (s0 i (s0 H G)) e3) (x0 (s0 i (s0 H G)) e4) (p2 (s0 i (s0 H G)) e5) (p2 (s0 i (s0 H G)) N) (p2 (s0 i (s0 H G)) e6) (p2 (s0 i (s0 H G)) e7) hw) z z<|?_
   rintro _ gU _ ⟨rfl,rfl⟩ d6
   refine mv z<|yv (r0 z z) z<|yv (r0 z z) z<|sg z<|sg z<|snn<|oC hm (fun d7 h s=>h [(0,pP f 0),(111,sl l a0.Nodes m),(112,lV a0.Nodes),(113,nV a9),(151,.bool d7)]∧s gU [mapv t0 b A,mapv t0 c B,mapv t0 d C,mapv t0 e D,bK f #[.map (some b),.map (some c),.map (some d),sl p a2 q,sl t a3 v,sl x a4 y,.map (some e)] 81]) (fun d7 hm=>?_) fun d7 hm a w=>?_
   ·refine ds [] hmix<|tp 0 z (fun _=>w3 v5 z) z z<|tk [0,2,3,4,6,7,8,9,10,11,13,14,15,17,18,19,20,22,25,26,27] 1 z (p3 5 r6 z) z z k1<|?_
    rcases iS hm with⟨d8,hm⟩|⟨d8,hm⟩
    ·refine tp 2 z (fun _=>t3 d8 (w1 z z)) z z<|tp 3 z (fun _=>x2 z) z z<|tq 4 z (fun _=>w3 r5 z) z z z<|tv [0,2,3,4,6,7,8,9,10,11,13,14,15,17,18,19,20,22,25,26,27] 5 z (p3 5 n9 z) z z z k1<|tq 6 z (fun _=>u0 aE z) z z z<|tq 7 z (fun _=>x2 z) z z z<|?_
     rcases iS hm with⟨d9,hm⟩|⟨d9,hm⟩
     ·cases hm
      exact tq 8 z (fun _=>t3 d9 (t5 z z)) z z z<|tp 9 z (fun _=>f3 z z) z z<|tp 10 z (fun _=>x2 z) z z<|tn 11 z z z<|tn 12 z z z<|tn 13 z z z<|tn 14 z z z<|tn 15 z z z<|tn 16 z z z<|tn 17 z z z<|tn 18 z z z<|tn 19 z z z<|tn 20 z z z<|tn 21 z z z<|tn 22 z z z<|tn 23 z z z<|tn 24 z z z<|tn 25 z z z<|tn 26 z z z<|tp 27 z (fun _=>f3 z z) z z<|dn fun a w ha hs=>⟨cv ha,(am [1,1,1,1,0] hs z)⟩
     refine tq 8 z (fun _=>s2 d9 (t5 z z)) z z z<|tp 9 z (fun _=>f3 z z) z z<|tp 10 z (fun _=>x2 z) z z<|tq 11 z (fun _=>w3 v5 z) z z z<|tv [0,2,3,4,6,7,8,9,10,11,13,14,15,17,18,19,20,22,25,26,27] 12 z (p3 5 r6 z) z z z k1<|?_
     rcases iS hm with⟨e0,hm⟩|⟨e0,hm⟩
     ·refine tq 13 z (fun _=>t3 e0 (w1 z z)) z z z<|tq 14 z (fun _=>x2 z) z z z<|tq 15 z (fun _=>w3 r5 z) z z z<|tv [0,2,3,4,6,7,8,9,10,11,13,14,15,17,18,19,20,22,25,26,27] 16 z (p3 5 n9 z) z z z k1<|tq 17 z (fun _=>u0 aE z) z z z<|tq 18 z (fun _=>x2 z) z z z<|tq 19 z (fun _=>t4 z) z z z<|tq 20 z (fun _=>w3 az z) z z z<|tv [0,2,3,4,6,7,8,9,10,11,13,14,15,17,18,19,20,22,25,26,27] 21 z (p3 0 cj z) z z z k1<|tq 22 z (fun _=>w3 u6 z) z z z<|tv [0,2,3,4,6,7,8,9,10,11,13,14,15,17,18,19,20,22,25,26,27] 23 z (p3 5 r9 z) z z z k1<|oS hm fun ij hx hm=>?_
      obtain⟨ik,hy,il,gV,hz⟩:=p6 (k:=gT.Name) (p2 (s0 i (s0 H (s0 G d6))) N) (show Mval (Kind.int .i64) false _ (iV 0) 0 from⟨[iV 0],z,z⟩)
      rw [Mir.getD_some hx] at gV
      obtain rfl:=gV
      obtain rfl:=(List.cons.inj (if_neg (show¬(false=true) by decide)▸hz)).1
      cases hm
      exact tv [0,2,3,4,6,7,8,9,10,11,13,14,15,17,18,19,20,22,25,26,27] 24 z (f7 z z 2 z aj aq eL hy) z z z k1<|tq 25 z (fun _=>t5 z z) z z z<|tq 26 z (fun _=>f3 z z) z z z<|tp 27 z (fun _=>n3 z z) z z<|dn fun a w ha hs=>⟨cv ha,(am [1,1,1,1,0] hs z)⟩
     cases hm
     exact tq 13 z (fun _=>s2 e0 (w1 z z)) z z z<|tq 14 z (fun _=>x2 z) z z z<|tn 15 z z z<|tn 16 z z z<|tn 17 z z z<|tn 18 z z z<|tn 19 z z z<|tn 20 z z z<|tn 21 z z z<|tn 22 z z z<|tn 23 z z z<|tn 24 z z z<|tn 25 z z z<|tq 26 z (fun _=>n3 z z) z z z<|tp 27 z (fun _=>n3 z z) z z<|dn fun a w ha hs=>⟨cv ha,(am [1,1,1,1,0] hs z)⟩
    refine tp 2 z (fun _=>s2 d8 (w1 z z)) z z<|tp 3 z (fun _=>x2 z) z z<|tn 4 z z z<|tn 5 z z z<|tn 6 z z z<|tn 7 z z z<|tn 8 z z z<|tp 9 z (fun _=>n3 z z) z z<|tp 10 z (fun _=>x2 z) z z<|tq 11 z (fun _=>w3 v5 z) z z z<|tv [0,2,3,4,6,7,8,9,10,11,13,14,15,17,18,19,20,22,25,26,27] 12 z (p3 5 r6 z) z z z k1<|?_
    rcases iS hm with⟨e1,hm⟩|⟨e1,hm⟩
    ·refine tq 13 z (fun _=>t3 e1 (w1 z z)) z z z<|tq 14 z (fun _=>x2 z) z z z<|tq 15 z (fun _=>w3 r5 z) z z z<|tv [0,2,3,4,6,7,8,9,10,11,13,14,15,17,18,19,20,22,25,26,27] 16 z (p3 5 n9 z) z z z k1<|tq 17 z (fun _=>u0 aE z) z z z<|tq 18 z (fun _=>x2 z) z z z<|tq 19 z (fun _=>t4 z) z z z<|tq 20 z (fun _=>w3 az z) z z z<|tv [0,2,3,4,6,7,8,9,10,11,13,14,15,17,18,19,20,22,25,26,27] 21 z (p3 0 cj z) z z z k1<|tq 22 z (fun _=>w3 u6 z) z z z<|tv [0,2,3,4,6,7,8,9,10,11,13,14,15,17,18,19,20,22,25,26,27] 23 z (p3 5 r9 z) z z z k1<|oS hm fun im hA hm=>?_
     obtain⟨io,hB,ip,gW,hC⟩:=p6 (k:=gT.Name) (p2 (s0 i (s0 H (s0 G d6))) N) (show Mval (Kind.int .i64) false _ (iV 0) 0 from⟨[iV 0],z,z⟩)
     rw [Mir.getD_some hA] at gW
     obtain rfl:=gW
     obtain rfl:=(List.cons.inj (if_neg (show¬(false=true) by decide)▸hC)).1
     cases hm
     exact tv [0,2,3,4,6,7,8,9,10,11,13,14,15,17,18,19,20,22,25,26,27] 24 z (f7 z z 2 z aj aq eL hB) z z z k1<|tq 25 z (fun _=>t5 z z) z z z<|tq 26 z (fun _=>f3 z z) z z z<|tp 27 z (fun _=>n3 z z) z z<|dn fun a w ha hs=>⟨cv ha,(am [1,1,1,1,0] hs z)⟩
    cases hm
    exact tq 13 z (fun _=>s2 e1 (w1 z z)) z z z<|tq 14 z (fun _=>x2 z) z z z<|tn 15 z z z<|tn 16 z z z<|tn 17 z z z<|tn 18 z z z<|tn 19 z z z<|tn 20 z z z<|tn 21 z z z<|tn 22 z z z<|tn 23 z z z<|tn 24 z z z<|tn 25 z z z<|tq 26 z (fun _=>n3 z z) z z z<|tp 27 z (fun _=>n3 z z) z z<|dn fun a w ha hs=>⟨cv ha,(am [1,1,1,1,0] hs z)⟩
   rintro⟨ha,hs⟩
   refine us ha hs<|cB hm z (fun iq hm=>?_) fun ir hm=>?_
   ·cases hm
    obtain rfl:=aR d5
    obtain rfl:=aR d4
    exact ssr<|sg z<|snn<|u2<|m2<|v0<|v0<|m2<|v0<|k0 z z ⟨z,z⟩ (aF [4,0,0,0,0] z)
   cases hm
   exact k4<|f2<|s4<|q0<|yv (s3 (j:=1) z z z (by have q_0:=hq;have q_1:=M.bnd.2;omega)) z<|mv z<|snn fun a w ha hs=>⟨a9+1,aL d5,gU,(s0 G d6),cv ha,(am [0,0,0,0,0] hs z)⟩
  cases hm
  obtain rfl:=aR d5
  exact u4<|p0<|p0<|u3 fun a w ha hs=>⟨(),z,b0,G,cv ha,(am [0,0,0,0,0] hs z)⟩
 rintro⟨gS,rfl,d3,it,ha,hs⟩
 replace hm:=aL d4
 cases hm
 exact us ha hs<|ssr<|sg z<|snn<|u2<|k0 z z ⟨z,z⟩ (aF [4,0,0,0,0] z)
theorem r7 {a0:DCore}{a1:DGraph}(d:Fsl 64 KDData F j k a0.Datas) (e:Fsl 144 KDFun F l m a0.Funs) (n:Fsl 56 KDNode F o p a1.Nodes) (hm:m_graph_Validate g a0 a1=some r):
    CallSp Tryz.prog 6 #[.agg #[sl j a0.Datas k,sl l a0.Funs m],.agg #[iV a1.Root,sl o a1.Nodes p]] F [] (fun u F' H'=>u=(iV r)∧H'=[]):=by
 unfold m_graph_Validate at hm
 refine f1 Tryz.func6 z z fun G H I=>ssr<|ba z fun J=>ba z fun K=>sg z<|snn<|x1<|ssr<|lk 1 aX z z<|oS hm fun f q hm=>cl (cy (a0:=a0) d e q) z z<|?_
 rintro _ L _ ⟨rfl,rfl⟩ a
 refine sg z<|snn<|ssr<|mv z<|yv (p4 z z) z<|snn<|?_
 refine m5 z ?_ ?_
 ·intro b
  replace b:¬(f=0):=nd_t b
  replace hm:=iF hm b
  cases hm
  exact ssr<|mv z<|sg z<|snn<|u2<|v0<|k0 z z ⟨z,z⟩ (aF [] z)
 intro c
 replace c:f=0:=nd_f c
 replace hm:=iT hm c
 refine skn<|x1<|ds [3] hmix<|tk [4] 0 z (g5 1 aX z) z z k1<|tk [4] 2 z (g5 0 s5 z) z z k1<|oN 1 z z fun s=>oS hm fun M t hm=>cl (f9 (a0:=a0) (x0 a d) (x0 a e) t) z z<|?_
 rintro _ N _ ⟨P,Q,R,S,U,V,W,X,Y,Z,a2,a3,a4,a5,a6,rfl,v,w,x,y,A,B,C,rfl⟩ i
 refine m1 s (fun _=>(aG [5,5] i a z))<|oN 3 z z fun D=>pk4<|pk4<|pk4<|pk4<|pk4<|oS hm fun a7 E hm=>cl (ex (a0:=a1) (x0 (s0 a i) n) v w x y A B C E) z z<|?_
 rintro _ a8 _ ⟨rfl,rfl⟩ a9
 cases hm
 exact m1 D (fun h=>by cases h)<|tp 4 z (fun _=>w4 z) z z<|dn<|s4<|u2<|k0 z z ⟨z,z⟩ (aF [] z)
theorem eC {a0:DGoal}(V:Fsl 16 Kind.str F D E a0.Vars) (G:Fsl 16 Kind.str F l m a0.E.Names) (H:Fsl 104 KDExpr F n o a0.E.Kids) (I:Fsl 160 KDAlt F p q a0.E.Alts) (X:Fsl 64 KDData F J K a1) (Y:Fsl 64 KDData F L M a2) (Z:Fsl 144 KDFun F N P a3) (a8:Mrel (Kind.int .i64) false F Q a4) (a9:Mrel (Kind.int .i64) false F R a5) (b0:Mrel (Kind.int .i64) false F S a6) (b1:Mrel (Kind.int .i64) false F U a7) (hm:m_core_GoalOf g a0 a1 a2 a3 a4 a5 a6 a7=some r):
    CallSp Tryz.prog 76 #[pP A 0,.agg (gm a0 D E l m n o p q)] F [bK A #[.map (some t),.map (some v),.map (some x),sl J a1 K,sl L a2 M,sl N a3 P,.map (some y)] 81,mapv t0 t Q,mapv t0 v R,mapv t0 x S,mapv t0 y U] (fun u F' H'=>u=(iV r)∧H'=[bK A #[.map (some t),.map (some v),.map (some x),sl J a1 K,sl L a2 M,sl N a3 P,.map (some y)] 81,mapv t0 t Q,mapv t0 v R,mapv t0 x S,mapv t0 y U]):=by
 unfold m_core_GoalOf at hm
 refine f1 Tryz.func76 z z fun gS gT gU=>ssr<|ba z fun B=>sg z<|snn<|x1<|ssr<|fa bV z<|yv (v1 z (n7 (vs:=[iV a0.E.Op,sV a0.E.Name,iV a0.E.N,sl l a0.E.Names m,sl n a0.E.Kids o,sl p a0.E.Alts q]) 0 z m7 z z)) z<|oS hm fun gV c4 hm=>cl (cM (a0:=a0.E) G H I c4) z z<|?_
 rintro _ c0 _ ⟨rfl,rfl⟩ b
 refine snn<|cB hm z (fun gW hm=>?_) fun gX hm=>?_
 ·cases hm
  exact ssr<|sg z<|snn<|u2<|v0<|k0 z z ⟨z,z⟩ (aF [1,1,1,1,1] z)
 refine skn<|x1<|oC hm (fun b2 h s=>∃C,m3 c0 C∧h [(0,pP A 0),(3,pP B 0),(19,.bool b2)]∧s C [mapv t0 t Q,mapv t0 v R,mapv t0 x S,mapv t0 y U,bK A #[.map (some t),.map (some v),.map (some x),sl J a1 K,sl L a2 M,sl N a3 P,.map (some y)] 81,bK B (gm a0 D E l m n o p q) 69]) (fun b2 hm=>?_) fun b2 hm a w=>?_
 ·refine q0<|fa cz z<|ld 0 aJ z<|yv (u0 bj z) z<|?_
  rcases iS hm with⟨b3,hm⟩|⟨b3,hm⟩
  ·cases hm
   exact yv (t3 b3 (t5 z z)) z<|mv z<|un z z<|un z z<|un z z<|un z z<|pt z<|u1 fun a w ha hs=>⟨c0,(l0 _),cv ha,(am [2,2,2,2,1,0] hs z)⟩
  refine yv (s2 b3 (t5 z z)) z<|mv z<|fw bV z z<|yw (v1 z (n7 (vs:=[iV a0.E.Op,sV a0.E.Name,iV a0.E.N,sl l a0.E.Names m,sl n a0.E.Kids o,sl p a0.E.Alts q]) 0 z m7 z z)) z z<|oS hm fun gY c5 hm=>f5 _ (bF (a0:=a0.E) (x0 b G) (x0 b H) (x0 b I) c5) z (A1 z) z en68.out z z z<|?_
  rintro _ c6 _ ⟨rfl,rfl⟩ c7
  cases hm
  exact yw (p5 z) z z<|pf z<|u1 fun a w ha hs=>⟨c6,c7,cv ha,(am [2,2,2,2,1,0] hs z)⟩
 rintro⟨C,c,ha,hs⟩
 refine us ha hs<|cB hm z (fun gZ hm=>?_) fun g0 hm=>?_
 ·cases hm
  exact ssr<|sg z<|snn<|u2<|v0<|k0 z z ⟨z,z⟩ (aF [4,0,0,0,0] z)
 refine skn<|oD hm (fun b4 h s=>∃c1:Unit,b4=.inl c1∧∃b5,m3 C b5∧h [(0,pP A 0),(3,pP B 0)]∧s b5 [mapv t0 t Q,mapv t0 v R,mapv t0 x S,mapv t0 y U,bK A #[.map (some t),.map (some v),.map (some x),sl J a1 K,sl L a2 M,sl N a3 P,.map (some y)] 81,bK B (gm a0 D E l m n o p q) 69]) (fun b4 hm b6=>?_) fun b4 b6 a w=>?_
 ·refine ssr<|fa cz z<|ld 5 aJ z<|yv (u0 bj z) z<|mv z<|snn<|t1<|lM hm (fun b7 h s=>∃W,m3 C W∧h [(0,pP A 0),(3,pP B 0),(21,sl D a0.Vars E),(22,lV a0.Vars),(23,nV b7)]∧s W [mapv t0 t Q,mapv t0 v R,mapv t0 x S,mapv t0 y U,bK A #[.map (some t),.map (some v),.map (some x),sl J a1 K,sl L a2 M,sl N a3 P,.map (some y)] 81,bK B (gm a0 D E l m n o p q) 69]) ?_ ?_
  ·intro a w ha hs
   exact⟨C,(l0 _),cv ha,(am [0,0,0,0,0,0] hs z)⟩
  rintro b7 g1 g2 hm b8 a w ⟨W,b9,ha,hs⟩
  refine us ha hs<|ssr<|yv (r2 z z) z<|snn<|x1<|cP hm z (fun c8 hm=>?_) fun g3 hm=>?_
  ·refine skn<|x1<|t1<|ssr<|oS hm fun g7 c9 hm=>?_
   obtain⟨hb,hc,d1,d2,d3⟩:=(x0 (s0 b (s0 c b9)) V).nidx c9
   obtain rfl:=d2
   refine yv (t2 d1 bM z z) z<|yv (v1 z (k5 d3 r9 z)) z<|sg z<|snn<|ssr<|mv z<|oS hm fun c2 d4 hm=>cl (u8 d4) z z<|?_
   rintro _ d5 _ ⟨rfl,rfl⟩ d6
   refine yv (p5 z) z<|snn<|?_
   refine m5 z ?_ ?_
   ·intro cs
    replace cs:¬(c2=true):=nb_t cs
    replace hm:=iF hm cs
    cases hm
    obtain rfl:=aR b8
    obtain rfl:=aR b6
    exact ssr<|sg z<|snn<|u2<|m2<|v0<|v0<|m2<|v0<|k0 z z ⟨z,z⟩ (aF [4,0,0,0,0] z)
   intro cu
   replace cu:c2=true:=nb_f cu
   replace hm:=iT hm cu
   cases hm
   exact k4<|f2<|s4<|q0<|yv (s3 (j:=1) z z z (by have q_0:=c8;have q_1:=V.bnd.2;omega)) z<|mv z<|snn fun a w ha hs=>⟨b7+1,aL b8,d5,(s0 b9 d6),cv ha,(am [0,0,0,0,0,0] hs z)⟩
  cases hm
  obtain rfl:=aR b8
  exact u4<|p0<|p0<|u3 fun a w ha hs=>⟨(),z,W,b9,cv ha,(am [0,0,0,0,0,0] hs z)⟩
 rintro⟨c1,rfl,b5,d,ha,hs⟩
 replace hm:=aL b6
 refine us ha hs<|x1<|x1<|ds [6,7] hmix<|tp 0 z (fun _=>x2 z) z z<|tp 1 z (fun _=>w3 bV z) z z<|tk [0,1,3] 2 z (v1 z (n7 (vs:=[iV a0.E.Op,sV a0.E.Name,iV a0.E.N,sl l a0.E.Names m,sl n a0.E.Kids o,sl p a0.E.Alts q]) 5 z m7 z z)) z z k1<|tp 3 z (fun _=>w3 cz z) z z<|tk [0,1,3] 4 z (p3 5 aJ z) z z k1<|oN 5 z z fun d7=>n6 9 1<|oS hm fun hd c3 hm=>pS c3 bM z z z z z (x0 (s0 b (s0 c d)) V) z fun he hf hg d8=>m1 d7 (fun _=>(aF [1,1,1,1,1,1] z))<|oN 6 z z fun d9=>oS hm fun e0 e1 hm=>cl (bG (a0:=a0.E) (x0 (s0 b (s0 c d)) G) (x0 (s0 b (s0 c d)) H) (x0 (s0 b (s0 c d)) I) d8 (f4 c3) e1) z z<|?_
 rintro _ hh _ ⟨e2,e3,e4,rfl,e5,e6,rfl⟩ e
 refine m1 d9 (fun h=>by cases h)<|oN 7 z z fun e7=>pk4<|pk4<|pk4<|pk4<|pk5<|oS hm fun hi e8 hm=>cl (CallSp.lend (Hl:=[rowo e2 e0.length e3 9 1 e4]) (fun m_ hm_ hd_ h1_ h2_=>(bt (lentR hm_ 0 z z e5 e6 h1_ h2_) (x0 h1_ (x0 (s0 b (s0 c (s0 d e))) X)) (x0 h1_ (x0 (s0 b (s0 c (s0 d e))) Y)) (x0 h1_ (x0 (s0 b (s0 c (s0 d e))) Z)) (p2 h1_ (p2 (s0 b (s0 c (s0 d e))) a8)) (p2 h1_ (p2 (s0 b (s0 c (s0 d e))) a9)) (p2 h1_ (p2 (s0 b (s0 c (s0 d e))) b0)) (p2 h1_ (p2 (s0 b (s0 c (s0 d e))) b1)) e8).mono (fun _ _ _ h_ _ _=>h_))) z z<|?_
 rintro _ hj _ ⟨_,rfl,rfl,rfl⟩ f
 refine m1 e7 (fun h=>by cases h)<|dn<|s4<|cB hm z (fun hk hm=>?_) fun hl hm=>?_
 ·cases hm
  exact ssr<|sg z<|snn<|u2<|v0<|k0 z z ⟨z,z⟩ (aF [0,0,0,0,0] z)
 refine skn<|x1<|x1<|ds [6] hmix<|tp 0 z (fun _=>x2 z) z z<|tp 1 z (fun _=>w3 bV z) z z<|tk [0,1,3] 2 z (v1 z (n7 (vs:=[iV a0.E.Op,sV a0.E.Name,iV a0.E.N,sl l a0.E.Names m,sl n a0.E.Kids o,sl p a0.E.Alts q]) 6 z m7 z z)) z z k1<|tp 3 z (fun _=>w3 cz z) z z<|tk [0,1,3] 4 z (p3 6 aJ z) z z k1<|oN 5 z z fun e9=>oS hm fun hn fo hm=>cl (dC (x0 (s0 b (s0 c (s0 d (s0 e f)))) V) fo) z z<|?_
 rintro _ ho _ ⟨hp,hq,rfl,f0,rfl⟩ i
 refine m1 e9 (fun _=>(aG [1,1,1,1,1,1,1] i (s0 b (s0 c (s0 d (s0 e f)))) z))<|oN 6 z z fun gP=>pk5<|pk5<|pk5<|pk5<|pk4<|pk5<|oS hm fun hr gQ hm=>cl (ax (a0:=a0.E) (x0 (s0 b (s0 c (s0 d (s0 e (s0 f i))))) G) (x0 (s0 b (s0 c (s0 d (s0 e (s0 f i))))) H) (x0 (s0 b (s0 c (s0 d (s0 e (s0 f i))))) I) (x0 (s0 b (s0 c (s0 d (s0 e (s0 f i))))) X) (x0 (s0 b (s0 c (s0 d (s0 e (s0 f i))))) Y) (x0 (s0 b (s0 c (s0 d (s0 e (s0 f i))))) Z) f0 (p2 (s0 b (s0 c (s0 d (s0 e (s0 f i))))) a8) (p2 (s0 b (s0 c (s0 d (s0 e (s0 f i))))) a9) (p2 (s0 b (s0 c (s0 d (s0 e (s0 f i))))) b0) (p2 (s0 b (s0 c (s0 d (s0 e (s0 f i))))) b1) gQ) z z<|?_
 rintro _ ht _ ⟨hu,rfl,hv,rfl⟩ k
 refine m1 gP (fun h=>by cases h)<|dn<|s4<|cB hm z (fun hw hm=>?_) fun hx hm=>?_
 ·cases hm
  exact ssr<|sg z<|snn<|u2<|v0<|k0 z z ⟨z,z⟩ (aF [0,1,1,1,1] z)
 refine skn<|x1<|ssr<|mv z<|fa bV z<|yv (v1 z (n7 (vs:=[iV a0.E.Op,sV a0.E.Name,iV a0.E.N,sl l a0.E.Names m,sl n a0.E.Kids o,sl p a0.E.Alts q]) 7 z m7 z z)) z<|pk5<|pk5<|pk5<|pk5<|pk4<|oS hm fun hy gR hm=>cl (ai (a0:=a0.E) (x0 (s0 b (s0 c (s0 d (s0 e (s0 f (s0 i k)))))) G) (x0 (s0 b (s0 c (s0 d (s0 e (s0 f (s0 i k)))))) H) (x0 (s0 b (s0 c (s0 d (s0 e (s0 f (s0 i k)))))) I) (x0 (s0 b (s0 c (s0 d (s0 e (s0 f (s0 i k)))))) X) (x0 (s0 b (s0 c (s0 d (s0 e (s0 f (s0 i k)))))) Y) (x0 (s0 b (s0 c (s0 d (s0 e (s0 f (s0 i k)))))) Z) (p2 (s0 b (s0 c (s0 d (s0 e (s0 f (s0 i k)))))) a8) (p2 (s0 b (s0 c (s0 d (s0 e (s0 f (s0 i k)))))) a9) (p2 (s0 b (s0 c (s0 d (s0 e (s0 f (s0 i k)))))) b0) (p2 (s0 b (s0 c (s0 d (s0 e (s0 f (s0 i k)))))) b1) gR) z z<|?_
 rintro _ hz _ ⟨rfl,rfl⟩ hA
 refine snn<|cB hm z (fun hB hm=>?_) fun hC hm=>?_
 ·cases hm
  exact ssr<|sg z<|snn<|u2<|v0<|k0 z z ⟨z,z⟩ (aF [0,0,0,0,0] z)
 cases hm
 exact skn<|ssr<|sg z<|snn<|u2<|k0 z z ⟨z,z⟩ (aF [0,0,0,0,0] z)
theorem fj {a0:DCore}{a1:DGoal}(e:Fsl 64 KDData F j k a0.Datas) (f:Fsl 144 KDFun F l m a0.Funs) (n:Fsl 16 Kind.str F o p a1.Vars) (q:Fsl 16 Kind.str F s t a1.E.Names) (v:Fsl 104 KDExpr F w x a1.E.Kids) (y:Fsl 160 KDAlt F A B a1.E.Alts) (hm:m_core_Goal g a0 a1=some r):
    CallSp Tryz.prog 47 #[.agg #[sl j a0.Datas k,sl l a0.Funs m],.agg (gm a1 o p s t w x A B)] F [] (fun u F' H'=>u=(iV r)∧H'=[]):=by
 unfold m_core_Goal at hm
 refine f1 Tryz.func47 z z fun Q R S=>ssr<|ba z fun U=>ba z fun V=>sg z<|snn<|x1<|ssr<|lk 1 aX z z<|oS hm fun i C hm=>cl (cy (a0:=a0) e f C) z z<|?_
 rintro _ W _ ⟨rfl,rfl⟩ a
 refine sg z<|snn<|ssr<|mv z<|yv (p4 z z) z<|snn<|?_
 refine m5 z ?_ ?_
 ·intro c
  replace c:¬(i=0):=nd_t c
  replace hm:=iF hm c
  cases hm
  exact ssr<|mv z<|sg z<|snn<|u2<|v0<|k0 z z ⟨z,z⟩ (aF [] z)
 intro d
 replace d:i=0:=nd_f d
 replace hm:=iT hm d
 refine skn<|x1<|ds [3] hmix<|tk [4] 0 z (g5 1 aX z) z z k1<|tk [4] 2 z (g5 0 gs z) z z k1<|oN 1 z z fun D=>oS hm fun X E hm=>cl (f9 (a0:=a0) (x0 a e) (x0 a f) E) z z<|?_
 rintro _ Y _ ⟨Z,a2,a3,a4,a5,a6,a7,a8,a9,b0,b1,b2,b3,b4,b5,rfl,G,H,I,J,K,L,M,rfl⟩ b
 refine m1 D (fun _=>(aG [5,5] b a z))<|oN 3 z z fun N=>pk4<|pk4<|pk4<|pk4<|pk4<|oS hm fun b6 P hm=>cl (eC (a0:=a1) (x0 (s0 a b) n) (x0 (s0 a b) q) (x0 (s0 a b) v) (x0 (s0 a b) y) G H I J K L M P) z z<|?_
 rintro _ b9 _ ⟨rfl,rfl⟩ cs
 cases hm
 exact m1 N (fun h=>by cases h)<|tp 4 z (fun _=>w4 z) z z<|dn<|s4<|u2<|k0 z z ⟨z,z⟩ (aF [] z)
theorem au (t:Fsl 16 Kind.str F l n a0) (C:Fsl 8 (Kind.int .i64) F o p a1) (D:Mrel (Kind.int .i64) false F b a2) (hm:m_graph_Grow_f2 g a0 a1 a2=some r):
    CallSp Tryz.prog 81 #[sl l a0 n,sl o a1 p,pP e 0] F [bK e #[.map (some c)] 79,mapv t0 c b] (fun u F' H'=>∃v x,u=(.map (some v))∧Mrel (Kind.int .i64) false F' x r∧H'=[mapv t0 v x,bK e #[.map (some c)] 79,mapv t0 c b]):=by
 unfold m_graph_Grow_f2 at hm
 refine f1 Tryz.func81 z z fun E G a5=>ssr<|sg z<|snn<|ssr<|n4 (P:=Tryz.prog) t0 p1 z fun d=>sg z<|snn<|x1<|ssr<|ld 1 cj z<|St.rangeMap z 2 z z aj p1 z fun y=>snn<|t1<|oS hm fun a6 H hm=>?_
 refine St.pick 1 z z (St.pick 1 z z ?_)
 refine St.iterNodup 0 z fun I=>St.keysNodup 1 z fun J=>?_
 refine St.loop (fun k_ a w=>∃dn lf cu,List.Perm b (dn++lf)∧lf.length=k_∧Has Tryz.f81.ntmps a [(0,sl l a0 n),(1,sl o a1 p),(2,pP e 0),(5,.map none),(6,.map (some d)),(11,.map (some d)),(12,.map (some c)),(13,pP y 0)]∧Sat (eV E G F) F [iterv t0 c y b lf cu,mapv t0 d (Mir.upsAll [] dn),bK e #[.map (some c)] 79] w) b.length ?_ ?_
 ·intro a w ha hs
  exact⟨[],b,none,List.Perm.refl _,z,cv ha,hs⟩
 rintro k_ a w ⟨dn,lf,cu,hp_,hk_,ha,hs⟩
 refine us ha hs<|ssr<|?_
 refine St.nextMap z 0 z z p1 z ?_ ?_
 ·intro h0_
  subst h0_
  refine yv (r0 z z) z<|snn<|x1<|cg z<|u4<|p0<|p0<|u3<|St.rangeOver 0 z z<|?_
  rw [List.append_nil] at hp_
  refine St.weak (c':=mapv t0 d (Mir.upsAll [] b)) 1 z z (fun m hm=>mapv_perm (upsAll_perm J I hp_) hm)<|s4<|oC hm (fun q h s=>∃f,Mrel (Kind.int .i64) false F f q∧h [(6,.map (some d))]∧s F [mapv t0 c b,bK e #[.map (some c)] 79,mapv t0 d f]) (fun q hm=>?_) fun q hm a w=>?_
  ·refine ssr<|mv z<|yv (u0 bj z) z<|mv z<|snn<|t1<|lM hm (fun i h s=>∃k,Mrel (Kind.int .i64) false F k i.1∧h [(1,sl o a1 p),(6,.map (some d)),(22,sl l a0 n),(23,lV a0),(24,nV i.2)]∧s F [mapv t0 c b,bK e #[.map (some c)] 79,mapv t0 d k]) ?_ ?_
   ·intro a w ha hs
    exact⟨(Mir.upsAll [] b),(Mrel.copy H D (mN (Kind.int .i64) false)),cv ha,(am [1,1,0] hs z)⟩
   rintro i a7 a8 hm A a w ⟨k,B,ha,hs⟩
   refine us ha hs<|ssr<|yv (r2 z z) z<|snn<|x1<|cP hm z (fun K hm=>?_) fun a9 hm=>?_
   ·refine skn<|x1<|t1<|ssr<|mv z<|oS hm fun b0 L hm=>?_
    obtain⟨b1,b2,M,N,Q⟩:=t.nidx L
    obtain rfl:=N
    refine yv (t2 M bM z z) z<|yv (v1 z (k5 Q r9 z)) z<|sg z<|sg z<|snn<|q0<|mv z<|mv z<|mv z<|mv z<|oS hm fun R S hm=>?_
    obtain⟨b3,b5,U,V,W⟩:=C.nidx S
    obtain rfl:=V
    refine yv (t2 U y9 z z) z<|yv (v1 z (k5 W r6 z)) z<|oS hm fun X Y hm=>?_
    cases hm
    exact pk2<|mP Y B ⟨[iV R],z,z⟩ aj aq z fun Z a3=>u1<|f2<|s4<|q0<|yv (s3 (j:=1) z z z (by have q_0:=K;have q_1:=t.bnd.2;omega)) z<|mv z<|snn fun a w ha hs=>⟨(X,i.2+1),aL A,Z,a3,cv ha,(am [1,1,0] hs z)⟩
   cases hm
   obtain rfl:=aR A
   exact u4<|p0<|p0<|u3 fun a w ha hs=>⟨k,B,cv ha,(am [0,0,0] hs z)⟩
  rintro⟨f,a4,ha,hs⟩
  cases hm
  exact us ha hs<|ssr<|mv z<|sg z<|snn<|u2<|k0 z z ⟨d,f,z,a4,z⟩ (aF [2,1,0] z)
 intro p_ lf_ hq_
 exact yv (r0 z z) z<|snn<|x1<|St.cond_t z<|skn<|t1<|ssr<|yv (Yields.entry z 0 z) z<|yv (r0 z z) z<|yv (r0 z z) z<|sg z<|sg z<|snn<|q0<|mv z<|mv z<|mv z<|St.mapPut (kk:=p_.1) z z z 1 z z aj aq p1<|u1<|f2<|s4 fun a w ha hs=>⟨lf_.length,by rw [←hk_,hq_.length_eq];simp,dn++[p_],lf_,some p_,by rw [List.append_assoc];exact hp_.trans (hq_.append_left _),z,cv ha,by rw [upsAll_snoc];exact hs.perm (List.Perm.swap _ _ _)⟩
theorem av {a0:DNode}(p:Fsl 8 (Kind.int .i64) F b c a0.Kids) (q:Cat KDNode F s a2) (C:Bnd 56 a2) (hm:m_graph_Grow_f1 g a0 a1 a2=some r):
    CallSp Tryz.prog 80 #[.agg #[iV a0.Op,sV a0.Name,iV a0.N,sl b a0.Kids c],pP f 0] F [bK f #[pP a 0] 134,bK a #[iV a1,sl i a2 j] 28,rowo i a2.length j 71 4 s] (fun u F' H'=>∃k l m,u=(iV r.1)∧Cat KDNode F' m r.2∧Bnd 56 r.2∧H'=[bK f #[pP a 0] 134,bK a #[iV a1,sl k r.2 l] 28,rowo k r.2.length l 71 4 m]):=by
 unfold m_graph_Grow_f1 at hm
 refine f1 Tryz.func80 z z fun D E G=>ssr<|ba z fun t=>sg z<|snn<|x1<|StD.start [10] [bK t #[iV a0.Op,sV a0.Name,iV a0.N,sl b a0.Kids c] 71,bK f #[pP a 0] 134,bK a #[iV a1,sl i a2 j] 28] hmix<|tk [2,3,8,9] 0 z (p3 1 eF z) z z (p9 (r1 0 z z (r1 0 z z (r1 0 z z t7))))<|tk [2,3,8,9] 1 z (p3 1 eF z) z z (p9 (r1 0 z z (r1 0 z z (r1 0 z z t7))))<|tp 2 z (fun _=>t4 z) z z<|tp 3 z (fun _=>w3 v4 z) z z<|tk [2,3,8,9] 4 z (p3 2 m8 z) z z (p9 (r1 0 z z (r1 0 z z (r1 0 z z t7))))<|tk [2,3,8,9] 5 z (g5 0 ak z) z z (p9 (r1 0 z z (r1 0 z z (r1 0 z z t7))))<|oN 6 z z fun v=>v3 (e:=71) (cells:=#[iV a0.Op,sV a0.Name,iV a0.N,sl b a0.Kids c]) (A2 z) (fun _=>by kernel_rfl) z p1 fun H=>m1 v (fun _=>(aF [1,1,1] z))<|oN 7 z z fun w=>oS hm fun x d hm=>?_
 cases hm
 exact pk4<|pL d bz z z z z z q ⟨[iV a0.Op,sV a0.Name,iV a0.N,sl b a0.Kids c],_,z,(DNode.of p),z⟩ z fun n o y A=>m1 w (fun _=>(aF [1,1,1] z))<|tp 8 z (fun _=>t4 z) z z<|tp 9 z (fun _=>w3 v4 z) z z<|oN 10 z z fun B=>pk3<|sO m8 z z z z (cs':=#[iV a1,sl n x o]) z<|m1 B (fun h=>by cases h)<|dn<|s4<|ssr<|ld 3 eF z<|yv (t4 z) z<|fa v4 z<|ld 0 m8 z<|yv (u0 be z) z<|yv (Yields.sub z z (by have q_0:=(f4 d).2;omega) (by have q_0:=(f4 d).2;omega)) z<|sg z<|snn<|u2<|k0 z z ⟨n,o,y,z,A,(f4 d),z⟩ (aF [3,0,0] z)
abbrev cr (g:Nat):Prop:=∀{F}{a0:DExpr}{a1 a2 a3 a b d e f h i j k l m c}(q:Fsl 16 Kind.str F d e a0.Names) (s:Fsl 104 KDExpr F f h a0.Kids) (t:Fsl 160 KDAlt F i j a0.Alts) (v:Cat KDNode F m a2) (w:Bnd 56 a2) (x:Mrel (Kind.int .i64) false F c a3) {r}(_:m_graph_Grow g a0 a1 a2 a3=some r),
    CallSp Tryz.prog 57 #[pP a 0,.agg (ca a0 d e f h i j),.map (some b)] F [bK a #[iV a1,sl k a2 l] 28,mapv t0 b c,rowo k a2.length l 71 4 m] (fun u F' H'=>∃n o p,u=(iV r.1)∧Cat KDNode F' p r.2∧Bnd 56 r.2∧H'=[bK a #[iV a1,sl n r.2 o] 28,mapv t0 b c,rowo n r.2.length o 71 4 p])
theorem eR (C:cr g):cr (g+1):=by
 intro F a0 a1 a2 a3 c d c7 c8 a6 a7 c9 d1 gS gT gU E gV V kf G H q r hm
 rw [m_graph_Grow] at hm
 refine f1 Tryz.func57 z z fun kg kh ki=>ssr<|bx z fun f=>ba z fun W=>bx z fun I=>sg z<|snn<|ssr<|yv (aH (fun _ _=>ev0) (fun _ ha=>ev1 ha z)) z<|sg z<|snn<|ssr<|yv (aH (fun _ _=>ev0) (fun _ ha=>ev1 ha z)) z<|sg z<|snn<|x1<|ssr<|fa n8 z<|ld 1 r6 z<|snn<|t1<|ssr<|yv (w1 z z) z<|sg z<|snn<|cP hm z (fun kj hm=>?_) fun kk hm=>?_
 ·refine ssr<|ld 0 cj z<|fa y7 z<|ld 1 r9 z<|oS hm fun kl hu hm=>?_
  obtain⟨km,hv,kn,gW,hw⟩:=p6 (k:=a0.Name) q (show Mval (Kind.int .i64) false _ (iV 0) 0 from⟨[iV 0],z,z⟩)
  rw [Mir.getD_some hu] at gW
  obtain rfl:=gW
  obtain rfl:=(List.cons.inj (if_neg (show¬(false=true) by decide)▸hw)).1
  cases hm
  exact yv (f7 z z 4 z aj aq eL hv) z<|sg z<|snn<|u2<|m2<|v0<|k0 z z ⟨gS,gT,gU,z,G,H,z⟩ (aF [3,3,3] z)
 refine ssr<|yv (w1 z z) z<|sg z<|snn<|cP hm z (fun ko hm=>?_) fun kp hm=>?_
 ·refine oC hm (fun J h s=>∃a8 a9 b0 b1,m3 F b1∧Cat KDNode b1 b0 J.1∧Bnd 56 J.1∧h [(6,iV J.2)]∧s b1 [bK c #[iV a1,sl a8 J.1 a9] 28,mapv t0 d E,rowo a8 J.1.length a9 71 4 b0]) (fun J hm=>?_) fun J hm a w=>?_
  ·refine StD.start [18] [bK I #[.map (some d)] 79,bK W (ca a0 c7 c8 a6 a7 c9 d1) 64,bK f #[pP c 0] 134,mapv t0 d E] hmix<|tk [1,3,5,6,10,12,19] 0 z (p3 2 eF z) z z (p9 (r1 0 z z (r1 0 z z (r1 0 z z (r1 1 z z t7)))))<|tp 1 z (fun _=>w3 w7 z) z z<|tk [1,3,5,6,10,12,19] 2 z (p3 1 da z) z z (p9 (r1 0 z z (r1 0 z z (r1 0 z z (r1 1 z z t7)))))<|oS hm fun d2 d3 hm=>?_
   replace d3:=nlit d3
   obtain⟨kq,kr,hx,hy,hz⟩:=V.idx d3
   obtain⟨ks,kt,ku,kv,kw,kx,rfl,d4,d5,d6⟩:=DExpr.opn hy
   refine tp 3 z (fun _=>t2 hx el z z) z z<|tk [1,3,5,6,10,12,19] 4 z (v1 z (k3 hz m7)) z z (p9 (r1 0 z z (r1 0 z z (r1 0 z z (r1 1 z z t7)))))<|tp 5 z (fun _=>x2 z) z z<|tp 6 z (fun _=>w3 y7 z) z z<|tk [1,3,5,6,10,12,19] 7 z (p3 1 r9 z) z z (p9 (r1 0 z z (r1 0 z z (r1 0 z z (r1 1 z z t7)))))<|tk [1,3,5,6,10,12,19] 9 z (p3 2 eF z) z z (p9 (r1 0 z z (r1 0 z z (r1 0 z z (r1 1 z z t7)))))<|tp 10 z (fun _=>w3 w7 z) z z<|tk [1,3,5,6,10,12,19] 11 z (p3 1 da z) z z (p9 (r1 0 z z (r1 0 z z (r1 0 z z (r1 1 z z t7)))))<|oS hm fun gX d7 hm=>?_
   replace d7:=nlit d7
   obtain⟨ky,kz,hA,hB,hC⟩:=V.idx d7
   obtain⟨kA,kB,kC,kD,kE,kF,rfl,gY,gZ,g0⟩:=DExpr.opn hB
   refine tp 12 z (fun _=>t2 hA el z z) z z<|tk [1,3,5,6,10,12,19] 13 z (v1 z (k3 hC m7)) z z (p9 (r1 0 z z (r1 0 z z (r1 0 z z (r1 1 z z t7)))))<|tk [1,3,5,6,10,12,19] 14 z (p3 0 cj z) z z (p9 (r1 0 z z (r1 0 z z (r1 0 z z (r1 1 z z t7)))))<|oS hm fun L g1 hm=>?_
   refine aW (i:=8) (j:=15) z z (by kernel_rfl) (l1:=#[T,T,T,T,T,T,T,T,T,T,T,T,T,T,T,O,O,O,O,O]) (l2:=#[T,T,T,T,T,T,T,T,O,T,T,T,T,T,T,T,O,O,O,O]) z z ?_ ?_
   ·intro hD
    refine v3 (e:=9) (cells:=#[sV a0.Name]) (A2 z) (fun _=>by kernel_rfl) z p1 fun kG=>wr ([a0.Name]:List (List UInt8)) 1 z z<|m1 hD (fun _=>(aF [1,1,1,2] z))<|oN 15 z z fun hE=>pk6<|pk6<|pk6<|cl (C (a0:=gX) gY gZ g0 G H q g1) z z<|?_
    rintro _ kH _ ⟨kI,kJ,kK,rfl,hF,hG,rfl⟩ p
    refine m1 hE (fun _=>(aG [4,4,4,1] p (l0 _) z))<|oN 16 z z fun hH=>v3 (e:=3) (cells:=#[iV L.1]) (A2 z) (fun _=>by kernel_rfl) z p1 fun kL=>wr ([L.1]:List Int) 1 z z<|m1 hH (fun _=>(aG [5,5,5,2] p (l0 _) z))<|oN 17 z z fun hI=>pk4<|fz z (g4 p (n5 (D:=Kind.str) z z)) (bl 16 z) fun kM t hJ=>fz z (g4 t (n5 (D:=Kind.int .i64) z z)) (bl 8 z) fun kN u hK=>pk1<|pk3<|oS hm fun kO hL hm=>cl (au (x0 u hJ) hK (p2 (s0 p (s0 t u)) q) hL) z z<|?_
    rintro _ kP _ ⟨kQ,kR,rfl,hM,rfl⟩ M
    refine m1 hI (fun _=>(aG [1,4,4,1] (s0 p (s0 t (s0 u M))) (l0 _) z))<|oN 18 z z fun hN=>pk4<|pk1<|pk4<|oS hm fun kS hO hm=>cl (C (a0:=d2) (x0 (s0 p (s0 t (s0 u M))) d4) (x0 (s0 p (s0 t (s0 u M))) d5) (x0 (s0 p (s0 t (s0 u M))) d6) (g4 (s0 t (s0 u M)) hF) hG hM hO) z z<|?_
    rintro _ hP _ ⟨hQ,hR,hS,rfl,hT,hU,rfl⟩ hV
    cases hm
    exact m1 hN (fun h=>by cases h)<|tp 19 z (fun _=>w4 z) z z<|dn fun a w ha hs=>⟨hQ,hR,hS,hP,(s0 p (s0 t (s0 u (s0 M hV)))),hT,hU,cv ha,(am [0,3,1] hs z)⟩
   intro hW
   refine pk5<|pk5<|pk5<|cl (C (a0:=gX) gY gZ g0 G H q g1) z z<|?_
   rintro _ kT _ ⟨kU,kV,kW,rfl,g2,g3,rfl⟩ b
   refine m1 hW (fun _=>(aG [3,3,3,1] b (l0 _) z))<|?_
   refine aW (i:=8) (j:=16) z z (by kernel_rfl) (l1:=#[T,T,T,T,T,T,T,T,T,T,T,T,T,T,T,T,O,O,O,O]) (l2:=#[T,T,T,T,T,T,T,T,O,T,T,T,T,T,T,T,T,O,O,O]) z z ?_ ?_
   ·intro hX
    refine v3 (e:=9) (cells:=#[sV a0.Name]) (A2 z) (fun _=>by kernel_rfl) z p1 fun kX=>wr ([a0.Name]:List (List UInt8)) 1 z z<|m1 hX (fun _=>(aG [4,4,4,2] b (l0 _) z))<|oN 16 z z fun hY=>v3 (e:=3) (cells:=#[iV L.1]) (A2 z) (fun _=>by kernel_rfl) z p1 fun kY=>wr ([L.1]:List Int) 1 z z<|m1 hY (fun _=>(aG [5,5,5,3] b (l0 _) z))<|oN 17 z z fun hZ=>pk1<|fz z (n5 (D:=Kind.str) z z) (bl 16 z) fun kZ x h0=>fz z (g4 x (n5 (D:=Kind.int .i64) z z)) (bl 8 z) fun la y h1=>pk1<|pk3<|oS hm fun lb h2 hm=>cl (au (x0 y h0) h1 (p2 (s0 b (s0 x y)) q) h2) z z<|?_
    rintro _ lc _ ⟨lf,lg,rfl,h3,rfl⟩ N
    refine m1 hZ (fun _=>(aG [1,4,4,1] (s0 b (s0 x (s0 y N))) (l0 _) z))<|oN 18 z z fun h4=>pk4<|pk1<|pk4<|oS hm fun lh h5 hm=>cl (C (a0:=d2) (x0 (s0 b (s0 x (s0 y N))) d4) (x0 (s0 b (s0 x (s0 y N))) d5) (x0 (s0 b (s0 x (s0 y N))) d6) (g4 (s0 x (s0 y N)) g2) g3 h3 h5) z z<|?_
    rintro _ h6 _ ⟨h7,h8,h9,rfl,ia,ib,rfl⟩ ic
    cases hm
    exact m1 h4 (fun h=>by cases h)<|tp 19 z (fun _=>w4 z) z z<|dn fun a w ha hs=>⟨h7,h8,h9,h6,(s0 b (s0 x (s0 y (s0 N ic)))),ia,ib,cv ha,(am [0,3,1] hs z)⟩
   intro ie
   refine v3 (e:=3) (cells:=#[iV L.1]) (A2 z) (fun _=>by kernel_rfl) z p1 fun li=>wr ([L.1]:List Int) 1 z z<|m1 ie (fun _=>(aG [4,4,4,2] b (l0 _) z))<|oN 8 z z fun ig=>v3 (e:=9) (cells:=#[sV a0.Name]) (A2 z) (fun _=>by kernel_rfl) z p1 fun lj=>wr ([a0.Name]:List (List UInt8)) 1 z z<|m1 ig (fun _=>(aG [5,5,5,3] b (l0 _) z))<|oN 17 z z fun ih=>fz z (n5 (D:=Kind.str) z z) (bl 16 z) fun ll A ii=>fz z (g4 A (n5 (D:=Kind.int .i64) z z)) (bl 8 z) fun lm B ij=>pk1<|pk3<|oS hm fun ln ik hm=>cl (au (x0 B ii) ij (p2 (s0 b (s0 A B)) q) ik) z z<|?_
   rintro _ lo _ ⟨lp,lq,rfl,il,rfl⟩ Q
   refine m1 ih (fun _=>(aG [1,4,4,1] (s0 b (s0 A (s0 B Q))) (l0 _) z))<|oN 18 z z fun im=>pk4<|pk1<|pk4<|oS hm fun lr io hm=>cl (C (a0:=d2) (x0 (s0 b (s0 A (s0 B Q))) d4) (x0 (s0 b (s0 A (s0 B Q))) d5) (x0 (s0 b (s0 A (s0 B Q))) d6) (g4 (s0 A (s0 B Q)) g2) g3 il io) z z<|?_
   rintro _ ip _ ⟨iq,ir,it,rfl,iu,iv,rfl⟩ iw
   cases hm
   exact m1 im (fun h=>by cases h)<|tp 19 z (fun _=>w4 z) z z<|dn fun a w ha hs=>⟨iq,ir,it,ip,(s0 b (s0 A (s0 B (s0 Q iw)))),iu,iv,cv ha,(am [0,3,1] hs z)⟩
  rintro⟨a8,a9,b0,b1,ls,ix,iy,ha,hs⟩
  cases hm
  exact us ha hs<|u2<|m2<|v0<|k0 z z ⟨a8,a9,b0,z,ix,iy,z⟩ (aF [0,0,0] z)
 refine ssr<|yv (w1 z z) z<|sg z<|snn<|cP hm z (fun lu hm=>?_) fun lv hm=>?_
 ·refine ssr<|sg z<|snn<|oC hm (fun o h s=>∃d8 d9 e0 e1 e2 e3 X,m3 F X∧Cat KDNode X e0 o.1∧Bnd 56 o.1∧Cat (Kind.int .i64) X e3 o.2∧Bnd 8 o.2∧h [(3,pP f 0),(4,pP W 0),(8,.func (.func 81) #[] #[pP I 0]),(9,sl e1 o.2 e2)]∧s X [bK c #[iV a1,sl d8 o.1 d9] 28,mapv t0 d E,bK f #[pP c 0] 134,bK W (ca a0 c7 c8 a6 a7 c9 d1) 64,bK I #[.map (some d)] 79,rowo d8 o.1.length d9 71 4 e0,rowo e1 o.2.length e2 3 1 e3]) (fun o hm=>?_) fun o hm a w=>?_
  ·refine ssr<|fa g9 z<|ld 1 aJ z<|yv (u0 bj z) z<|mv z<|snn<|t1<|lM hm (fun l h s=>∃b2 b3 b4 b5 b9 cs S,m3 F S∧Cat KDNode S b4 l.1∧Bnd 56 l.1∧Cat (Kind.int .i64) S cs l.2.1∧Bnd 8 l.2.1∧h [(3,pP f 0),(4,pP W 0),(7,.func (.func 80) #[] #[pP f 0]),(8,.func (.func 81) #[] #[pP I 0]),(9,sl b5 l.2.1 b9),(50,lV a0.Names),(51,nV l.2.2)]∧s S [bK c #[iV a1,sl b2 l.1 b3] 28,mapv t0 d E,bK f #[pP c 0] 134,bK W (ca a0 c7 c8 a6 a7 c9 d1) 64,bK I #[.map (some d)] 79,rowo b2 l.1.length b3 71 4 b4,rowo b5 l.2.1.length b9 3 1 cs]) ?_ ?_
   ·exact n6 3 1 fun a w ha hs=>⟨gS,gT,gU,none,0,[],F,(l0 _),G,H,(show Cat (Kind.int .i64) _ [] [] from z),r8,cv ha,(am [4,4,3,2,1,1,0] hs z)⟩
   rintro l lx ly hm g7 a w ⟨b2,b3,b4,b5,b9,cs,S,hb,hc,hd,he,iz,ha,hs⟩
   refine us ha hs<|ssr<|yv (r2 z z) z<|snn<|x1<|cP hm z (fun iA hm=>?_) fun lz hm=>?_
   ·refine skn<|x1<|t1<|q0<|mv z<|mv z<|yv (v2 (v:=(.agg #[iV 6,sV [],iV 0,nS])) (A2 z) (fun _=>by kernel_rfl)) z<|pk5<|pk1<|pk3<|oS hm fun e4 iB hm=>cl (av (a0:=(DNode.mk 6 ([]:List UInt8) 0 ([]:List Int))) r3 hc hd iB) z z<|?_
    rintro _ iC _ ⟨iD,iE,iG,rfl,iH,iI,rfl⟩ hf
    refine v3 (e:=3) (cells:=#[iV e4.1]) (A2 z) (fun _=>by kernel_rfl) z p1 fun lA=>oS hm fun iJ hg hm=>?_
    cases hm
    exact pk7<|pL hg y9 z z z z z (g4 hf he) ⟨[iV e4.1],_,z,z,z⟩ z fun iK iL iM iN=>sg z<|u1<|f2<|s4<|q0<|yv (s3 (j:=1) z z z (by have q_0:=iA;have q_1:=gV.bnd.2;omega)) z<|mv z<|snn fun a w ha hs=>⟨(e4.2,iJ,l.2.2+1),aL g7,iD,iE,iG,iK,iL,iM,iC,(s0 hb hf),iH,iI,iN,(f4 hg),cv ha,(am [2,3,1,2,2,1,0] hs z)⟩
   cases hm
   obtain rfl:=aR g7
   exact u4<|p0<|p0<|u3 fun a w ha hs=>⟨b2,b3,b4,b5,b9,cs,S,hb,hc,hd,he,iz,cv ha,(am [0,0,0,0,0,0,0] hs z)⟩
  rintro⟨d8,d9,e0,e1,e2,e3,X,cu,iO,iP,iQ,iR,ha,hs⟩
  refine us ha hs<|x1<|pk6<|fz z iQ iR fun lB Y iU=>ds [10] hmix<|tk [1,3,5,6,8,11] 0 z (p3 2 eF z) z z k1<|tp 1 z (fun _=>w3 w7 z) z z<|tk [1,3,5,6,8,11] 2 z (p3 3 da z) z z k1<|oS hm fun iW e5 hm=>?_
  replace e5:=nlit e5
  obtain⟨lC,lD,iX,iY,iZ⟩:=(x0 (s0 cu Y) V).idx e5
  obtain⟨lE,lF,lG,lH,lI,lJ,rfl,i0,i1,i2⟩:=DExpr.opn iY
  refine tp 3 z (fun _=>t2 iX el z z) z z<|tk [1,3,5,6,8,11] 4 z (v1 z (k3 iZ m7)) z z k1<|tp 5 z (fun _=>x2 z) z z<|tp 6 z (fun _=>w3 g9 z) z z<|tk [1,3,5,6,8,11] 7 z (p3 3 aJ z) z z k1<|tp 8 z (fun _=>x2 z) z z<|oN 9 z z fun i3=>pk1<|pk4<|oS hm fun lK i4 hm=>cl (au (x0 (s0 cu Y) gV) iU (p2 (s0 cu Y) q) i4) z z<|?_
  rintro _ lL _ ⟨lN,lO,rfl,i5,rfl⟩ Z
  refine m1 i3 (fun _=>(aG [3,2,2,2,1,1] Z (s0 cu Y) z))<|oN 10 z z fun i6=>pk6<|pk1<|pk4<|oS hm fun lP i7 hm=>cl (C (a0:=iW) (x0 Z i0) (x0 Z i1) (x0 Z i2) (g4 (s0 Y Z) iO) iP i5 i7) z z<|?_
  rintro _ lQ _ ⟨i8,i9,ja,rfl,jb,jc,rfl⟩ lR
  cases hm
  exact m1 i6 (fun h=>by cases h)<|tp 11 z (fun _=>w4 z) z z<|dn<|s4<|u2<|m2<|v0<|k0 z z ⟨i8,i9,ja,z,jb,jc,z⟩ (aF [0,3,1] z)
 refine ssr<|yv (w1 z z) z<|sg z<|snn<|cP hm z (fun lS hm=>?_) fun lT hm=>?_
 ·refine ssr<|mv z<|fa g8 z<|ld 1 r6 z<|yv (v2 (v:=(.agg #[iV 2,sV [],iV a0.N,nS])) (A2 z) (fun _=>by kernel_rfl)) z<|pk5<|pk4<|pk4<|oS hm fun lU jd hm=>cl (av (a0:=(DNode.mk 2 ([]:List UInt8) a0.N ([]:List Int))) r3 G H jd) z z<|?_
  rintro _ lW _ ⟨je,jf,jg,rfl,jh,ji,rfl⟩ lX
  cases hm
  exact sg z<|snn<|u2<|m2<|v0<|k0 z z ⟨je,jf,jg,z,jh,ji,z⟩ (aF [1,4,1] z)
 refine ssr<|yv (w1 z z) z<|sg z<|snn<|cP hm z (fun lY hm=>?_) fun lZ hm=>?_
 ·refine ssr<|mv z<|yv (v2 (v:=(.agg #[iV 7,sV [],iV 0,nS])) (A2 z) (fun _=>by kernel_rfl)) z<|pk5<|pk4<|pk4<|oS hm fun l3 jj hm=>cl (av (a0:=(DNode.mk 7 ([]:List UInt8) 0 ([]:List Int))) r3 G H jj) z z<|?_
  rintro _ l4 _ ⟨jk,jl,jm,rfl,jn,jo,rfl⟩ l5
  cases hm
  exact sg z<|snn<|u2<|m2<|v0<|k0 z z ⟨jk,jl,jm,z,jn,jo,z⟩ (aF [1,4,1] z)
 refine k4<|f2<|s4<|ssr<|n4 (P:=Tryz.prog) m6 p1 z fun l6=>oS hm fun l7 jp hm=>mI jp (mN (Kind.int .i64) false) ⟨[iV 1],z,z⟩ cS dA z fun l8 jq=>oS hm fun l9 jr hm=>mI jr jq ⟨[iV 3],z,z⟩ cS dA z fun ma js=>oS hm fun mb jt hm=>mI jt js ⟨[iV 4],z,z⟩ cS dA z fun mc ju=>oS hm fun md jv hm=>mI jv ju ⟨[iV 5],z,z⟩ cS dA z fun me jw=>mv z<|fa n8 z<|ld 2 r6 z<|oS hm fun hh jy hm=>?_
 obtain⟨mf,jz,mg,hi,jA⟩:=p6 (k:=a0.Op) jw (show Mval (Kind.int .i64) false _ (iV 0) 0 from⟨[iV 0],z,z⟩)
 rw [Mir.getD_some jy] at hi
 obtain rfl:=hi
 obtain rfl:=(List.cons.inj (if_neg (show¬(false=true) by decide)▸jA)).1
 refine yv (f7 z z 0 z cS dA eL jz) z<|sg z<|snn<|ssr<|mv z<|mv z<|fa y7 z<|ld 2 r9 z<|yv (v2 (v:=(.agg #[iV hh,sV a0.Name,iV 0,nS])) (A2 z) (fun _=>by kernel_rfl)) z<|pk6<|pk5<|pk5<|oS hm fun e6 jB hm=>cl (av (a0:=(DNode.mk hh a0.Name 0 ([]:List Int))) r3 G H jB) z z<|?_
 rintro _ e7 _ ⟨jC,jD,jE,rfl,jF,jG,rfl⟩ hj
 refine sg z<|snn<|ssr<|sg z<|snn<|oC hm (fun m h s=>∃K a4 e8 e9 f0 gP a5,m3 e7 a5∧Cat KDNode a5 e8 m.1∧Bnd 56 m.1∧Cat (Kind.int .i64) a5 gP m.2∧Bnd 8 m.2∧h [(3,pP f 0),(11,iV e6.1),(12,sl e9 m.2 f0)]∧s a5 [bK c #[iV a1,sl K m.1 a4] 28,mapv t0 d E,bK f #[pP c 0] 134,rowo K m.1.length a4 71 4 e8,rowo e9 m.2.length f0 3 1 gP]) (fun m hm=>?_) fun m hm a w=>?_
 ·refine ssr<|fa w7 z<|ld 5 da z<|yv (u0 ek z) z<|mv z<|snn<|t1<|lM hm (fun n h s=>∃c0 c1 c2 c3 c4 c5 U,m3 e7 U∧Cat KDNode U c2 n.1∧Bnd 56 n.1∧Cat (Kind.int .i64) U c5 n.2.1∧Bnd 8 n.2.1∧h [(3,pP f 0),(5,pP I 0),(11,iV e6.1),(12,sl c3 n.2.1 c4),(95,sl a6 a0.Kids a7),(96,lV a0.Kids),(97,nV n.2.2)]∧s U [bK c #[iV a1,sl c0 n.1 c1] 28,mapv t0 d E,bK f #[pP c 0] 134,bK I #[.map (some d)] 79,rowo c0 n.1.length c1 71 4 c2,rowo c3 n.2.1.length c4 3 1 c5]) ?_ ?_
  ·exact n6 3 1 fun a w ha hs=>⟨jC,jD,jE,none,0,[],e7,(l0 _),jF,jG,(show Cat (Kind.int .i64) _ [] [] from z),r8,cv ha,(am [2,6,1,3,1,0] hs z)⟩
  rintro n mh mi hm hk a w ⟨c0,c1,c2,c3,c4,c5,U,c6,hl,hn,ho,jH,ha,hs⟩
  refine us ha hs<|ssr<|yv (r2 z z) z<|snn<|x1<|cP hm z (fun jI hm=>?_) fun mj hm=>?_
  ·refine skn<|x1<|t1<|ssr<|oS hm fun jJ jK hm=>?_
   obtain⟨mk,ml,jL,jM,jN⟩:=(x0 (s0 hj c6) V).nidx jK
   obtain⟨mm,mn,mo,mp,mq,mr,rfl,jO,jP,jQ⟩:=DExpr.opn jM
   refine yv (t2 jL el z z) z<|yv (v1 z (k3 jN m7)) z<|aa eK z fun ms=>sN m7 z z<|snn<|q0<|mv z<|ld 3 eF z<|lk 0 m7 z z<|ld 4 cj z<|pk5<|pk3<|pk3<|oS hm fun gQ jR hm=>cl (C (a0:=jJ) jO jP jQ hl hn (p2 (s0 hj c6) q) jR) z z<|?_
   rintro _ jT _ ⟨jU,jV,jW,rfl,jX,jY,rfl⟩ hp
   refine v3 (e:=3) (cells:=#[iV gQ.1]) (A2 z) (fun _=>by kernel_rfl) z p1 fun mu=>oS hm fun jZ hq hm=>?_
   cases hm
   exact pk7<|pL hq y9 z z z z z (g4 hp ho) ⟨[iV gQ.1],_,z,z,z⟩ z fun j0 j1 j2 j3=>sg z<|u1<|f2<|s4<|q0<|yv (s3 (j:=1) z z z (by have q_0:=jI;have q_1:=V.bnd.2;omega)) z<|mv z<|snn fun a w ha hs=>⟨(gQ.2,jZ,n.2.2+1),aL hk,jU,jV,jW,j0,j1,j2,jT,(s0 c6 hp),jX,jY,j3,(f4 hq),cv ha,(am [1,1,3,3,1,0] hs z)⟩
  cases hm
  obtain rfl:=aR hk
  exact u4<|p0<|p0<|u3 fun a w ha hs=>⟨c0,c1,c2,c3,c4,c5,U,c6,hl,hn,ho,jH,cv ha,(am [0,0,0,1,1] hs z)⟩
 rintro⟨K,a4,e8,e9,f0,gP,a5,mx,hr,j4,j5,j6,ha,hs⟩
 refine us ha hs<|ssr<|ld 2 eF z<|yv (t4 z) z<|fa v4 z<|ld 0 m8 z<|mv z<|mv z<|oS hm fun my ht hm=>?_
 obtain⟨j7,j8,mz,j9,mA⟩:=hr.idx ht
 obtain⟨mB,mC,rfl,mD⟩:=DNode.opn j9
 refine s9 3 z (by omega) fun ka=>yv (t2 (f8 ka j7 j8) bz z z) z<|yv (bg (v:=(.pointer (some ⟨bk K,bo K+(e6.1.toNat*4+3),none⟩))) z (fieldA (off:=3) (fun _=>by kernel_rfl))) z<|pk4<|fz z j5 j6 fun mE kb kc=>oS hm fun mF gR hm=>St.putKf (R:=[bK c #[iV a1,sl K m.1 a4] 28,mapv t0 d E,bK f #[pP c 0] 134]) (fo:=3) ht gR (g4 kb hr) (fun cs_ R_=>by obtain⟨mG,mH,rfl,y_0⟩:=DNode.opn R_;exact(DNode.shut kc)) z z z z 3 z z n9 z p1 fun kd ke=>?_
 try (dsimp only [sl];rw [upd_len gR])
 cases hm
 exact snn<|ssr<|mv z<|sg z<|snn<|u2<|k0 z z ⟨K,a4,kd,z,ke,(Bnd.of_upd j4 gR),z⟩ (aF [1,1,0] z)
theorem cd:∀{g},cr g
 |0=>by intros;rename_i hm;exact nN hm
 |_+1=>eR cd
theorem dX {a0:DGoal}(Q:Fsl 16 Kind.str F d f a0.Vars) (a9:Fsl 16 Kind.str F i k a0.E.Names) (b0:Fsl 104 KDExpr F l m a0.E.Kids) (b1:Fsl 160 KDAlt F n o a0.E.Alts) (hm:m_graph_BuildOf g a0=some r):
    CallSp Tryz.prog 48 #[.agg (gm a0 d f i k l m n o)] F [] (fun u F' H'=>∃R S U V,u=(.tuple #[.agg #[iV r.1.Root,sl R r.1.Nodes S],sl U r.2 V])∧Fsl 56 KDNode F' R S r.1.Nodes∧Fsl 8 (Kind.int .i64) F' U V r.2∧H'=[]):=by
 unfold m_graph_BuildOf at hm
 refine f1 Tryz.func48 z z fun e7 e8 e9=>ssr<|ba z fun p=>aa ab z fun q=>sg z<|snn<|ssr<|aa ab z fun t=>snn<|ssr<|sg z<|snn<|ssr<|n4 (P:=Tryz.prog) t0 p1 z fun x=>sg z<|snn<|oC hm (fun c h s=>∃J K L y A M N,Cat KDNode F L c.1∧Bnd 56 c.1∧Cat (Kind.int .i64) F M c.2.1∧Bnd 8 c.2.1∧Mrel (Kind.int .i64) false F N c.2.2∧h [(1,pP p 0),(2,pP q 0),(4,pP t 0),(5,sl y c.2.1 A),(6,.map (some x))]∧s F [bK p (gm a0 d f i k l m n o) 69,bK q #[iV 0,nS] 28,bK t #[iV 0,sl J c.1 K] 28,mapv t0 x N,rowo J c.1.length K 71 4 L,rowo y c.2.1.length A 3 1 M]) (fun c hm=>?_) fun c hm a w=>?_
 ·refine ssr<|fa cz z<|ld 3 aJ z<|yv (u0 bj z) z<|mv z<|snn<|t1<|lM hm (fun b h s=>∃B C D E G H I,Cat KDNode F D b.1∧Bnd 56 b.1∧Cat (Kind.int .i64) F H b.2.1∧Bnd 8 b.2.1∧Mrel (Kind.int .i64) false F I b.2.2.1∧h [(1,pP p 0),(2,pP q 0),(4,pP t 0),(5,sl E b.2.1 G),(6,.map (some x)),(11,sl d a0.Vars f),(12,lV a0.Vars),(13,nV b.2.2.2)]∧s F [bK p (gm a0 d f i k l m n o) 69,bK q #[iV 0,nS] 28,bK t #[iV 0,sl B b.1 C] 28,mapv t0 x I,rowo B b.1.length C 71 4 D,rowo E b.2.1.length G 3 1 H]) ?_ ?_
  ·exact n6 71 4<|n6 3 1 fun a w ha hs=>⟨none,0,[],none,0,[],[],(show Cat KDNode _ [] [] from z),r8,(show Cat (Kind.int .i64) _ [] [] from z),r8,(mN (Kind.int .i64) false),cv ha,(am [5,4,3,2,1,0] hs z)⟩
  rintro b fo f0 hm W a w ⟨B,C,D,E,G,H,I,X,b2,Y,b3,Z,ha,hs⟩
  refine us ha hs<|ssr<|yv (r2 z z) z<|snn<|x1<|cP hm z (fun b4 hm=>?_) fun gP hm=>?_
  ·refine skn<|x1<|t1<|ssr<|mv z<|oS hm fun gQ b9 hm=>?_
   obtain⟨gR,gS,cs,cu,c0⟩:=Q.nidx b9
   obtain rfl:=cu
   refine yv (t2 cs bM z z) z<|yv (v1 z (k5 c0 r9 z)) z<|sg z<|sg z<|snn<|ssr<|fa v4 z<|ld 2 m8 z<|yv (v2 (v:=(.agg #[iV 6,sV [],iV 0,nS])) (A2 z) (fun _=>by kernel_rfl)) z<|v3 (e:=71) (cells:=#[iV 6,sV [],iV 0,nS]) (A2 z) (fun _=>by kernel_rfl) z p1 fun gT=>oS hm fun a1 a2 hm=>pk5<|pL a2 bz z z z z z X ⟨[iV 6,sV [],iV 0,nS],_,z,(DNode.shut r3),z⟩ z fun a3 a4 c1 c2=>fa v4 z<|pk3<|sO m8 z z z z (cs':=#[iV 0,sl a3 a1 a4]) z<|snn<|ssr<|mv z<|mv z<|v3 (e:=3) (cells:=#[nV b.2.2.2]) (A2 z) (fun _=>by kernel_rfl) z p1 fun gU=>oS hm fun c3 a5 hm=>pk6<|pL a5 y9 z z z z z Y ⟨[nV b.2.2.2],_,z,z,z⟩ z fun c4 c5 c6 c7=>sg z<|snn<|q0<|mv z<|mv z<|mv z<|oS hm fun c8 c9 hm=>?_
   cases hm
   exact pk5<|mP c9 Z ⟨[nV b.2.2.2],z,z⟩ aj aq z fun d2 d3=>u1<|f2<|s4<|q0<|yv (s3 (j:=1) z z z (by have q_0:=b4;have q_1:=Q.bnd.2;omega)) z<|mv z<|snn fun a w ha hs=>⟨(a1,c3,c8,b.2.2.2+1),aL W,a3,a4,c1,c4,c5,c6,d2,c2,(f4 a2),c7,(f4 a5),d3,cv ha,(am [4,4,2,0,1,0] hs z)⟩
  cases hm
  obtain rfl:=aR W
  exact u4<|p0<|p0<|u3 fun a w ha hs=>⟨B,C,D,E,G,H,I,X,b2,Y,b3,Z,cv ha,(am [0,0,0,0,0,0] hs z)⟩
 rintro⟨J,K,L,y,A,M,N,d4,d5,d6,d7,d8,ha,hs⟩
 refine us ha hs<|ssr<|fa bV z<|yv (v1 z (n7 (vs:=[iV a0.E.Op,sV a0.E.Name,iV a0.E.N,sl i a0.E.Names k,sl l a0.E.Kids m,sl n a0.E.Alts o]) 0 z m7 z z)) z<|mv z<|pk4<|pk4<|pk4<|oS hm fun a6 d9 hm=>cl (cd (a0:=a0.E) a9 b0 b1 d4 d5 d8 d9) z z<|?_
 rintro _ gV _ ⟨a7,a8,gW,rfl,e0,e1,rfl⟩ e2
 cases hm
 exact fa y8 z<|sO r6 z z z z (cs':=#[iV a6.1,sl a7 a6.2 a8]) z<|snn<|ssr<|lk 0 s5 z z<|mv z<|pk4<|sN s5 z z<|sg z<|snn<|u2<|pk3<|fz z e0 e1 fun gX e3 e4=>pk4<|fz z (g4 (s0 e2 e3) d6) d7 fun gY e5 e6=>x9 z (m4 z (w5 0 s5 z)) z ⟨a7,a8,y,A,z,(x0 e5 e4),e6,z⟩ (aF [] z)
abbrev bD (g:Nat):Prop:=∀{F a0 a1 a2 a3 a4 a b c d h i j k l m e f}(v:Cat (Kind.int .i64) F j a1) (w:Bnd 8 a1) (x:Cat (Kind.int .i64) F m a2) (y:Bnd 8 a2) (A:Fsl 56 KDNode F e f a4) {r}(_:m_graph_Tidy_f1 g a0 a1 a2 a3 a4=some r),
    CallSp Tryz.prog 52 #[iV a0,pP a 0,pP b 0,pP c 0,pP d 0] F [bK a #[sl h a1 i] 29,bK b #[sl k a2 l] 29,bK c #[iV a3,sl e a4 f] 28,bK d #[.func (.func 52) #[] #[pP a 0,pP b 0,pP c 0,pP d 0]] 122,rowo h a1.length i 3 1 j,rowo k a2.length l 3 1 m] (fun u F' H'=>∃n o p q s t,u=(.tuple #[])∧Cat (Kind.int .i64) F' p r.1∧Bnd 8 r.1∧Cat (Kind.int .i64) F' t r.2∧Bnd 8 r.2∧H'=[bK a #[sl n r.1 o] 29,bK b #[sl q r.2 s] 29,bK c #[iV a3,sl e a4 f] 28,bK d #[.func (.func 52) #[] #[pP a 0,pP b 0,pP c 0,pP d 0]] 122,rowo n r.1.length o 3 1 p,rowo q r.2.length s 3 1 t])
theorem dW (X:bD g):bD (g+1):=by
 intro F a0 a1 a2 a3 a4 f i k c u x Y y A D E G l H I Z J r hm
 rw [m_graph_Tidy_f1] at hm
 refine f1 Tryz.func52 z z fun e4 e6 e7=>x1<|ssr<|ld 0 n9 z<|mv z<|oS hm fun e8 a5 hm=>?_
 obtain⟨a6,a7,e9,a8,a9⟩:=l.idx a5
 obtain rfl:=a8
 refine s9 4 z (by omega) fun K=>yv (t2 (f8 K a6 a7) y9 z z) z<|yv (v1 z (aI 4 z r6 (a9 0 _ z))) z<|yv (u5 z z) z<|snn<|cP hm z (fun fo hm=>?_) fun f0 hm=>?_
 ·cases hm
  exact u2<|v0<|St.doneR0 z ⟨u,x,Y,y,A,D,z,l,H,I,Z,z⟩ (aF [0,0,0,0,0,0] z)
 refine skn<|ssr<|ld 0 n9 z<|mv z<|ld 1 n9 z<|yv (u0 aE z) z<|oS hm fun gP b0 hm=>?_
 obtain⟨b1,b2,gQ,b3,gR⟩:=l.idx b0
 obtain rfl:=b3
 refine yv (t2 (f8 K b1 b2) y9 z z) z<|oS hm fun gS B hm=>St.putK1 (R:=[bK f #[sl u a1 x] 29,bK i #[sl y a2 A] 29,bK k #[iV a3,sl E a4 G] 28,bK c #[.func (.func 52) #[] #[pP f 0,pP i 0,pP k 0,pP c 0]] 122,rowo y a2.length A 3 1 D]) B l (show((Kind.int .i64)).R _ [lV a2] (nI a2.length) from z) z z z 4 z z r6 z p1 fun b4 b5=>?_
 try (dsimp only [sl];rw [upd_len B])
 refine snn<|ssr<|ld 2 n9 z<|mv z<|v3 (e:=3) (cells:=#[iV a0]) (A2 z) (fun _=>by kernel_rfl) z p1 fun gT=>oS hm fun gU L hm=>pk6<|pL L y9 z z z z z I ⟨[iV a0],_,z,z,z⟩ z fun b6 b7 b8 b9=>pk3<|s1 n9 z<|snn<|ssr<|fa v4 z<|ld 4 m8 z<|mv z<|oS hm fun M cs hm=>?_
 obtain⟨cu,gV,c0,c1,c2⟩:=J.idx cs
 obtain⟨c3,c4,rfl,N⟩:=DNode.opn c1
 refine yv (t2 c0 bz z z) z<|yv (bg (v:=(.pointer (some (cu.add 3)))) z (fun _=>by kernel_rfl)) z<|yv (v1 z (Loads.Fatk 3 c2 n9 z)) z<|yv (u0 aE z) z<|mv z<|snn<|t1<|lM hm (fun b h s=>∃m n o p q t d,m3 F d∧Cat (Kind.int .i64) d o b.1∧Bnd 8 b.1∧Cat (Kind.int .i64) d t b.2.1∧Bnd 8 b.2.1∧h [(4,pP c 0),(27,sl c3 M.Kids c4),(28,lV M.Kids),(29,nV b.2.2)]∧s d [bK f #[sl m b.1 n] 29,bK i #[sl p b.2.1 q] 29,bK k #[iV a3,sl E a4 G] 28,bK c #[.func (.func 52) #[] #[pP f 0,pP i 0,pP k 0,pP c 0]] 122,rowo m b.1.length n 3 1 o,rowo p b.2.1.length q 3 1 t]) ?_ ?_
 ·intro a w ha hs
  exact⟨u,x,b4,b6,b7,b8,F,(l0 _),b5,(Bnd.of_upd H B),b9,(f4 L),cv ha,(am [3,0,2,2,1,0] hs z)⟩
 rintro b gW gX hm P a w ⟨m,n,o,p,q,t,d,C,Q,S,U,V,ha,hs⟩
 refine us ha hs<|ssr<|yv (r2 z z) z<|snn<|x1<|cP hm z (fun c5 hm=>?_) fun gY hm=>?_
 ·refine skn<|x1<|t1<|ssr<|oS hm fun gZ c6 hm=>?_
  obtain⟨g0,g1,c7,c8,c9⟩:=(x0 C N).nidx c6
  obtain rfl:=c8
  refine yv (t2 c7 y9 z z) z<|yv (v1 z (k5 c9 r6 z)) z<|sg z<|snn<|q0<|ld 3 ga z<|mv z<|pk5<|pk5<|pk5<|pk5<|pk5<|pk5<|oS hm fun W d1 hm=>cl (X Q S U V (x0 C J) d1) z z<|?_
  rintro _ d2 _ ⟨d3,d4,d5,d6,d7,d8,rfl,d9,e0,e1,e2,rfl⟩ e3
  cases hm
  exact u1<|f2<|s4<|q0<|yv (s3 (j:=1) z z z (by have q_0:=c5;have q_1:=N.bnd.2;omega)) z<|mv z<|snn fun a w ha hs=>⟨(W.1,W.2,b.2.2+1),aL P,d3,d4,d5,d6,d7,d8,d2,(s0 C e3),d9,e0,e1,e2,cv ha,(am [0,0,0,0,0,0] hs z)⟩
 cases hm
 obtain rfl:=aR P
 exact u4<|p0<|p0<|u3<|St.endR0 z ⟨m,n,o,p,q,t,z,Q,S,U,V,z⟩ (aF [0,0,0,0,0,0] z)
theorem bn:∀{g},bD g
 |0=>by intros;rename_i hm;exact nN hm
 |_+1=>dW bn
theorem ac {a0:DGraph}(c6:Fsl 56 KDNode F y A a0.Nodes) (a7:Fsl 8 (Kind.int .i64) F o p a1) (hm:m_graph_Tidy g a0 a1=some r):
    CallSp Tryz.prog 23 #[.agg #[iV a0.Root,sl y a0.Nodes A],sl o a1 p] F [] (fun u F' H'=>∃d9 e0 e1 e2,u=(.tuple #[.agg #[iV r.1.Root,sl d9 r.1.Nodes e0],sl e1 r.2 e2])∧Fsl 56 KDNode F' d9 e0 r.1.Nodes∧Fsl 8 (Kind.int .i64) F' e1 e2 r.2∧H'=[]):=by
 unfold m_graph_Tidy at hm
 refine f1 Tryz.func23 z z fun jd je jf=>ssr<|ba z fun i=>aa ab z fun c=>sg z<|snn<|ssr<|fa v4 z<|ld 1 m8 z<|yv (u0 be z) z<|oS hm fun jg hi hm=>St.makeK (D:=(Kind.int .i64)) hi y9 eL z z z z z z p1 fun hj hk hl hn ho=>al gw z fun d=>s1 n9 z<|snn<|oC hm (fun S h s=>∃c7 c9 d2,Cat (Kind.int .i64) F d2 S∧Bnd 8 S∧h [(1,sl o a1 p),(2,pP i 0),(4,pP c 0),(6,pP d 0)]∧s F [bK i #[iV a0.Root,sl y a0.Nodes A] 28,bK c #[iV 0,nS] 28,bK d #[sl c7 S c9] 29,rowo c7 S.length c9 3 1 d2]) (fun S hm=>?_) fun S hm a w=>?_
 ·refine ssr<|ld 0 n9 z<|yv (u0 aE z) z<|mv z<|snn<|t1<|lM hm (fun t h s=>∃U V a8,Cat (Kind.int .i64) F a8 t.1∧Bnd 8 t.1∧h [(1,sl o a1 p),(2,pP i 0),(4,pP c 0),(6,pP d 0),(27,nV t.2.1),(28,iV t.2.2)]∧s F [bK i #[iV a0.Root,sl y a0.Nodes A] 28,bK c #[iV 0,nS] 28,bK d #[sl U t.1 V] 29,rowo U t.1.length V 3 1 a8]) ?_ ?_
  ·intro a w ha hs
   exact⟨(bA hj),hk,hl,hn,ho,cv ha,(am [3,2,0,0] hs z)⟩
  rintro t jh ji hm e3 a w ⟨U,V,a8,d3,e4,ha,hs⟩
  refine us ha hs<|ssr<|yv (r2 z z) z<|snn<|x1<|cP hm z (fun jj hm=>?_) fun jk hm=>?_
  ·refine skn<|x1<|t1<|ssr<|mv z<|sg z<|snn<|q0<|ld 2 n9 z<|mv z<|oS hm fun jl hp hm=>?_
   obtain⟨hq,hr,jm,ht,jn⟩:=d3.idx hp
   obtain rfl:=ht
   refine s9 3 z (by omega) fun hu=>yv (t2 (f8 hu hq hr) y9 z z) z<|oS hm fun hv d4 hm=>St.putK1 (R:=[bK i #[iV a0.Root,sl y a0.Nodes A] 28,bK c #[iV 0,nS] 28,bK d #[sl U t.1 V] 29]) d4 d3 (show((Kind.int .i64)).R _ [iV (-1)] (-1) from z) z z z 3 z z r6 z p1 fun hw hx=>?_
   try (dsimp only [sl];rw [upd_len d4])
   cases hm
   exact u1<|f2<|s4<|q0<|yv (Yields.addw z z) z<|mv z<|snn fun a w ha hs=>⟨(hv,t.2.1,Mir.w64 (t.2.2+1)),aL e3,U,V,hw,hx,(Bnd.of_upd e4 d4),cv ha,(am [1,1,1,0] hs z)⟩
  cases hm
  obtain rfl:=aR e3
  exact u4<|p0<|p0<|u3 fun a w ha hs=>⟨U,V,a8,d3,e4,cv ha,(am [0,0,0,0] hs z)⟩
 rintro⟨c7,c9,d2,hy,hz,ha,hs⟩
 refine us ha hs<|ssr<|aa ab z fun k=>snn<|ssr<|al gw z fun a2=>snn<|ssr<|al gB z fun d5=>snn<|ssr<|yv (aH (fun _ _=>ev0) (fun _ ha=>ev4 ha z z z z)) z<|s1 ga z<|snn<|ssr<|ld 0 ga z<|fa y8 z<|ld 3 r6 z<|n6 3 1<|pk7<|pk2<|pk5<|pk4<|pk7<|oS hm fun jo hA hm=>cl (bn hy hz (show Cat (Kind.int .i64) _ [] [] from z) r8 c6 hA) z z<|?_
 rintro _ d6 _ ⟨hB,hC,hD,hE,hF,hG,rfl,hH,hI,hJ,hK,rfl⟩ a9
 refine snn<|oC hm (fun b h s=>∃l m G B C W H,m3 d6 H∧Cat (Kind.int .i64) H G b.1∧Bnd 8 b.1∧Cat (Kind.int .i64) H W b.2∧Bnd 8 b.2∧h [(1,sl o a1 p),(2,pP i 0),(4,pP c 0),(6,pP d 0),(8,pP k 0),(9,pP a2 0)]∧s H [bK i #[iV a0.Root,sl y a0.Nodes A] 28,bK c #[iV 0,nS] 28,bK d #[sl l b.1 m] 29,bK k #[iV 0,nS] 28,bK a2 #[sl B b.2 C] 29,rowo l b.1.length m 3 1 G,rowo B b.2.length C 3 1 W]) (fun b hm=>?_) fun b hm a w=>?_
 ·refine ssr<|mv z<|yv (u0 aE z) z<|mv z<|snn<|t1<|lM hm (fun q h s=>∃b0 b1 b2 b5 b6 b7 X,m3 d6 X∧Cat (Kind.int .i64) X b2 q.1∧Bnd 8 q.1∧Cat (Kind.int .i64) X b7 q.2.1∧Bnd 8 q.2.1∧h [(1,sl o a1 p),(2,pP i 0),(4,pP c 0),(6,pP d 0),(8,pP k 0),(9,pP a2 0),(10,pP d5 0),(40,sl o a1 p),(41,lV a1),(42,nV q.2.2)]∧s X [bK i #[iV a0.Root,sl y a0.Nodes A] 28,bK c #[iV 0,nS] 28,bK d #[sl b0 q.1 b1] 29,bK k #[iV 0,nS] 28,bK a2 #[sl b5 q.2.1 b6] 29,bK d5 #[.func (.func 52) #[] #[pP d 0,pP a2 0,pP i 0,pP d5 0]] 122,rowo b0 q.1.length b1 3 1 b2,rowo b5 q.2.1.length b6 3 1 b7]) ?_ ?_
  ·intro a w ha hs
   exact⟨hB,hC,hD,hE,hF,hG,d6,(l0 _),hH,hI,hJ,hK,cv ha,(am [2,6,0,4,0,0,0,0] hs z)⟩
  rintro q jp jq hm e5 a w ⟨b0,b1,b2,b5,b6,b7,X,b8,e7,e8,e9,fo,ha,hs⟩
  refine us ha hs<|ssr<|yv (r2 z z) z<|snn<|x1<|cP hm z (fun hL hm=>?_) fun jr hm=>?_
  ·refine skn<|x1<|t1<|ssr<|oS hm fun js hM hm=>?_
   obtain⟨jt,ju,hN,hO,hP⟩:=(x0 (s0 a9 b8) a7).nidx hM
   obtain rfl:=hO
   refine yv (t2 hN y9 z z) z<|yv (v1 z (k5 hP r6 z)) z<|sg z<|snn<|q0<|ld 5 ga z<|mv z<|pk7<|pk7<|pk7<|pk3<|pk7<|pk6<|oS hm fun f0 hQ hm=>cl (bn e7 e8 e9 fo (x0 (s0 a9 b8) c6) hQ) z z<|?_
   rintro _ hR _ ⟨hS,hT,hU,hV,hW,hX,rfl,hY,hZ,h0,h1,rfl⟩ h2
   cases hm
   exact u1<|f2<|s4<|q0<|yv (s3 (j:=1) z z z (by have q_0:=hL;have q_1:=a7.bnd.2;omega)) z<|mv z<|snn fun a w ha hs=>⟨(f0.1,f0.2,q.2.2+1),aL e5,hS,hT,hU,hV,hW,hX,hR,(s0 b8 h2),hY,hZ,h0,h1,cv ha,(am [2,5,0,4,0,0,0,0] hs z)⟩
  cases hm
  obtain rfl:=aR e5
  exact u4<|p0<|p0<|u3 fun a w ha hs=>⟨b0,b1,b2,b5,b6,b7,X,b8,e7,e8,e9,fo,cv ha,(am [0,0,0,0,0,1,1] hs z)⟩
 rintro⟨l,m,G,B,C,W,H,gP,gQ,jv,h3,h4,ha,hs⟩
 refine us ha hs<|oC hm (fun x h s=>∃I J a3 K,m3 H K∧Cat KDNode K a3 x∧Bnd 56 x∧h [(1,sl o a1 p),(4,pP c 0),(6,pP d 0),(8,pP k 0)]∧s K [bK c #[iV 0,nS] 28,bK d #[sl l b.1 m] 29,bK k #[iV 0,sl I x J] 28,rowo I x.length J 71 4 a3,rowo l b.1.length m 3 1 G]) (fun x hm=>?_) fun x hm a w=>?_
 ·refine ssr<|ld 4 n9 z<|yv (u0 aE z) z<|mv z<|snn<|t1<|lM hm (fun n h s=>∃L M Y E,m3 H E∧Cat KDNode E Y n.1∧Bnd 56 n.1∧h [(1,sl o a1 p),(2,pP i 0),(4,pP c 0),(6,pP d 0),(8,pP k 0),(50,sl B b.2 C),(51,lV b.2),(52,nV n.2)]∧s E [bK i #[iV a0.Root,sl y a0.Nodes A] 28,bK c #[iV 0,nS] 28,bK d #[sl l b.1 m] 29,bK k #[iV 0,sl L n.1 M] 28,rowo L n.1.length M 71 4 Y,rowo l b.1.length m 3 1 G,rowo B b.2.length C 3 1 W]) ?_ ?_
  ·exact n6 71 4 fun a w ha hs=>⟨none,0,[],H,(l0 _),(show Cat KDNode _ [] [] from z),r8,cv ha,(am [1,1,1,1,0,1,1] hs z)⟩
  rintro n jw jy hm gR a w ⟨L,M,Y,E,a4,gS,h5,ha,hs⟩
  refine us ha hs<|ssr<|yv (r2 z z) z<|snn<|x1<|cP hm z (fun h6 hm=>?_) fun jz hm=>?_
  ·refine skn<|x1<|t1<|ssr<|oS hm fun jA h7 hm=>?_
   obtain⟨h8,h9,jB,ia,ib⟩:=(g4 a4 h3).nidx h7
   obtain rfl:=ia
   refine s9 6 z (by omega) fun ic=>yv (t2 (f8 ic h8 h9) y9 z z) z<|yv (v1 z (aI 6 z r6 (ib 0 _ z))) z<|sg z<|snn<|ssr<|fa v4 z<|ld 0 m8 z<|mv z<|oS hm fun f ie hm=>?_
   obtain⟨jC,jD,ig,ih,ii⟩:=(x0 (s0 a9 (s0 gP a4)) c6).idx ie
   obtain⟨ij,ik,rfl,gT⟩:=DNode.opn ih
   refine yv (t2 ig bz z z) z<|yv (v1 z (k3 ii ak)) z<|aa cR z fun jE=>sN ak z z<|snn<|ssr<|fa v5 z<|ld 0 r6 z<|fa u6 z<|ld 0 r9 z<|fa w8 z<|ld 0 r6 z<|yv (v2 (v:=(.agg #[iV f.Op,sV f.Name,iV f.N,nS])) (A2 z) (fun _=>by kernel_rfl)) z<|aa cR z fun b9=>sN ak z z<|snn<|oC hm (fun N h s=>∃a5 a6 d7,Cat (Kind.int .i64) E d7 N∧Bnd 8 N∧h [(1,sl o a1 p),(2,pP i 0),(4,pP c 0),(6,pP d 0),(8,pP k 0),(16,pP b9 0),(50,sl B b.2 C),(51,lV b.2),(52,nV n.2)]∧s E [bK i #[iV a0.Root,sl y a0.Nodes A] 28,bK c #[iV 0,nS] 28,bK d #[sl l b.1 m] 29,bK k #[iV 0,sl L n.1 M] 28,bK b9 #[iV f.Op,sV f.Name,iV f.N,sl a5 N a6] 71,rowo L n.1.length M 71 4 Y,rowo a5 N.length a6 3 1 d7,rowo l b.1.length m 3 1 G,rowo B b.2.length C 3 1 W]) (fun N hm=>?_) fun N hm a w=>?_
   ·refine ssr<|fa r5 z<|ld 1 n9 z<|yv (u0 aE z) z<|mv z<|snn<|t1<|lM hm (fun P h s=>∃cs cu c0,Cat (Kind.int .i64) E c0 P.1∧Bnd 8 P.1∧h [(1,sl o a1 p),(2,pP i 0),(4,pP c 0),(6,pP d 0),(8,pP k 0),(16,pP b9 0),(50,sl B b.2 C),(51,lV b.2),(52,nV n.2),(69,sl ij f.Kids ik),(70,lV f.Kids),(71,nV P.2)]∧s E [bK i #[iV a0.Root,sl y a0.Nodes A] 28,bK c #[iV 0,nS] 28,bK d #[sl l b.1 m] 29,bK k #[iV 0,sl L n.1 M] 28,bK b9 #[iV f.Op,sV f.Name,iV f.N,sl cs P.1 cu] 71,rowo L n.1.length M 71 4 Y,rowo cs P.1.length cu 3 1 c0,rowo l b.1.length m 3 1 G,rowo B b.2.length C 3 1 W]) ?_ ?_
    ·exact n6 3 1 fun a w ha hs=>⟨none,0,[],(show Cat (Kind.int .i64) _ [] [] from z),r8,cv ha,(am [3,3,3,3,1,2,0,1,1] hs z)⟩
    rintro P jF jG hm gU a w ⟨cs,cu,c0,gV,il,ha,hs⟩
    refine us ha hs<|ssr<|yv (r2 z z) z<|snn<|x1<|cP hm z (fun im hm=>?_) fun jH hm=>?_
    ·refine skn<|x1<|t1<|ssr<|oS hm fun jI io hm=>?_
     obtain⟨jJ,jK,ip,iq,ir⟩:=gT.nidx io
     obtain rfl:=iq
     refine yv (t2 ip y9 z z) z<|yv (v1 z (k5 ir r6 z)) z<|sg z<|snn<|ds [7,9] hmix<|tp 0 z (fun _=>w3 r5 z) z z<|tk [0,3,4,8] 1 z (p3 4 n9 z) z z k1<|tk [0,3,4,8] 2 z (p3 2 n9 z) z z k1<|tp 3 z (fun _=>x2 z) z z<|oS hm fun gW it hm=>?_
     obtain⟨iu,iv,jL,iw,ix⟩:=(g4 a4 gQ).idx it
     obtain rfl:=iw
     refine s9 7 z (by omega) fun iy=>tp 4 z (fun _=>t2 (f8 iy iu iv) y9 z z) z z<|tk [0,3,4,8] 5 z (v1 z (aI 7 z r6 (ix 0 _ z))) z z k1<|oN 6 z z fun iz=>v3 (e:=3) (cells:=#[iV gW]) (A2 z) (fun _=>by kernel_rfl) z p1 fun jM=>m1 iz (fun _=>(aF [1,1,1,1,1,1,1,1,1] z))<|oN 7 z z fun iA=>oS hm fun gX gY hm=>?_
     cases hm
     exact pk7<|pL gY y9 z z z z z gV ⟨[iV gW],_,z,z,z⟩ z fun gZ g0 iB iC=>m1 iA (fun h=>by cases h)<|tp 8 z (fun _=>w3 r5 z) z z<|oN 9 z z fun iD=>pk5<|sO n9 z z z z (cs':=#[iV f.Op,sV f.Name,iV f.N,sl gZ gX g0]) z<|m1 iD (fun h=>by cases h)<|dn<|f2<|s4<|q0<|yv (s3 (j:=1) z z z (by have q_0:=im;have q_1:=gT.bnd.2;omega)) z<|mv z<|snn fun a w ha hs=>⟨(gX,P.2+1),aL gU,gZ,g0,iB,iC,(f4 gY),cv ha,(am [2,2,2,2,0,1,0,0,0] hs z)⟩
    cases hm
    obtain rfl:=aR gU
    exact u4<|p0<|p0<|u3 fun a w ha hs=>⟨cs,cu,c0,gV,il,cv ha,(am [0,0,0,0,0,0,0,0,0] hs z)⟩
   rintro⟨a5,a6,d7,iE,iG,ha,hs⟩
   refine us ha hs<|q0<|fa v4 z<|ld 3 m8 z<|lk 4 ak z z<|pk6<|fz z iE iG fun iH g1 iI=>v3 (e:=71) (cells:=#[iV f.Op,sV f.Name,iV f.N,sl a5 N a6]) (A2 z) (fun _=>by kernel_rfl) z p1 fun jN=>oS hm fun g2 g3 hm=>?_
   cases hm
   exact pk6<|pL g3 bz z z z z z (g4 g1 gS) ⟨[iV f.Op,sV f.Name,iV f.N,sl a5 N a6],_,z,(DNode.shut iI),z⟩ z fun hb hc iJ iK=>fa v4 z<|pk4<|sO m8 z z z z (cs':=#[iV 0,sl hb g2 hc]) z<|u1<|f2<|s4<|q0<|yv (s3 (j:=1) z z z (by have q_0:=h6;have q_1:=h4.2;omega)) z<|mv z<|snn fun a w ha hs=>⟨(g2,n.2+1),aL gR,hb,hc,iJ,iH,(s0 a4 g1),iK,(f4 g3),cv ha,(am [2,2,2,0,0,1,1] hs z)⟩
  cases hm
  obtain rfl:=aR gR
  exact u4<|p0<|p0<|u3 fun a w ha hs=>⟨L,M,Y,E,a4,gS,h5,cv ha,(am [1,1,1,1,1] hs z)⟩
 rintro⟨I,J,a3,K,hd,iL,iM,ha,hs⟩
 refine us ha hs<|ssr<|sg z<|snn<|oC hm (fun Z h s=>∃c1 c2 d8,Cat (Kind.int .i64) K d8 Z∧Bnd 8 Z∧h [(4,pP c 0),(8,pP k 0),(19,sl c1 Z c2)]∧s K [bK c #[iV 0,nS] 28,bK k #[iV 0,sl I x J] 28,rowo I x.length J 71 4 a3,rowo c1 Z.length c2 3 1 d8]) (fun Z hm=>?_) fun Z hm a w=>?_
 ·refine ssr<|mv z<|yv (u0 aE z) z<|mv z<|snn<|t1<|lM hm (fun Q h s=>∃c3 c4 c5,Cat (Kind.int .i64) K c5 Q.1∧Bnd 8 Q.1∧h [(4,pP c 0),(6,pP d 0),(8,pP k 0),(19,sl c3 Q.1 c4),(92,sl o a1 p),(93,lV a1),(94,nV Q.2)]∧s K [bK c #[iV 0,nS] 28,bK d #[sl l b.1 m] 29,bK k #[iV 0,sl I x J] 28,rowo I x.length J 71 4 a3,rowo c3 Q.1.length c4 3 1 c5,rowo l b.1.length m 3 1 G]) ?_ ?_
  ·exact n6 3 1 fun a w ha hs=>⟨none,0,[],(show Cat (Kind.int .i64) _ [] [] from z),r8,cv ha,(am [1,1,1,1,0,0] hs z)⟩
  rintro Q jO jP hm he a w ⟨c3,c4,c5,hf,iN,ha,hs⟩
  refine us ha hs<|ssr<|yv (r2 z z) z<|snn<|x1<|cP hm z (fun iO hm=>?_) fun jQ hm=>?_
  ·refine skn<|x1<|t1<|ssr<|oS hm fun jR iP hm=>?_
   obtain⟨jT,jU,iQ,iR,iU⟩:=(x0 (s0 a9 (s0 gP hd)) a7).nidx iP
   obtain rfl:=iR
   refine yv (t2 iQ y9 z z) z<|yv (v1 z (k5 iU r6 z)) z<|sg z<|snn<|q0<|mv z<|ld 1 n9 z<|mv z<|oS hm fun hg iW hm=>?_
   obtain⟨iX,iY,jV,iZ,i0⟩:=(g4 hd gQ).idx iW
   obtain rfl:=iZ
   refine s9 5 z (by omega) fun i1=>yv (t2 (f8 i1 iX iY) y9 z z) z<|yv (v1 z (aI 5 z r6 (i0 0 _ z))) z<|v3 (e:=3) (cells:=#[iV hg]) (A2 z) (fun _=>by kernel_rfl) z p1 fun jW=>oS hm fun i2 hh hm=>?_
   cases hm
   exact pk5<|pL hh y9 z z z z z hf ⟨[iV hg],_,z,z,z⟩ z fun i3 i4 i5 i6=>sg z<|u1<|f2<|s4<|q0<|yv (s3 (j:=1) z z z (by have q_0:=iO;have q_1:=a7.bnd.2;omega)) z<|mv z<|snn fun a w ha hs=>⟨(i2,Q.2+1),aL he,i3,i4,i5,i6,(f4 hh),cv ha,(am [1,1,1,1,0,0] hs z)⟩
  cases hm
  obtain rfl:=aR he
  exact u4<|p0<|p0<|u3 fun a w ha hs=>⟨c3,c4,c5,hf,iN,cv ha,(am [0,1,1,1] hs z)⟩
 rintro⟨c1,c2,d8,i7,i8,ha,hs⟩
 cases hm
 exact us ha hs<|ssr<|lk 1 s5 z z<|mv z<|sN s5 z z<|sg z<|snn<|u2<|pk2<|fz z iL iM fun jX i9 ja=>pk2<|fz z (g4 i9 i7) i8 fun jY jb jc=>x9 z (m4 z (w5 0 s5 z)) z ⟨I,J,c1,c2,z,(x0 jb ja),jc,z⟩ (aF [] z)
theorem ez {a0:DCore}{a1:DGoal}(o:Fsl 64 KDData F p q a0.Datas) (s:Fsl 144 KDFun F t w a0.Funs) (e:Fsl 16 Kind.str F x y a1.Vars) (f:Fsl 16 Kind.str F A B a1.E.Names) (h:Fsl 104 KDExpr F C D a1.E.Kids) (i:Fsl 160 KDAlt F E G a1.E.Alts) (hm:m_graph_Build g a0 a1=some r):
    CallSp Tryz.prog 20 #[.agg #[sl p a0.Datas q,sl t a0.Funs w],.agg (gm a1 x y A B C D E G)] F [] (fun u F' H'=>∃j k l m,u=(.tuple #[.agg #[iV r.1.Root,sl j r.1.Nodes k],sl l r.2.1 m,iV r.2.2])∧Fsl 56 KDNode F' j k r.1.Nodes∧Fsl 8 (Kind.int .i64) F' l m r.2.1∧H'=[]):=by
 unfold m_graph_Build at hm
 refine f1 Tryz.func20 z z fun V W X=>ssr<|ba z fun Y=>ba z fun Z=>aa ab z fun a2=>sg z<|sg z<|snn<|x1<|ssr<|lk 2 aX z z<|lk 1 gs z z<|oS hm fun n H hm=>cl (fj (a0:=a0) (a1:=a1) o s e f h i H) z z<|?_
 rintro _ a3 _ ⟨rfl,rfl⟩ b
 refine sg z<|snn<|ssr<|mv z<|yv (p4 z z) z<|snn<|?_
 refine m5 z ?_ ?_
 ·intro c
  replace c:¬(n=0):=nd_t c
  replace hm:=iF hm c
  cases hm
  exact ssr<|yv (v2 (v:=(.agg #[iV 0,nS])) (vs:=#[]) (fun a _=>by simp) (fun _=>by kernel_rfl)) z<|mv z<|sN s5 z z<|sg z<|sg z<|snn<|u2<|v0<|k6 z (m4 z (w5 0 s5 z)) z z ⟨none,0,none,0,z,r3,r3,z⟩ (aF [] z)
 intro d
 replace d:n=0:=nd_f d
 replace hm:=iT hm d
 refine skn<|ssr<|lk 1 gs z z<|oS hm fun I J hm=>cl (dX (a0:=a1) (x0 b e) (x0 b f) (x0 b h) (x0 b i) J) z z<|?_
 rintro _ a4 _ ⟨a5,a6,a7,a8,rfl,K,L,rfl⟩ a9
 refine mv z<|yv (r0 z z) z<|yv (r0 z z) z<|aa ab z fun b0=>sN s5 z z<|sg z<|snn<|ssr<|lk 0 s5 z z<|mv z<|oS hm fun b1 M hm=>cl (ac (a0:=I.1) K L M) z z<|?_
 rintro _ b2 _ ⟨N,P,Q,R,rfl,S,U,rfl⟩ b3
 refine mv z<|yv (r0 z z) z<|yv (r0 z z) z<|aa ab z fun b4=>sN s5 z z<|sg z<|snn<|x1<|ssr<|fa v4 z<|ld 0 m8 z<|yv (u0 be z) z<|yv (t5 z z) z<|snn<|cP hm z (fun b5 hm=>?_) fun b6 hm=>?_
 ·cases hm
  exact ssr<|yv (v2 (v:=(.agg #[iV 0,nS])) (vs:=#[]) (fun a _=>by simp) (fun _=>by kernel_rfl)) z<|pk2<|sN s5 z z<|sg z<|sg z<|snn<|u2<|v0<|k6 z (m4 z (w5 0 s5 z)) z z ⟨none,0,none,0,z,r3,r3,z⟩ (aF [] z)
 cases hm
 exact skn<|ssr<|lk 0 s5 z z<|mv z<|pk2<|sN s5 z z<|sg z<|sg z<|snn<|u2<|k6 z (m4 z (w5 0 s5 z)) z z ⟨N,P,Q,R,z,S,U,z⟩ (aF [] z)
theorem cq {a0:DGraph}(hT:Tab F) (P:Fsl 56 KDNode F Q R a0.Nodes) (hm:m_graph_Key g a0=some r):
    CallSp Tryz.prog 21 #[.agg #[iV a0.Root,sl Q a0.Nodes R]] F [] (fun u F' H'=>u=(sV r)∧H'=[]):=by
 unfold m_graph_Key at hm
 refine f1 Tryz.func21 z z fun e5 e6 e7=>ssr<|ba z fun e8=>sg z<|snn<|ssr<|lk 0 s5 z z<|oS hm fun c S hm=>cl (ac (a0:=a0) P r3 S) z z<|?_
 rintro _ A _ ⟨i,k,e9,fo,rfl,J,f0,rfl⟩ K
 refine mv z<|yv (r0 z z) z<|yv (r0 z z) z<|aa ab z fun gP=>sN s5 z z<|sg z<|snn<|ssr<|aa gC z fun b=>St.bld_new<|snn<|oC hm (fun B h s=>∃C,m3 A C∧h [(5,pP b 0)]∧s C [bld b B]) (fun B hm=>?_) fun B hm a w=>?_
 ·refine ssr<|fa v4 z<|ld 1 m8 z<|yv (u0 be z) z<|mv z<|snn<|t1<|lM hm (fun e h s=>∃f,m3 A f∧h [(5,pP b 0),(16,sl i c.1.Nodes k),(17,lV c.1.Nodes),(18,nV e.2)]∧s f [bld b e.1]) ?_ ?_
  ·intro a w ha hs
   exact⟨A,(l0 _),cv ha,(am [0] hs z)⟩
  rintro e gQ gR hm L a w ⟨f,l,ha,hs⟩
  refine us ha hs<|ssr<|yv (r2 z z) z<|snn<|x1<|cP hm z (fun U hm=>?_) fun gS hm=>?_
  ·refine skn<|oC hm (fun n h s=>∃o,m3 f o∧h [(5,pP b 0),(16,sl i c.1.Nodes k),(17,lV c.1.Nodes),(18,nV e.2)]∧s o [bld b n]) (fun n hm=>?_) fun n hm a w=>?_
   ·refine t1<|ssr<|mv z<|oS hm fun d V hm=>?_
    obtain⟨gT,gU,W,X,Y⟩:=(x0 l J).nidx V
    obtain⟨D,E,rfl,M⟩:=DNode.opn X
    refine yv (t2 W bz z z) z<|yv (v1 z (k3 Y ak)) z<|aa cR z fun p=>sg z<|sN ak z z<|snn<|oC hm (fun G h s=>∃q,m3 f q∧h [(5,pP b 0),(7,pP p 0),(16,sl i c.1.Nodes k),(17,lV c.1.Nodes),(18,nV e.2)]∧s q [bld b G,bK p #[iV d.Op,sV d.Name,iV d.N,sl D d.Kids E] 71]) (fun G hm=>?_) fun G hm a w=>?_
    ·refine ssr<|mv z<|yv (t5 z z) z<|snn<|cP hm z (fun gV hm=>?_) fun gW hm=>?_
     ·refine q0<|pk1<|oS hm fun gX Z hm=>cl (x_bwrite_sp Z) z z<|?_
      rintro _ a1 _ ⟨rfl,rfl⟩ a2
      cases hm
      exact u1 fun a w ha hs=>⟨a1,a2,cv ha,(am [0,0] hs z)⟩
     cases hm
     exact k4 fun a w ha hs=>⟨f,(l0 _),cv ha,(am [1,0] hs z)⟩
    rintro⟨q,t,ha,hs⟩
    refine us ha hs<|oC hm (fun H h s=>∃m,m3 q m∧h [(5,pP b 0),(7,pP p 0),(16,sl i c.1.Nodes k),(17,lV c.1.Nodes),(18,nV e.2)]∧s m [bld b H,bK p #[iV d.Op,sV d.Name,iV d.N,sl D d.Kids E] 71]) (fun H hm=>?_) fun H hm a w=>?_
    ·refine ssr<|fa v5 z<|ld 1 r6 z<|snn<|t1<|ssr<|yv (w1 z z) z<|sg z<|snn<|cP hm z (fun gY hm=>?_) fun gZ hm=>?_
     ·refine q0<|fa u6 z<|ld 1 r9 z<|oS hm fun g0 a3 hm=>yv (Yields.catStr a3 z z) z<|oS hm fun g1 a4 hm=>cl (x_bwrite_sp a4) z z<|?_
      rintro _ a5 _ ⟨rfl,rfl⟩ a6
      cases hm
      exact u1<|f2 fun a w ha hs=>⟨a5,a6,cv ha,(am [0,0] hs z)⟩
     refine ssr<|yv (w1 z z) z<|sg z<|snn<|cP hm z (fun g2 hm=>?_) fun g3 hm=>?_
     ·refine q0<|fa w8 z<|ld 1 r6 z<|oS hm fun g7 a7 hm=>cl (x_itoa50_sp (Tab.mono (s0 K (s0 l t)) hT) a7) z z<|?_
      rintro _ hb _ ⟨rfl,rfl⟩ a8
      refine oS hm fun hc a9 hm=>yv (Yields.catStr a9 z z) z<|oS hm fun hd b0 hm=>cl (x_bwrite_sp b0) z z<|?_
      rintro _ b1 _ ⟨rfl,rfl⟩ b3
      cases hm
      exact u1<|f2 fun a w ha hs=>⟨b1,(s0 a8 b3),cv ha,(am [0,0] hs z)⟩
     refine ssr<|yv (w1 z z) z<|sg z<|snn<|cP hm z (fun he hm=>?_) fun hf hm=>?_
     ·refine q0<|fa u6 z<|ld 1 r9 z<|oS hm fun hg b4 hm=>yv (Yields.catStr b4 z z) z<|oS hm fun hh b5 hm=>cl (x_bwrite_sp b5) z z<|?_
      rintro _ b6 _ ⟨rfl,rfl⟩ b7
      cases hm
      exact u1<|f2 fun a w ha hs=>⟨b6,b7,cv ha,(am [0,0] hs z)⟩
     refine ssr<|yv (w1 z z) z<|sg z<|snn<|cP hm z (fun hi hm=>?_) fun hj hm=>?_
     ·refine q0<|oS hm fun hk b8 hm=>cl (x_bwrite_sp b8) z z<|?_
      rintro _ b9 _ ⟨rfl,rfl⟩ cs
      cases hm
      exact u1<|f2 fun a w ha hs=>⟨b9,cs,cv ha,(am [0,0] hs z)⟩
     refine ssr<|yv (w1 z z) z<|sg z<|snn<|cP hm z (fun hl hm=>?_) fun hn hm=>?_
     ·refine q0<|oS hm fun ho cu hm=>cl (x_bwrite_sp cu) z z<|?_
      rintro _ c0 _ ⟨rfl,rfl⟩ c1
      cases hm
      exact u1<|f2 fun a w ha hs=>⟨c0,c1,cv ha,(am [0,0] hs z)⟩
     refine ssr<|yv (w1 z z) z<|sg z<|snn<|cP hm z (fun hp hm=>?_) fun hq hm=>?_
     ·refine q0<|oS hm fun hr c2 hm=>cl (x_bwrite_sp c2) z z<|?_
      rintro _ c3 _ ⟨rfl,rfl⟩ c4
      cases hm
      exact u1<|f2 fun a w ha hs=>⟨c3,c4,cv ha,(am [0,0] hs z)⟩
     refine q0<|oS hm fun ht c5 hm=>cl (x_bwrite_sp c5) z z<|?_
     rintro _ c6 _ ⟨rfl,rfl⟩ c7
     cases hm
     exact u1<|f2 fun a w ha hs=>⟨c6,c7,cv ha,(am [0,0] hs z)⟩
    rintro⟨m,I,ha,hs⟩
    refine us ha hs<|ssr<|fa r5 z<|ld 1 n9 z<|yv (u0 aE z) z<|mv z<|snn<|t1<|lM hm (fun v h s=>∃x,m3 m x∧h [(5,pP b 0),(16,sl i c.1.Nodes k),(17,lV c.1.Nodes),(18,nV e.2),(58,sl D d.Kids E),(59,lV d.Kids),(60,nV v.2)]∧s x [bld b v.1]) ?_ ?_
    ·intro a w ha hs
     exact⟨m,(l0 _),cv ha,(am [0] hs z)⟩
    rintro v hu hv hm N a w ⟨x,y,ha,hs⟩
    refine us ha hs<|ssr<|yv (r2 z z) z<|snn<|x1<|cP hm z (fun c9 hm=>?_) fun hw hm=>?_
    ·refine skn<|x1<|t1<|ssr<|oS hm fun hx d1 hm=>?_
     obtain⟨hy,hz,d2,d3,d4⟩:=(x0 (s0 t (s0 I y)) M).nidx d1
     obtain rfl:=d3
     refine yv (t2 d2 y9 z z) z<|yv (v1 z (k5 d4 r6 z)) z<|sg z<|snn<|q0<|mv z<|oS hm fun hA d5 hm=>cl (x_itoa50_sp (Tab.mono (s0 K (s0 l (s0 t (s0 I y)))) hT) d5) z z<|?_
     rintro _ hB _ ⟨rfl,rfl⟩ d6
     refine oS hm fun hC d7 hm=>yv (Yields.catStr d7 z z) z<|oS hm fun d8 d9 hm=>cl (x_bwrite_sp d9) z z<|?_
     rintro _ e0 _ ⟨rfl,rfl⟩ e1
     cases hm
     exact u1<|f2<|s4<|q0<|yv (s3 (j:=1) z z z (by have q_0:=c9;have q_1:=M.bnd.2;omega)) z<|mv z<|snn fun a w ha hs=>⟨(d8,v.2+1),aL N,e0,(s0 y (s0 d6 e1)),cv ha,(am [0] hs z)⟩
    cases hm
    obtain rfl:=aR N
    exact u4<|p0<|p0<|u3<|f2 fun a w ha hs=>⟨x,(s0 t (s0 I y)),cv ha,(am [0] hs z)⟩
   rintro⟨o,e2,ha,hs⟩
   cases hm
   exact us ha hs<|q0<|yv (s3 (j:=1) z z z (by have q_0:=U;have q_1:=J.bnd.2;omega)) z<|mv z<|snn fun a w ha hs=>⟨(n,e.2+1),aL L,o,(s0 l e2),cv ha,(am [0] hs z)⟩
  cases hm
  obtain rfl:=aR L
  exact u4<|p0<|p0<|u3 fun a w ha hs=>⟨f,l,cv ha,(am [0] hs z)⟩
 rintro⟨C,hD,ha,hs⟩
 refine us ha hs<|ssr<|oS hm fun hE e3 hm=>cl (x_bstr_sp e3) z z<|?_
 rintro _ hF _ ⟨rfl,rfl⟩ hG
 cases hm
 exact sg z<|snn<|u2<|k0 z z ⟨z,z⟩ (aF [] z)
theorem cc {a0:DCore}{a1:DGraph}(hT:Tab F) (f:Fsl 64 KDData F h i a0.Datas) (j:Fsl 144 KDFun F k l a0.Funs) (c:Fsl 56 KDNode F m n a1.Nodes) (hm:m_graph_Text g a0 a1=some r):
    CallSp Tryz.prog 11 #[.agg #[sl h a0.Datas i,sl k a0.Funs l],.agg #[iV a1.Root,sl m a1.Nodes n]] F [] (fun u F' H'=>u=(.tuple #[sV r.1,iV r.2])∧H'=[]):=by
 unfold m_graph_Text at hm
 refine f1 Tryz.func11 z z fun q s t=>ssr<|ba z fun v=>ba z fun w=>sg z<|sg z<|snn<|x1<|ssr<|lk 1 aX z z<|lk 0 s5 z z<|oS hm fun d o hm=>cl (r7 (a0:=a0) (a1:=a1) f j c o) z z<|?_
 rintro _ x _ ⟨rfl,rfl⟩ e
 refine sg z<|snn<|ssr<|mv z<|yv (p4 z z) z<|snn<|?_
 refine m5 z ?_ ?_
 ·intro a
  replace a:¬(d=0):=nd_t a
  replace hm:=iF hm a
  cases hm
  exact ssr<|mv z<|sg z<|sg z<|snn<|u2<|v0<|x9 z z z ⟨z,z⟩ (aF [] z)
 intro b
 replace b:d=0:=nd_f b
 replace hm:=iT hm b
 refine skn<|ssr<|lk 0 s5 z z<|oS hm fun y p hm=>cl (cq (a0:=a1) (Tab.mono e hT) (x0 e c) p) z z<|?_
 rintro _ A _ ⟨rfl,rfl⟩ B
 cases hm
 exact sg z<|sg z<|snn<|u2<|x9 z z z ⟨z,z⟩ (aF [] z)
theorem ah (hT:Tab F) (hm:m_law09_known g=some r):
    CallSp Tryz.prog 7 #[] F [] (fun u F' H'=>u=(.bool r)∧H'=[]):=by
 unfold m_law09_known at hm
 refine f1 Tryz.func7 z z fun H I J=>ssr<|sg z<|snn<|ssr<|yv (v2 (v:=(.agg #[iV 2,sV [],iV 0,nS,nS,nS])) (A2 z) (fun _=>by kernel_rfl)) z<|yv (v2 (v:=(.agg #[iV 2,sV [],iV 1,nS,nS,nS])) (A2 z) (fun _=>by kernel_rfl)) z<|v3 (e:=64) (cells:=#[iV 2,sV [],iV 0,nS,nS,nS,iV 2,sV [],iV 1,nS,nS,nS]) (A2 z) (fun _=>by kernel_rfl) z p1 fun b=>wr ([(DExpr.mk 2 ([]:List UInt8) 0 ([]:List (List UInt8)) ([]:List DExpr) ([]:List DAlt)),(DExpr.mk 2 ([]:List UInt8) 1 ([]:List (List UInt8)) ([]:List DExpr) ([]:List DAlt))]:List DExpr) 6 z z<|yv (v2 (v:=(.agg #[iV 8,sV [],iV 0,nS,.slice (bA b) ([(DExpr.mk 2 ([]:List UInt8) 0 ([]:List (List UInt8)) ([]:List DExpr) ([]:List DAlt)),(DExpr.mk 2 ([]:List UInt8) 1 ([]:List (List UInt8)) ([]:List DExpr) ([]:List DAlt))]:List DExpr).length 2,nS])) (A2 z) (fun _=>by kernel_rfl)) z<|yv (v2 (v:=(.agg #[sV [99,111,105,110],nS,iV 8,sV [],iV 0,nS,.slice (bA b) ([(DExpr.mk 2 ([]:List UInt8) 0 ([]:List (List UInt8)) ([]:List DExpr) ([]:List DAlt)),(DExpr.mk 2 ([]:List UInt8) 1 ([]:List (List UInt8)) ([]:List DExpr) ([]:List DAlt))]:List DExpr).length 2,nS])) (A2 z) (fun _=>by kernel_rfl)) z<|fz z (n5 (D:=KDExpr) (DExpr.shut r3 r3 r3) (n5 (DExpr.shut r3 r3 r3) z)) (bl 104 z) fun K p q=>v3 (e:=66) (cells:=#[sV [99,111,105,110],nS,iV 8,sV [],iV 0,nS,.slice (bA b) ([(DExpr.mk 2 ([]:List UInt8) 0 ([]:List (List UInt8)) ([]:List DExpr) ([]:List DAlt)),(DExpr.mk 2 ([]:List UInt8) 1 ([]:List (List UInt8)) ([]:List DExpr) ([]:List DAlt))]:List DExpr).length 2,nS]) (A2 z) (fun _=>by kernel_rfl) z p1 fun t=>wr ([(DFun.mk [99,111,105,110] ([]:List (List UInt8)) (DExpr.mk 8 ([]:List UInt8) 0 ([]:List (List UInt8)) ([(DExpr.mk 2 ([]:List UInt8) 0 ([]:List (List UInt8)) ([]:List DExpr) ([]:List DAlt)),(DExpr.mk 2 ([]:List UInt8) 1 ([]:List (List UInt8)) ([]:List DExpr) ([]:List DAlt))]:List DExpr) ([]:List DAlt)))]:List DFun) 8 z z<|yv (v2 (v:=(.agg #[nS,.slice (bA t) ([(DFun.mk [99,111,105,110] ([]:List (List UInt8)) (DExpr.mk 8 ([]:List UInt8) 0 ([]:List (List UInt8)) ([(DExpr.mk 2 ([]:List UInt8) 0 ([]:List (List UInt8)) ([]:List DExpr) ([]:List DAlt)),(DExpr.mk 2 ([]:List UInt8) 1 ([]:List (List UInt8)) ([]:List DExpr) ([]:List DAlt))]:List DExpr) ([]:List DAlt)))]:List DFun).length 1])) (A2 z) (fun _=>by kernel_rfl)) z<|aa gL z fun L=>sN aX z z<|snn<|ssr<|yv (v2 (v:=(.agg #[iV 1,sV [120],iV 0,nS,nS,nS])) (A2 z) (fun _=>by kernel_rfl)) z<|aa eK z fun M=>sN m7 z z<|snn<|ssr<|yv (v2 (v:=(.agg #[iV 4,sV [99,111,105,110],iV 0,nS,nS,nS])) (A2 z) (fun _=>by kernel_rfl)) z<|lk 0 m7 z z<|lk 0 m7 z z<|v3 (e:=64) (cells:=#[iV 1,sV [120],iV 0,nS,nS,nS,iV 1,sV [120],iV 0,nS,nS,nS]) (A2 z) (fun _=>by kernel_rfl) z p1 fun j=>wr ([(DExpr.mk 1 [120] 0 ([]:List (List UInt8)) ([]:List DExpr) ([]:List DAlt)),(DExpr.mk 1 [120] 0 ([]:List (List UInt8)) ([]:List DExpr) ([]:List DAlt))]:List DExpr) 6 z z<|yv (v2 (v:=(.agg #[iV 3,sV [80,97,105,114],iV 0,nS,.slice (bA j) ([(DExpr.mk 1 [120] 0 ([]:List (List UInt8)) ([]:List DExpr) ([]:List DAlt)),(DExpr.mk 1 [120] 0 ([]:List (List UInt8)) ([]:List DExpr) ([]:List DAlt))]:List DExpr).length 2,nS])) (A2 z) (fun _=>by kernel_rfl)) z<|fz z (n5 (D:=KDExpr) (DExpr.shut r3 r3 r3) (n5 (DExpr.shut r3 r3 r3) z)) (bl 104 z) fun N k x=>v3 (e:=64) (cells:=#[iV 4,sV [99,111,105,110],iV 0,nS,nS,nS,iV 3,sV [80,97,105,114],iV 0,nS,.slice (bA j) ([(DExpr.mk 1 [120] 0 ([]:List (List UInt8)) ([]:List DExpr) ([]:List DAlt)),(DExpr.mk 1 [120] 0 ([]:List (List UInt8)) ([]:List DExpr) ([]:List DAlt))]:List DExpr).length 2,nS]) (A2 z) (fun _=>by kernel_rfl) z p1 fun l=>wr ([(DExpr.mk 4 [99,111,105,110] 0 ([]:List (List UInt8)) ([]:List DExpr) ([]:List DAlt)),(DExpr.mk 3 [80,97,105,114] 0 ([]:List (List UInt8)) ([(DExpr.mk 1 [120] 0 ([]:List (List UInt8)) ([]:List DExpr) ([]:List DAlt)),(DExpr.mk 1 [120] 0 ([]:List (List UInt8)) ([]:List DExpr) ([]:List DAlt))]:List DExpr) ([]:List DAlt))]:List DExpr) 6 z z<|yv (v2 (v:=(.agg #[iV 6,sV [120],iV 0,nS,.slice (bA l) ([(DExpr.mk 4 [99,111,105,110] 0 ([]:List (List UInt8)) ([]:List DExpr) ([]:List DAlt)),(DExpr.mk 3 [80,97,105,114] 0 ([]:List (List UInt8)) ([(DExpr.mk 1 [120] 0 ([]:List (List UInt8)) ([]:List DExpr) ([]:List DAlt)),(DExpr.mk 1 [120] 0 ([]:List (List UInt8)) ([]:List DExpr) ([]:List DAlt))]:List DExpr) ([]:List DAlt))]:List DExpr).length 2,nS])) (A2 z) (fun _=>by kernel_rfl)) z<|aa eK z fun P=>sN m7 z z<|snn<|ssr<|lk 3 aX z z<|lk 0 m7 z z<|yv (v2 (v:=(.agg #[nS,iV 6,sV [120],iV 0,nS,.slice (bA l) ([(DExpr.mk 4 [99,111,105,110] 0 ([]:List (List UInt8)) ([]:List DExpr) ([]:List DAlt)),(DExpr.mk 3 [80,97,105,114] 0 ([]:List (List UInt8)) ([(DExpr.mk 1 [120] 0 ([]:List (List UInt8)) ([]:List DExpr) ([]:List DAlt)),(DExpr.mk 1 [120] 0 ([]:List (List UInt8)) ([]:List DExpr) ([]:List DAlt))]:List DExpr) ([]:List DAlt))]:List DExpr).length 2,nS])) (A2 z) (fun _=>by kernel_rfl)) z<|pk4<|fz z (g4 k (n5 (D:=KDFun) (DFun.shut (y2:=(DExpr.mk 8 ([]:List UInt8) 0 ([]:List (List UInt8)) ([(DExpr.mk 2 ([]:List UInt8) 0 ([]:List (List UInt8)) ([]:List DExpr) ([]:List DAlt)),(DExpr.mk 2 ([]:List UInt8) 1 ([]:List (List UInt8)) ([]:List DExpr) ([]:List DAlt))]:List DExpr) ([]:List DAlt))) r3 r3 q r3) z)) (bl 144 z) fun Q m n=>pk1<|fz z (g4 m (n5 (D:=KDExpr) (DExpr.shut r3 r3 r3) (n5 (DExpr.shut r3 x r3) z))) (bl 104 z) fun R c y=>oS hm fun A B hm=>cl (ez (a0:=(DCore.mk ([]:List DData) ([(DFun.mk [99,111,105,110] ([]:List (List UInt8)) (DExpr.mk 8 ([]:List UInt8) 0 ([]:List (List UInt8)) ([(DExpr.mk 2 ([]:List UInt8) 0 ([]:List (List UInt8)) ([]:List DExpr) ([]:List DAlt)),(DExpr.mk 2 ([]:List UInt8) 1 ([]:List (List UInt8)) ([]:List DExpr) ([]:List DAlt))]:List DExpr) ([]:List DAlt)))]:List DFun))) (a1:=(DGoal.mk ([]:List (List UInt8)) (DExpr.mk 6 [120] 0 ([]:List (List UInt8)) ([(DExpr.mk 4 [99,111,105,110] 0 ([]:List (List UInt8)) ([]:List DExpr) ([]:List DAlt)),(DExpr.mk 3 [80,97,105,114] 0 ([]:List (List UInt8)) ([(DExpr.mk 1 [120] 0 ([]:List (List UInt8)) ([]:List DExpr) ([]:List DAlt)),(DExpr.mk 1 [120] 0 ([]:List (List UInt8)) ([]:List DExpr) ([]:List DAlt))]:List DExpr) ([]:List DAlt))]:List DExpr) ([]:List DAlt)))) r3 (x0 c n) r3 r3 y r3 B) z z<|?_
 rintro _ S _ ⟨U,V,W,X,rfl,C,Y,rfl⟩ o
 refine mv z<|yv (r0 z z) z<|yv (r0 z z) z<|yv (r0 z z) z<|aa ab z fun Z=>sN s5 z z<|sg z<|sg z<|snn<|ssr<|lk 3 aX z z<|lk 0 s5 z z<|oS hm fun a2 E hm=>cl (cc (a0:=(DCore.mk ([]:List DData) ([(DFun.mk [99,111,105,110] ([]:List (List UInt8)) (DExpr.mk 8 ([]:List UInt8) 0 ([]:List (List UInt8)) ([(DExpr.mk 2 ([]:List UInt8) 0 ([]:List (List UInt8)) ([]:List DExpr) ([]:List DAlt)),(DExpr.mk 2 ([]:List UInt8) 1 ([]:List (List UInt8)) ([]:List DExpr) ([]:List DAlt))]:List DExpr) ([]:List DAlt)))]:List DFun))) (a1:=A.1) (Tab.mono (s0 p (s0 k (s0 m (s0 c o)))) hT) r3 (x0 (s0 c o) n) C E) z z<|?_
 rintro _ G _ ⟨rfl,rfl⟩ a3
 refine mv z<|yv (r0 z z) z<|yv (r0 z z) z<|sg z<|sg z<|snn<|oC hm (fun d h s=>h [(0,.bool d)]∧s G []) (fun d hm=>?_) fun d hm a w=>?_
 ·refine q0<|mv z<|?_
  rcases iS hm with⟨f,hm⟩|⟨f,hm⟩
  ·refine yv (t3 f (w1 z z)) z<|mv z<|mw z z<|?_
   rcases iS hm with⟨i,hm⟩|⟨i,hm⟩
   ·cases hm
    exact yw (t3 i (w1 z z)) z z<|pt z<|mv z<|mw z z<|yw (v6 z z) z z<|pt z<|sg z<|u1<|eN [] z
   cases hm
   exact yw (s2 i (w1 z z)) z z<|pt z<|mv z<|un z z<|un z z<|pf z<|sg z<|u1<|eN [] z
  cases hm
  exact yv (s2 f (w1 z z)) z<|mv z<|un z z<|un z z<|pf z<|mv z<|un z z<|un z z<|pf z<|sg z<|u1<|eN [] z
 rintro⟨ha,hs⟩
 cases hm
 exact us ha hs<|u2<|k0 z z ⟨z,z⟩ (aF [] z)
theorem cV {a0:DGraph}(b6:Fsl 56 KDNode F l m a0.Nodes) (g2:Fsl 8 (Kind.int .i64) F J K a1) (hm:m_law09_moved g a0 a1=some r):
    CallSp Tryz.prog 8 #[.agg #[iV a0.Root,sl l a0.Nodes m],sl J a1 K] F [] (fun u F' H'=>∃d4 d5 d6 d7,u=(.tuple #[.agg #[iV r.1.Root,sl d4 r.1.Nodes d5],sl d6 r.2 d7])∧Fsl 56 KDNode F' d4 d5 r.1.Nodes∧Fsl 8 (Kind.int .i64) F' d6 d7 r.2∧H'=[]):=by
 unfold m_law09_moved at hm
 refine f1 Tryz.func8 z z fun jf jg jh=>ssr<|ba z fun c=>aa ab z fun b=>sg z<|snn<|ssr<|fa v4 z<|ld 1 m8 z<|yv (u0 be z) z<|sg z<|snn<|ssr<|mv z<|oS hm fun ji g3 hm=>St.makeK (D:=(Kind.int .i64)) g3 y9 eL z z z z z z p1 fun hb hc hd he hf=>sg z<|snn<|oC hm (fun L h s=>∃Z a2 a3,Cat (Kind.int .i64) F a3 L∧Bnd 8 L∧h [(1,sl J a1 K),(2,pP c 0),(4,pP b 0),(6,lV a0.Nodes),(7,sl Z L a2)]∧s F [bK c #[iV a0.Root,sl l a0.Nodes m] 28,bK b #[iV 0,nS] 28,rowo Z L.length a2 3 1 a3]) (fun L hm=>?_) fun L hm a w=>?_
 ·refine ssr<|sg z<|snn<|t1<|lM hm (fun A h s=>∃Q S a4,Cat (Kind.int .i64) F a4 A.1∧Bnd 8 A.1∧h [(1,sl J a1 K),(2,pP c 0),(4,pP b 0),(6,lV a0.Nodes),(7,sl Q A.1 S),(8,nV A.2)]∧s F [bK c #[iV a0.Root,sl l a0.Nodes m] 28,bK b #[iV 0,nS] 28,rowo Q A.1.length S 3 1 a4]) ?_ ?_
  ·intro a w ha hs
   exact⟨(bA hb),hc,hd,he,hf,cv ha,(am [2,1,0] hs z)⟩
  rintro A jj jk hm d8 a w ⟨Q,S,a4,b7,d9,ha,hs⟩
  refine us ha hs<|x1<|ssr<|mv z<|mv z<|yv (r2 z z) z<|snn<|cP hm z (fun hg hm=>?_) fun jl hm=>?_
  ·refine skn<|x1<|t1<|q0<|mv z<|mv z<|mv z<|oS hm fun jm hh hm=>?_
   obtain⟨hi,hj,jn,hk,jo⟩:=b7.nidx hh
   obtain rfl:=hk
   refine s9 2 z (by omega) fun hl=>yv (t2 (f8 hl hi hj) y9 z z) z<|oS hm fun hn b8 hm=>St.putK1 (R:=[bK c #[iV a0.Root,sl l a0.Nodes m] 28,bK b #[iV 0,nS] 28]) b8 b7 (show((Kind.int .i64)).R _ [nV A.2] (nI A.2) from z) z z z 2 z z r6 z p1 fun ho hp=>?_
   try (dsimp only [sl];rw [upd_len b8])
   cases hm
   exact u1<|f2<|s4<|q0<|mv z<|yv (s3 (j:=1) z z z (by have q_0:=hg;have q_1:=b6.bnd.2;omega)) z<|sg z<|snn fun a w ha hs=>⟨(hn,A.2+1),aL d8,Q,S,ho,hp,(Bnd.of_upd d9 b8),cv ha,(am [1,1,0] hs z)⟩
  cases hm
  obtain rfl:=aR d8
  exact u4<|p0<|p0<|u3 fun a w ha hs=>⟨Q,S,a4,b7,d9,cv ha,(am [0,0,0] hs z)⟩
 rintro⟨Z,a2,a3,hq,hr,ha,hs⟩
 refine us ha hs<|oC hm (fun k h s=>∃n o B,Cat (Kind.int .i64) F B k∧Bnd 8 k∧h [(2,pP c 0),(4,pP b 0),(6,lV a0.Nodes),(7,sl n k o)]∧s F [bK c #[iV a0.Root,sl l a0.Nodes m] 28,bK b #[iV 0,nS] 28,rowo n k.length o 3 1 B]) (fun k hm=>?_) fun k hm a w=>?_
 ·refine ssr<|sg z<|snn<|t1<|lM hm (fun q h s=>∃C E M,Cat (Kind.int .i64) F M q.1∧Bnd 8 q.1∧h [(1,sl J a1 K),(2,pP c 0),(4,pP b 0),(6,lV a0.Nodes),(7,sl C q.1 E),(9,iV q.2)]∧s F [bK c #[iV a0.Root,sl l a0.Nodes m] 28,bK b #[iV 0,nS] 28,rowo C q.1.length E 3 1 M]) ?_ ?_
  ·intro a w ha hs
   exact⟨Z,a2,a3,hq,hr,cv ha,(am [0,0,0] hs z)⟩
  rintro q jp jq hm e0 a w ⟨C,E,M,U,e1,ha,hs⟩
  refine us ha hs<|x1<|oC hm (fun b9 h s=>h [(1,sl J a1 K),(2,pP c 0),(4,pP b 0),(6,lV a0.Nodes),(7,sl C q.1 E),(9,iV q.2),(37,.bool b9)]∧s F [bK c #[iV a0.Root,sl l a0.Nodes m] 28,bK b #[iV 0,nS] 28,rowo C q.1.length E 3 1 M]) (fun b9 hm=>?_) fun b9 hm a w=>?_
  ·refine q0<|mv z<|mv z<|?_
   rcases iS hm with⟨cs,hm⟩|⟨cs,hm⟩
   ·cases hm
    exact yv (t3 cs (r2 z z)) z<|mv z<|mw z z<|yw (u0 aE z) z z<|yw (t5 z z) z z<|pt z<|u1<|eN [0,0,0] z
   cases hm
   exact yv (s2 cs (r2 z z)) z<|mv z<|un z z<|un z z<|un z z<|pf z<|u1<|eN [0,0,0] z
  rintro⟨ha,hs⟩
  refine us ha hs<|cB hm z (fun jr hm=>?_) fun js hm=>?_
  ·refine skn<|x1<|t1<|ssr<|mv z<|mv z<|mv z<|yv (u0 aE z) z<|oS hm fun jt ht hm=>yv (Yields.remw ht z z) z<|oS hm fun ju hu hm=>?_
   obtain⟨jv,jw,hv,hw,hx⟩:=g2.idx hu
   obtain rfl:=hw
   refine yv (t2 hv y9 z z) z<|yv (v1 z (k5 hx r6 z)) z<|sg z<|snn<|oC hm (fun cu h s=>h [(1,sl J a1 K),(2,pP c 0),(4,pP b 0),(6,lV a0.Nodes),(7,sl C q.1 E),(9,iV q.2),(10,iV cu)]∧s F [bK c #[iV a0.Root,sl l a0.Nodes m] 28,bK b #[iV 0,nS] 28,rowo C q.1.length E 3 1 M]) (fun cu hm=>?_) fun cu hm a w=>?_
   ·refine ssr<|mv z<|yv (r2 z z) z<|snn<|cP hm z (fun jy hm=>?_) fun jz hm=>?_
    ·cases hm
     exact q0<|mv z<|yv (Yields.addw z z) z<|yv (Yields.neg z) z<|sg z<|u1<|eN [0,0,0] z
    cases hm
    exact k4 fun a w ha hs=>⟨cv ha,(am [0,0,0] hs z)⟩
   rintro⟨ha,hs⟩
   refine us ha hs<|ssr<|mv z<|mv z<|oS hm fun jA hy hm=>yv (Yields.remw hy z z) z<|sg z<|snn<|ds [13,15] hmix<|tp 0 z (fun _=>x2 z) z z<|tp 1 z (fun _=>x2 z) z z<|tp 2 z (fun _=>x2 z) z z<|tp 3 z (fun _=>x2 z) z z<|tp 4 z (fun _=>x2 z) z z<|tp 5 z (fun _=>x2 z) z z<|oS hm fun e2 hz hm=>?_
   obtain⟨hA,hB,jB,hC,hD⟩:=U.idx hz
   obtain rfl:=hC
   refine s9 2 z (by omega) fun a5=>tp 6 z (fun _=>t2 (f8 a5 hA hB) y9 z z) z z<|tk [0,1,2,3,4,5,6,8,9,10,12,14] 7 z (v1 z (aI 2 z r6 (hD 0 _ z))) z z k1<|tp 8 z (fun _=>x2 z) z z<|tp 9 z (fun _=>x2 z) z z<|oS hm fun e3 hE hm=>?_
   obtain⟨hF,hG,jC,hH,hI⟩:=U.idx hE
   obtain rfl:=hH
   refine tp 10 z (fun _=>t2 (f8 a5 hF hG) y9 z z) z z<|tk [0,1,2,3,4,5,6,8,9,10,12,14] 11 z (v1 z (aI 2 z r6 (hI 0 _ z))) z z k1<|oS hm fun jD hJ hm=>?_
   obtain⟨hK,hL,jE,hM,jF⟩:=U.idx hJ
   obtain rfl:=hM
   refine tp 12 z (fun _=>t2 (f8 a5 hK hL) y9 z z) z z<|oN 13 z z fun hN=>oS hm fun jG c0 hm=>St.putK1 (R:=[bK c #[iV a0.Root,sl l a0.Nodes m] 28,bK b #[iV 0,nS] 28]) c0 U (show((Kind.int .i64)).R _ [iV e2] e2 from z) z z z 2 z z r6 z p1 fun jH e4=>?_
   try (dsimp only [sl];rw [upd_len c0])
   refine m1 hN (fun h=>by cases h)<|oS hm fun jI hO hm=>?_
   obtain⟨hP,hQ,jJ,hR,jK⟩:=e4.idx hO
   obtain rfl:=hR
   refine tp 14 z (fun _=>t2 (f8 a5 hP hQ) y9 z z) z z<|oN 15 z z fun hS=>oS hm fun hT c1 hm=>St.putK1 (R:=[bK c #[iV a0.Root,sl l a0.Nodes m] 28,bK b #[iV 0,nS] 28]) c1 e4 (show((Kind.int .i64)).R _ [iV e3] e3 from z) z z z 0 z z r6 z p1 fun hU hV=>?_
   try (dsimp only [sl];rw [upd_len c1])
   cases hm
   exact m1 hS (fun h=>by cases h)<|dn<|f2<|s4<|q0<|mv z<|yv (Yields.addw z z) z<|sg z<|snn fun a w ha hs=>⟨(hT,Mir.w64 (q.2+1)),aL e0,C,E,hU,hV,(Bnd.of_upd (Bnd.of_upd e1 c0) c1),cv ha,(am [1,1,0] hs z)⟩
  cases hm
  obtain rfl:=aR e0
  exact u4<|p0<|p0<|u3 fun a w ha hs=>⟨C,E,M,U,e1,cv ha,(am [0,0,0] hs z)⟩
 rintro⟨n,o,B,a6,hW,ha,hs⟩
 refine us ha hs<|oC hm (fun f h s=>∃t a7 a8 a9,Cat KDNode F a9 f.2∧Bnd 56 f.2∧h [(2,pP c 0),(4,pP b 0),(6,lV a0.Nodes),(7,sl n k o),(11,pP t 0)]∧s F [bK c #[iV a0.Root,sl l a0.Nodes m] 28,bK b #[iV 0,nS] 28,bK t #[iV f.1,sl a7 f.2 a8] 28,rowo a7 f.2.length a8 71 4 a9,rowo n k.length o 3 1 B]) (fun f hm=>?_) fun f hm a w=>?_
 ·refine ds [9] hmix<|tp 0 z (fun _=>x2 z) z z<|tp 1 z (fun _=>w3 y8 z) z z<|tk [0,1,3,5,7] 2 z (p3 0 r6 z) z z k1<|oS hm fun e5 hX hm=>?_
  obtain⟨hY,hZ,jL,h0,h1⟩:=a6.idx hX
  obtain rfl:=h0
  refine s9 2 z (by omega) fun h2=>tp 3 z (fun _=>t2 (f8 h2 hY hZ) y9 z z) z z<|tk [0,1,3,5,7] 4 z (v1 z (aI 2 z r6 (h1 0 _ z))) z z k1<|tp 5 z (fun _=>x2 z) z z<|oS hm fun e7 e8 hm=>?_
  refine aW (i:=6) (j:=8) z z (by kernel_rfl) (l1:=#[T,T,T,T,T,T,T,O,O,O]) (l2:=#[T,T,T,T,T,T,O,O,T,O]) z z ?_ ?_
  ·intro h3
   cases hm
   exact St.makeK (D:=KDNode) e8 bz cR z z (DNode.shut r3) z z z p1 fun e9 fo h4 h5 h6=>m1 h3 (fun _=>(aF [1,1,1] z))<|tp 7 z (fun _=>v2 (v:=(.agg #[iV e5,sl (bA e9) e7 fo])) (A2 z) (fun _=>by kernel_rfl)) z z<|oN 8 z z fun h7=>aa ab z fun h8=>m1 h7 (fun _=>(aF [2,2,2] z))<|oN 9 z z fun h9=>sN s5 z z<|m1 h9 (fun h=>by cases h)<|dn fun a w ha hs=>⟨h8,(bA e9),fo,h4,h5,h6,cv ha,(am [2,2,0,0,0] hs z)⟩
  intro ia
  cases hm
  exact aa ab z fun ib=>m1 ia (fun _=>(aF [1,1,1] z))<|oN 6 z z fun ic=>St.makeK (D:=KDNode) e8 bz cR z z (DNode.shut r3) z z z p1 fun f0 gP ie ig ih=>m1 ic (fun _=>(aF [2,2,2] z))<|tp 7 z (fun _=>v2 (v:=(.agg #[iV e5,sl (bA f0) e7 gP])) (A2 z) (fun _=>by kernel_rfl)) z z<|oN 9 z z fun ii=>pk1<|sN s5 z z<|m1 ii (fun h=>by cases h)<|dn fun a w ha hs=>⟨ib,(bA f0),gP,ie,ig,ih,cv ha,(am [2,2,0,0,0] hs z)⟩
 rintro⟨t,a7,a8,a9,ij,ik,ha,hs⟩
 refine us ha hs<|oC hm (fun N h s=>∃c2 c3 c4 b0,m3 F b0∧Cat KDNode b0 c4 N∧Bnd 56 N∧h [(4,pP b 0),(6,lV a0.Nodes),(7,sl n k o),(11,pP t 0)]∧s b0 [bK b #[iV 0,nS] 28,bK t #[iV f.1,sl c2 N c3] 28,rowo c2 N.length c3 71 4 c4,rowo n k.length o 3 1 B]) (fun N hm=>?_) fun N hm a w=>?_
 ·refine ssr<|sg z<|snn<|t1<|lM hm (fun p h s=>∃x y P G,m3 F G∧Cat KDNode G P p.1∧Bnd 56 p.1∧h [(2,pP c 0),(4,pP b 0),(6,lV a0.Nodes),(7,sl n k o),(11,pP t 0),(12,nV p.2)]∧s G [bK c #[iV a0.Root,sl l a0.Nodes m] 28,bK b #[iV 0,nS] 28,bK t #[iV f.1,sl x p.1 y] 28,rowo x p.1.length y 71 4 P,rowo n k.length o 3 1 B]) ?_ ?_
  ·intro a w ha hs
   exact⟨a7,a8,a9,F,(l0 _),ij,ik,cv ha,(am [0,0,0,0,0] hs z)⟩
  rintro p jM jN hm gQ a w ⟨x,y,P,G,V,c5,gR,ha,hs⟩
  refine us ha hs<|x1<|ssr<|mv z<|mv z<|yv (r2 z z) z<|snn<|cP hm z (fun il hm=>?_) fun jO hm=>?_
  ·refine skn<|x1<|t1<|ssr<|fa v4 z<|ld 0 m8 z<|mv z<|oS hm fun d im hm=>?_
   obtain⟨jP,jQ,io,ip,iq⟩:=(x0 V b6).nidx im
   obtain⟨c6,c7,rfl,gS⟩:=DNode.opn ip
   refine yv (t2 io bz z z) z<|yv (v1 z (k3 iq ak)) z<|aa cR z fun W=>sN ak z z<|snn<|ssr<|sg z<|snn<|oC hm (fun H h s=>∃X Y c9,Cat (Kind.int .i64) G c9 H∧Bnd 8 H∧h [(2,pP c 0),(4,pP b 0),(6,lV a0.Nodes),(7,sl n k o),(11,pP t 0),(12,nV p.2),(13,pP W 0),(14,sl X H Y)]∧s G [bK c #[iV a0.Root,sl l a0.Nodes m] 28,bK b #[iV 0,nS] 28,bK t #[iV f.1,sl x p.1 y] 28,bK W #[iV d.Op,sV d.Name,iV d.N,sl c6 d.Kids c7] 71,rowo x p.1.length y 71 4 P,rowo X H.length Y 3 1 c9,rowo n k.length o 3 1 B]) (fun H hm=>?_) fun H hm a w=>?_
   ·refine ssr<|sg z<|snn<|t1<|lM hm (fun I h s=>∃b1 b2 b5,Cat (Kind.int .i64) G b5 I.1∧Bnd 8 I.1∧h [(2,pP c 0),(4,pP b 0),(6,lV a0.Nodes),(7,sl n k o),(11,pP t 0),(12,nV p.2),(13,pP W 0),(14,sl b1 I.1 b2),(15,nV I.2)]∧s G [bK c #[iV a0.Root,sl l a0.Nodes m] 28,bK b #[iV 0,nS] 28,bK t #[iV f.1,sl x p.1 y] 28,bK W #[iV d.Op,sV d.Name,iV d.N,sl c6 d.Kids c7] 71,rowo x p.1.length y 71 4 P,rowo b1 I.1.length b2 3 1 b5,rowo n k.length o 3 1 B]) ?_ ?_
    ·exact n6 3 1 fun a w ha hs=>⟨none,0,[],(show Cat (Kind.int .i64) _ [] [] from z),r8,cv ha,(am [2,2,2,1,1,0,0] hs z)⟩
    rintro I jR jT hm gT a w ⟨b1,b2,b5,gU,ir,ha,hs⟩
    refine us ha hs<|x1<|ssr<|mv z<|fa r5 z<|ld 3 n9 z<|yv (u0 aE z) z<|yv (r2 z z) z<|snn<|cP hm z (fun it hm=>?_) fun jU hm=>?_
    ·refine skn<|x1<|t1<|q0<|mv z<|mv z<|fa r5 z<|ld 3 n9 z<|mv z<|oS hm fun jV iu hm=>?_
     obtain⟨jW,jX,iv,iw,ix⟩:=gS.nidx iu
     obtain rfl:=iw
     refine yv (t2 iv y9 z z) z<|yv (v1 z (k5 ix r6 z)) z<|oS hm fun gV iy hm=>?_
     obtain⟨iz,iA,jY,iB,iC⟩:=(g4 V a6).idx iy
     obtain rfl:=iB
     refine s9 6 z (by omega) fun iD=>yv (t2 (f8 iD iz iA) y9 z z) z<|yv (v1 z (aI 6 z r6 (iC 0 _ z))) z<|v3 (e:=3) (cells:=#[iV gV]) (A2 z) (fun _=>by kernel_rfl) z p1 fun jZ=>oS hm fun iE gW hm=>?_
     cases hm
     exact pk6<|pL gW y9 z z z z z gU ⟨[iV gV],_,z,z,z⟩ z fun iG iH iI iJ=>sg z<|u1<|f2<|s4<|q0<|mv z<|yv (s3 (j:=1) z z z (by have q_0:=it;have q_1:=gS.bnd.2;omega)) z<|sg z<|snn fun a w ha hs=>⟨(iE,I.2+1),aL gT,iG,iH,iI,iJ,(f4 gW),cv ha,(am [1,1,1,1,1,0,0] hs z)⟩
    cases hm
    obtain rfl:=aR gT
    exact u4<|p0<|p0<|u3 fun a w ha hs=>⟨b1,b2,b5,gU,ir,cv ha,(am [0,0,0,0,0,0,0] hs z)⟩
   rintro⟨X,Y,c9,iK,iL,ha,hs⟩
   refine us ha hs<|ds [15] hmix<|tp 0 z (fun _=>w3 v4 z) z z<|tk [0,2,3,4,6,8,10,12,13,14] 1 z (p3 2 m8 z) z z k1<|tp 2 z (fun _=>x2 z) z z<|tp 3 z (fun _=>x2 z) z z<|oS hm fun j0 iM hm=>?_
   obtain⟨iN,iO,j1,iP,iQ⟩:=(g4 V a6).nidx iM
   obtain rfl:=iP
   refine s9 6 z (by omega) fun iR=>tp 4 z (fun _=>t2 (f8 iR iN iO) y9 z z) z z<|tk [0,2,3,4,6,8,10,12,13,14] 5 z (v1 z (aI 6 z r6 (iQ 0 _ z))) z z k1<|tp 6 z (fun _=>w3 v5 z) z z<|tk [0,2,3,4,6,8,10,12,13,14] 7 z (p3 3 r6 z) z z k1<|tp 8 z (fun _=>w3 u6 z) z z<|tk [0,2,3,4,6,8,10,12,13,14] 9 z (p3 3 r9 z) z z k1<|tp 10 z (fun _=>w3 w8 z) z z<|tk [0,2,3,4,6,8,10,12,13,14] 11 z (p3 3 r6 z) z z k1<|tp 12 z (fun _=>x2 z) z z<|tp 13 z (fun _=>v2 (v:=(.agg #[iV d.Op,sV d.Name,iV d.N,sl X H Y])) (A2 z) (fun _=>by kernel_rfl)) z z<|oS hm fun j2 iU hm=>?_
   obtain⟨iW,iX,j3,iY,j4⟩:=c5.idx iU
   obtain⟨j5,j6,rfl,j7⟩:=DNode.opn iY
   refine s9 4 z (by omega) fun iZ=>tp 14 z (fun _=>t2 (f8 iZ iW iX) bz z z) z z<|oN 15 z z fun i0=>pk5<|fz z iK iL fun i1 gX i2=>oS hm fun i3 d2 hm=>St.putKn (R:=[bK c #[iV a0.Root,sl l a0.Nodes m] 28,bK b #[iV 0,nS] 28,bK t #[iV f.1,sl x p.1 y] 28,bK W #[iV d.Op,sV d.Name,iV d.N,sl c6 d.Kids c7] 71,rowo n k.length o 3 1 B]) d2 (g4 gX c5) (show(KDNode).R _ [iV d.Op,sV d.Name,iV d.N,sl X H Y] (DNode.mk d.Op d.Name d.N H) from(DNode.shut i2)) z z z 4 z z ak z p1 fun i4 i5=>?_
   try (dsimp only [sl];rw [upd_len d2])
   cases hm
   exact m1 i0 (fun h=>by cases h)<|dn<|f2<|s4<|q0<|mv z<|yv (s3 (j:=1) z z z (by have q_0:=il;have q_1:=b6.bnd.2;omega)) z<|sg z<|snn fun a w ha hs=>⟨(i3,p.2+1),aL gQ,x,y,i4,i1,(s0 V gX),i5,(Bnd.of_upd gR d2),cv ha,(am [1,1,1,0,1] hs z)⟩
  cases hm
  obtain rfl:=aR gQ
  exact u4<|p0<|p0<|u3 fun a w ha hs=>⟨x,y,P,G,V,c5,gR,cv ha,(am [1,1,1,1] hs z)⟩
 rintro⟨c2,c3,c4,b0,i6,i7,j8,ha,hs⟩
 refine us ha hs<|ssr<|fa v4 z<|ld 1 m8 z<|fa y8 z<|ld 1 r6 z<|mv z<|v3 (e:=3) (cells:=#[iV f.1,lV a0.Nodes]) (A2 z) (fun _=>by kernel_rfl) z p1 fun d3=>wr ([f.1,(nI a0.Nodes.length)]:List Int) 1 z z<|yv (v2 (v:=(.agg #[iV 4,sV [],iV 0,.slice (bA d3) ([f.1,(nI a0.Nodes.length)]:List Int).length 2])) (A2 z) (fun _=>by kernel_rfl)) z<|fz z (n5 (D:=Kind.int .i64) z (n5 z z)) (bl 8 z) fun j9 gY i8=>v3 (e:=71) (cells:=#[iV 4,sV [],iV 0,.slice (bA d3) ([f.1,(nI a0.Nodes.length)]:List Int).length 2]) (A2 z) (fun _=>by kernel_rfl) z p1 fun ka=>oS hm fun i9 gZ hm=>?_
 cases hm
 exact pk3<|pL gZ bz z z z z z (g4 gY i7) ⟨[iV 4,sV [],iV 0,.slice (bA d3) ([f.1,(nI a0.Nodes.length)]:List Int).length 2],_,z,(DNode.shut i8),z⟩ z fun g0 g1 kb ja=>fa v4 z<|pk2<|sO m8 z z z z (cs':=#[iV f.1,sl g0 i9 g1]) z<|snn<|ssr<|lk 0 s5 z z<|mv z<|pk2<|sN s5 z z<|sg z<|snn<|u2<|pk2<|fz z ja (f4 gZ) fun kc jb jc=>pk2<|fz z (g4 (s0 i6 (s0 gY jb)) a6) hW fun kd jd je=>x9 z (m4 z (w5 0 s5 z)) z ⟨g0,g1,n,o,z,(x0 jd jc),je,z⟩ (aF [] z)
theorem eQ {a0:DCore}{a1:DGraph}{a2:DGraph}(hT:Tab F) (N:Fsl 64 KDData F C D a0.Datas) (P:Fsl 144 KDFun F E G a0.Funs) (H:Fsl 56 KDNode F b c a1.Nodes) (I:Fsl 56 KDNode F d f a2.Nodes) (hm:m_graph_Same g a0 a1 a2=some r):
    CallSp Tryz.prog 9 #[.agg #[sl C a0.Datas D,sl E a0.Funs G],.agg #[iV a1.Root,sl b a1.Nodes c],.agg #[iV a2.Root,sl d a2.Nodes f]] F [] (fun u F' H'=>u=(.tuple #[.bool r.1,iV r.2])∧H'=[]):=by
 unfold m_graph_Same at hm
 refine f1 Tryz.func9 z z fun b1 b2 b3=>ssr<|ba z fun J=>ba z fun l=>ba z fun m=>sg z<|sg z<|snn<|oD hm (fun o h s=>∃K:Unit,o=.inl K∧∃p,m3 F p∧h [(4,pP l 0),(5,pP m 0)]∧s p [bK l #[iV a1.Root,sl b a1.Nodes c] 28,bK m #[iV a2.Root,sl d a2.Nodes f] 28]) (fun o hm q=>?_) fun o q a w=>?_
 ·refine ssr<|lk 1 s5 z z<|lk 0 s5 z z<|v3 (e:=28) (cells:=#[iV a1.Root,sl b a1.Nodes c,iV a2.Root,sl d a2.Nodes f]) (A2 z) (fun _=>by kernel_rfl) z p1 fun L=>wr ([a1,a2]:List DGraph) 2 z z<|yv (u0 gM z) z<|mv z<|snn<|t1<|lM hm (fun t h s=>∃n,m3 F n∧h [(3,pP J 0),(4,pP l 0),(5,pP m 0),(13,.slice (bA L) ([a1,a2]:List DGraph).length 2),(14,iV (nI (([a1,a2]:List DGraph).length))),(15,nV t)]∧s n [bK J #[sl C a0.Datas D,sl E a0.Funs G] 25,bK l #[iV a1.Root,sl b a1.Nodes c] 28,bK m #[iV a2.Root,sl d a2.Nodes f] 28,rowo (bA L) ([a1,a2]:List DGraph).length 2 28 2 [iV a1.Root,sl b a1.Nodes c,iV a2.Root,sl d a2.Nodes f]]) ?_ ?_
  ·intro a w ha hs
   exact⟨F,(l0 _),cv ha,(am [3,2,1,0] hs z)⟩
  rintro t b4 b8 hm v a w ⟨n,i,ha,hs⟩
  refine us ha hs<|ssr<|yv (r2 z z) z<|snn<|x1<|cP hm z (fun Q hm=>?_) fun b9 hm=>?_
  ·refine skn<|x1<|t1<|ssr<|oS hm fun x R hm=>?_
   obtain⟨S,U,cs,V,W⟩:=(g4 i (show Cat KDGraph F [iV a1.Root,sl b a1.Nodes c,iV a2.Root,sl d a2.Nodes f] ([a1,a2]:List DGraph) from⟨[iV a1.Root,sl b a1.Nodes c],_,z,(DGraph.of H),⟨[iV a2.Root,sl d a2.Nodes f],_,z,(DGraph.of I),z⟩⟩)).nidx R
   obtain⟨X,Y,rfl,Z⟩:=DGraph.opn V
   refine s9 3 z (by omega) fun a3=>yv (t2 (f8 a3 S U) gN z z) z<|yv (v1 z (Loads.rAn (us:=[iV x.Root,sl X x.Nodes Y]) 3 z s5 (W))) z<|aa ab z fun cu=>sN s5 z z<|snn<|ssr<|lk 1 aX z z<|lk 0 s5 z z<|oS hm fun M a4 hm=>cl (r7 (a0:=a0) (a1:=x) (x0 i N) (x0 i P) Z a4) z z<|?_
   rintro _ a5 _ ⟨rfl,rfl⟩ a6
   refine sg z<|snn<|ssr<|mv z<|yv (p4 z z) z<|snn<|?_
   refine m5 z ?_ ?_
   ·intro y
    replace y:¬(M=0):=nd_t y
    replace hm:=iF hm y
    cases hm
    obtain rfl:=aR v
    obtain rfl:=aR q
    exact ssr<|mv z<|sg z<|sg z<|snn<|u2<|m2<|v0<|v0<|m2<|v0<|x9 z z z ⟨z,z⟩ (aF [] z)
   intro A
   replace A:M=0:=nd_f A
   replace hm:=iT hm A
   cases hm
   exact k4<|f2<|s4<|q0<|yv (s3 (j:=1) z z z (by have q_0:=Q;have q_1:=(show Bnd 32 ([a1,a2]:List DGraph) from⟨by simp,by simp⟩).2;omega)) z<|mv z<|snn fun a w ha hs=>⟨t+1,aL v,a5,(s0 i a6),cv ha,(am [1,1,1,1] hs z)⟩
  cases hm
  obtain rfl:=aR v
  exact u4<|p0<|p0<|u3 fun a w ha hs=>⟨(),z,n,i,cv ha,(am [1,1] hs z)⟩
 rintro⟨K,rfl,p,k,ha,hs⟩
 replace hm:=aL q
 refine us ha hs<|x1<|ds [3] hmix<|tk [4,5,6] 0 z (g5 0 s5 z) z z k1<|tk [4,5,6] 2 z (g5 1 s5 z) z z k1<|oN 1 z z fun a7=>oS hm fun c0 a8 hm=>cl (cq (a0:=a1) (Tab.mono k hT) (x0 k H) a8) z z<|?_
 rintro _ c1 _ ⟨rfl,rfl⟩ B
 refine m1 a7 (fun _=>(aG [0,0] B k z))<|oN 3 z z fun a9=>oS hm fun c2 b0 hm=>cl (cq (a0:=a2) (Tab.mono (s0 k B) hT) (x0 (s0 k B) I) b0) z z<|?_
 rintro _ c3 _ ⟨rfl,rfl⟩ c4
 cases hm
 exact m1 a9 (fun h=>by cases h)<|tp 4 z (fun _=>v6 z z) z z<|tp 5 z (fun _=>w4 z) z z<|tp 6 z (fun _=>w4 z) z z<|dn<|s4<|u2<|x9 z z z ⟨z,z⟩ (aF [] z)
theorem cG {a0:DGraph}(B:Fsl 56 KDNode F f i a0.Nodes) (p:Fsl 8 (Kind.int .i64) F b c a1) (hm:m_graph_IsKeep g a0 a1=some r):
    CallSp Tryz.prog 22 #[.agg #[iV a0.Root,sl f a0.Nodes i],sl b a1 c] F [] (fun u F' H'=>u=(iV r)∧H'=[]):=by
 unfold m_graph_IsKeep at hm
 refine f1 Tryz.func22 z z fun C D E=>ssr<|ba z fun d=>sg z<|snn<|oD hm (fun k h s=>∃q:Unit,k=.inl q∧h [(1,sl b a1 c)]∧s F []) (fun k hm l=>?_) fun k l a w=>?_
 ·refine ssr<|mv z<|yv (u0 aE z) z<|mv z<|snn<|t1<|lM hm (fun e h s=>h [(1,sl b a1 c),(2,pP d 0),(7,sl b a1 c),(8,lV a1),(9,nV e)]∧s F [bK d #[iV a0.Root,sl f a0.Nodes i] 28]) ?_ ?_
  ·intro a w ha hs
   exact⟨cv ha,(am [0] hs z)⟩
  rintro e G H hm m a w ⟨ha,hs⟩
  refine us ha hs<|ssr<|yv (r2 z z) z<|snn<|x1<|cP hm z (fun t hm=>?_) fun I hm=>?_
  ·refine skn<|x1<|t1<|ssr<|oS hm fun J v hm=>?_
   obtain⟨K,L,x,y,A⟩:=p.nidx v
   obtain rfl:=y
   refine yv (t2 x y9 z z) z<|yv (v1 z (k5 A r6 z)) z<|sg z<|snn<|oC hm (fun n h s=>h [(1,sl b a1 c),(2,pP d 0),(7,sl b a1 c),(8,lV a1),(9,nV e),(21,.bool n)]∧s F [bK d #[iV a0.Root,sl f a0.Nodes i] 28]) (fun n hm=>?_) fun n hm a w=>?_
   ·refine q0<|mv z<|?_
    rcases iS hm with⟨o,hm⟩|⟨o,hm⟩
    ·cases hm
     exact yv (t3 o (r2 z z)) z<|mv z<|un z z<|un z z<|un z z<|un z z<|un z z<|pt z<|u1<|eN [0] z
    cases hm
    exact yv (s2 o (r2 z z)) z<|mv z<|mw z z<|fw v4 z z<|lw 0 m8 z z<|yw (u0 be z) z z<|yw (u5 z z) z z<|pf z<|u1<|eN [0] z
   rintro⟨ha,hs⟩
   refine us ha hs<|cB hm z (fun M hm=>?_) fun N hm=>?_
   ·cases hm
    obtain rfl:=aR m
    obtain rfl:=aR l
    exact ssr<|sg z<|snn<|u2<|m2<|v0<|v0<|m2<|v0<|k0 z z ⟨z,z⟩ (aF [] z)
   cases hm
   exact k4<|f2<|s4<|q0<|yv (s3 (j:=1) z z z (by have q_0:=t;have q_1:=p.bnd.2;omega)) z<|mv z<|snn fun a w ha hs=>⟨e+1,aL m,cv ha,(am [0] hs z)⟩
  cases hm
  obtain rfl:=aR m
  exact u4<|p0<|p0<|u3 fun a w ha hs=>⟨(),z,cv ha,(am [] hs z)⟩
 rintro⟨q,rfl,ha,hs⟩
 replace hm:=aL l
 refine us ha hs<|x1<|ssr<|mv z<|yv (u0 aE z) z<|yv (t5 z z) z<|snn<|cP hm z (fun P hm=>?_) fun Q hm=>?_
 ·cases hm
  exact ssr<|sg z<|snn<|u2<|v0<|k0 z z ⟨z,z⟩ (aF [] z)
 cases hm
 exact skn<|ssr<|sg z<|snn<|u2<|k0 z z ⟨z,z⟩ (aF [] z)
theorem bO {a0:DCore}{a1:DGraph}(q:Fsl 64 KDData F s t a0.Datas) (w:Fsl 144 KDFun F x y a0.Funs) (c:Fsl 56 KDNode F A B a1.Nodes) (i:Fsl 8 (Kind.int .i64) F C D a2) (hm:m_graph_Clean g a0 a1 a2=some r):
    CallSp Tryz.prog 10 #[.agg #[sl s a0.Datas t,sl x a0.Funs y],.agg #[iV a1.Root,sl A a1.Nodes B],sl C a2 D] F [] (fun u F' H'=>∃j k l m,u=(.tuple #[.agg #[iV r.1.Root,sl j r.1.Nodes k],sl l r.2.1 m,iV r.2.2])∧Fsl 56 KDNode F' j k r.1.Nodes∧Fsl 8 (Kind.int .i64) F' l m r.2.1∧H'=[]):=by
 unfold m_graph_Clean at hm
 refine f1 Tryz.func10 z z fun P Q R=>ssr<|ba z fun S=>ba z fun U=>aa ab z fun V=>sg z<|sg z<|snn<|x1<|ssr<|lk 2 aX z z<|lk 1 s5 z z<|oS hm fun n E hm=>cl (r7 (a0:=a0) (a1:=a1) q w c E) z z<|?_
 rintro _ W _ ⟨rfl,rfl⟩ b
 refine sg z<|snn<|ssr<|mv z<|yv (p4 z z) z<|snn<|?_
 refine m5 z ?_ ?_
 ·intro d
  replace d:¬(n=0):=nd_t d
  replace hm:=iF hm d
  cases hm
  exact ssr<|yv (v2 (v:=(.agg #[iV 0,nS])) (vs:=#[]) (fun a _=>by simp) (fun _=>by kernel_rfl)) z<|mv z<|sN s5 z z<|sg z<|sg z<|snn<|u2<|v0<|k6 z (m4 z (w5 0 s5 z)) z z ⟨none,0,none,0,z,r3,r3,z⟩ (aF [] z)
 intro e
 replace e:n=0:=nd_f e
 replace hm:=iT hm e
 refine skn<|x1<|ssr<|lk 1 s5 z z<|mv z<|oS hm fun o G hm=>cl (cG (a0:=a1) (x0 b c) (x0 b i) G) z z<|?_
 rintro _ X _ ⟨rfl,rfl⟩ p
 refine sg z<|snn<|ssr<|mv z<|yv (p4 z z) z<|snn<|?_
 refine m5 z ?_ ?_
 ·intro f
  replace f:¬(o=0):=nd_t f
  replace hm:=iF hm f
  cases hm
  exact ssr<|yv (v2 (v:=(.agg #[iV 0,nS])) (vs:=#[]) (fun a _=>by simp) (fun _=>by kernel_rfl)) z<|mv z<|sN s5 z z<|sg z<|sg z<|snn<|u2<|v0<|k6 z (m4 z (w5 0 s5 z)) z z ⟨none,0,none,0,z,r3,r3,z⟩ (aF [] z)
 intro h
 replace h:o=0:=nd_f h
 replace hm:=iT hm h
 refine skn<|ssr<|lk 1 s5 z z<|mv z<|oS hm fun Y H hm=>cl (ac (a0:=a1) (x0 (s0 b p) c) (x0 (s0 b p) i) H) z z<|?_
 rintro _ Z _ ⟨I,J,K,L,rfl,M,N,rfl⟩ a3
 cases hm
 exact mv z<|yv (r0 z z) z<|yv (r0 z z) z<|aa ab z fun a4=>sN s5 z z<|sg z<|snn<|ssr<|lk 0 s5 z z<|mv z<|pk1<|sN s5 z z<|sg z<|sg z<|snn<|u2<|k6 z (m4 z (w5 0 s5 z)) z z ⟨I,J,K,L,z,M,N,z⟩ (aF [] z)
abbrev ag (g:Nat):Prop:=∀{F a0 a1 a2 a3 a4 a5 a6 a7 a8 a9 a10 a11 a12 a13 a14 a b c d e f h i j k l m E n o p q s t v w x y A B C D}(H:Mrel (Kind.int .i64) false F E a1) (I:Fsl 56 KDNode F n o a3) (J:Fsl 64 KDData F p q a6) (K:Fsl 64 KDData F s t a7) (L:Fsl 144 KDFun F v w a8) (M:Mrel (Kind.int .i64) false F x a9) (N:Mrel Kind.bool false F y a10) (P:Mrel (Kind.int .i64) false F A a11) (Q:Mrel (Kind.int .i64) false F B a12) (R:Mrel (Kind.int .i64) false F C a13) (S:Mrel (Kind.int .i64) false F D a14) {r}(_:m_graph_seer_isRead_f1 g a0 a1 a2 a3 a4 a5 a6 a7 a8 a9 a10 a11 a12 a13 a14=some r),
    CallSp Tryz.prog 79 #[iV a0,pP a 0,pP b 0,pP c 0] F [bK a #[.map (some d)] 124,bK b #[pP e 0] 123,bK c #[.func (.func 79) #[] #[pP a 0,pP b 0,pP c 0]] 145,mapv m6 d E,bK e #[pP f 0,iV a2,sl n a3 o,.map (some h),.map (some i),.bool a4,iV a5] 127,bK f #[.map (some j),.map (some k),.map (some l),sl p a6 q,sl s a7 t,sl v a8 w,.map (some m)] 81,mapv m6 h x,mapv m6 i y,mapv t0 j A,mapv t0 k B,mapv t0 l C,mapv t0 m D] (fun u F' H'=>∃G,u=(.bool r.1)∧Mrel (Kind.int .i64) false F' G r.2∧H'=[bK a #[.map (some d)] 124,bK b #[pP e 0] 123,bK c #[.func (.func 79) #[] #[pP a 0,pP b 0,pP c 0]] 145,mapv m6 d G,bK e #[pP f 0,iV a2,sl n a3 o,.map (some h),.map (some i),.bool a4,iV a5] 127,bK f #[.map (some j),.map (some k),.map (some l),sl p a6 q,sl s a7 t,sl v a8 w,.map (some m)] 81,mapv m6 h x,mapv m6 i y,mapv t0 j A,mapv t0 k B,mapv t0 l C,mapv t0 m D])
theorem cD (d6:ag g):ag (g+1):=by
 intro F a0 a1 a2 a3 a4 a5 a6 a7 a8 a9 a10 a11 a12 a13 a14 d f e i l m n o p q t u B G H I J K L M N P Q R S U V x cu c0 c1 c2 d7 d8 c3 c4 c5 c6 r hm
 rw [m_graph_seer_isRead_f1] at hm
 refine f1 Tryz.func79 z z fun g0 g1 g2=>ssr<|sg z<|snn<|x1<|ssr<|ld 0 ed z<|mv z<|oS hm fun g3 d9 hm=>?_
 obtain⟨g7,e0,hb,c7,e1⟩:=p6 (k:=a0) x (show Mval (Kind.int .i64) false _ (iV 0) 0 from⟨[iV 0],z,z⟩)
 rw [Mir.getD_some d9] at c7
 obtain rfl:=c7
 obtain rfl:=(List.cons.inj (if_neg (show¬(false=true) by decide)▸e1)).1
 refine yv (f7 z z 3 z cS dA eL e0) z<|snn<|t1<|ssr<|yv (w1 z z) z<|sg z<|snn<|cP hm z (fun hc hm=>?_) fun hd hm=>?_
 ·cases hm
  exact ssr<|sg z<|snn<|u2<|m2<|v0<|k0 z z ⟨B,z,x,z⟩ (aF [0,0,0,0,0,0,0,0,0,0,0,0] z)
 refine ssr<|yv (w1 z z) z<|sg z<|snn<|cP hm z (fun he hm=>?_) fun hf hm=>?_
 ·cases hm
  exact ssr<|sg z<|snn<|u2<|m2<|v0<|k0 z z ⟨B,z,x,z⟩ (aF [0,0,0,0,0,0,0,0,0,0,0,0] z)
 refine k4<|f2<|s4<|ssr<|ld 1 gq z<|yv (t4 z) z<|fa eH z<|fa fp z<|ld 4 m8 z<|mv z<|oS hm fun v e2 hm=>?_
 obtain⟨hg,hh,e3,e4,e5⟩:=cu.idx e2
 obtain⟨c8,c9,rfl,d1⟩:=DNode.opn e4
 refine yv (t2 e3 bz z z) z<|yv (v1 z (k3 e5 ak)) z<|aa cR z fun d2=>sN ak z z<|snn<|x1<|ds [6] hmix<|tk [1,2,4,7,8,9,10,11] 0 z (p3 2 gq z) z z k1<|tp 1 z (fun _=>t4 z) z z<|tp 2 z (fun _=>w3 eI z) z z<|tk [1,2,4,7,8,9,10,11] 3 z (p3 5 gG z) z z k1<|tp 4 z (fun _=>w3 u6 z) z z<|tk [1,2,4,7,8,9,10,11] 5 z (p3 0 r9 z) z z k1<|oN 6 z z fun e6=>pk12<|pk12<|pk12<|pk12<|pk10<|oS hm fun hi e7 hm=>cl (w6 c0 c1 c2 c3 c4 c5 c6 e7) z z<|?_
 rintro _ C _ ⟨rfl,rfl⟩ b
 refine m1 e6 (fun h=>by cases h)<|tp 7 z (fun _=>x2 z) z z<|tp 8 z (fun _=>r0 z z) z z<|tp 9 z (fun _=>r0 z z) z z<|tp 10 z (fun _=>w4 z) z z<|tp 11 z (fun _=>w4 z) z z<|dn<|s4<|x1<|oC hm (fun W h s=>h [(0,iV a0),(1,pP d 0),(3,pP e 0),(6,pP d2 0),(60,.bool W)]∧s C [mapv m6 i B,bK d #[.map (some i)] 124,mapv t0 p R,mapv t0 q S,mapv t0 t U,mapv t0 u V,bK m #[.map (some p),.map (some q),.map (some t),sl I a6 J,sl K a7 L,sl M a8 N,.map (some u)] 81,mapv m6 n P,mapv m6 o Q,bK l #[pP m 0,iV a2,sl G a3 H,.map (some n),.map (some o),.bool a4,iV a5] 127,bK f #[pP l 0] 123,bK e #[.func (.func 79) #[] #[pP d 0,pP f 0,pP e 0]] 145,bK d2 #[iV v.Op,sV v.Name,iV v.N,sl c8 v.Kids c9] 71]) (fun W hm=>?_) fun W hm a w=>?_
 ·refine q0<|fa v5 z<|ld 5 r6 z<|?_
  rcases iS hm with⟨X,hm⟩|⟨X,hm⟩
  ·refine yv (t3 X (w1 z z)) z<|mv z<|fw r5 z z<|lw 5 n9 z z<|yw (u0 aE z) z z<|mw z z<|?_
   rcases iS hm with⟨Y,hm⟩|⟨Y,hm⟩
   ·cases hm
    exact yw (t3 Y (u5 z z)) z z<|pt z<|mv z<|un z z<|un z z<|un z z<|pt z<|mv z<|un z z<|un z z<|un z z<|pt z<|mv z<|un z z<|un z z<|un z z<|pt z<|u1<|eN [9,6,1,1,1,1,0,4,4,3,1,1,0] z
   refine yw (s2 Y (u5 z z)) z z<|pt z<|mv z<|fw v5 z z<|lw 5 r6 z z<|?_
   rcases iS hm with⟨Z,hm⟩|⟨Z,hm⟩
   ·cases hm
    exact yw (t3 Z (w1 z z)) z z<|pf z<|mv z<|un z z<|un z z<|un z z<|pt z<|mv z<|un z z<|un z z<|un z z<|pt z<|u1<|eN [9,6,1,1,1,1,0,4,4,3,1,1,0] z
   refine yw (s2 Z (w1 z z)) z z<|pf z<|mv z<|fw v5 z z<|lw 5 r6 z z<|?_
   rcases iS hm with⟨b0,hm⟩|⟨b0,hm⟩
   ·cases hm
    exact yw (t3 b0 (w1 z z)) z z<|pf z<|mv z<|un z z<|un z z<|un z z<|pt z<|u1<|eN [9,6,1,1,1,1,0,4,4,3,1,1,0] z
   cases hm
   exact yw (s2 b0 (w1 z z)) z z<|pf z<|mv z<|fw v5 z z<|lw 5 r6 z z<|yw (w1 z z) z z<|pf z<|u1<|eN [9,6,1,1,1,1,0,4,4,3,1,1,0] z
  refine yv (s2 X (w1 z z)) z<|mv z<|un z z<|un z z<|un z z<|un z z<|un z z<|pf z<|mv z<|fw v5 z z<|lw 5 r6 z z<|?_
  rcases iS hm with⟨b1,hm⟩|⟨b1,hm⟩
  ·cases hm
   exact yw (t3 b1 (w1 z z)) z z<|pf z<|mv z<|un z z<|un z z<|un z z<|pt z<|mv z<|un z z<|un z z<|un z z<|pt z<|u1<|eN [9,6,1,1,1,1,0,4,4,3,1,1,0] z
  refine yw (s2 b1 (w1 z z)) z z<|pf z<|mv z<|fw v5 z z<|lw 5 r6 z z<|?_
  rcases iS hm with⟨b2,hm⟩|⟨b2,hm⟩
  ·cases hm
   exact yw (t3 b2 (w1 z z)) z z<|pf z<|mv z<|un z z<|un z z<|un z z<|pt z<|u1<|eN [9,6,1,1,1,1,0,4,4,3,1,1,0] z
  cases hm
  exact yw (s2 b2 (w1 z z)) z z<|pf z<|mv z<|fw v5 z z<|lw 5 r6 z z<|yw (w1 z z) z z<|pf z<|u1<|eN [9,6,1,1,1,1,0,4,4,3,1,1,0] z
 rintro⟨ha,hs⟩
 refine us ha hs<|cB hm z (fun hj hm=>?_) fun hk hm=>?_
 ·cases hm
  exact ssr<|sg z<|snn<|u2<|v0<|k0 z z ⟨B,z,(p2 b x),z⟩ (aF [1,9,9,0,7,4,4,4,0,0,0,0] z)
 refine skn<|ssr<|ld 1 ed z<|mv z<|oS hm fun hl e8 hm=>mP e8 (p2 b x) ⟨[iV 1],z,z⟩ cS dA z fun e9 fo=>snn<|oD hm (fun b3 h s=>∃b4:(List (Int×Int)),b3=.inl b4∧∃b5 D,m3 C D∧Mrel (Kind.int .i64) false D b5 b4∧h [(0,iV a0),(1,pP d 0)]∧s D [mapv m6 i b5,bK d #[.map (some i)] 124,mapv t0 p R,mapv t0 q S,mapv t0 t U,mapv t0 u V,bK m #[.map (some p),.map (some q),.map (some t),sl I a6 J,sl K a7 L,sl M a8 N,.map (some u)] 81,mapv m6 n P,mapv m6 o Q,bK l #[pP m 0,iV a2,sl G a3 H,.map (some n),.map (some o),.bool a4,iV a5] 127,bK f #[pP l 0] 123,bK e #[.func (.func 79) #[] #[pP d 0,pP f 0,pP e 0]] 145]) (fun b3 hm b6=>?_) fun b3 b6 a w=>?_
 ·refine ssr<|fa r5 z<|ld 12 n9 z<|yv (u0 aE z) z<|mv z<|snn<|t1<|lM hm (fun y h s=>∃E A,m3 C A∧Mrel (Kind.int .i64) false A E y.1∧h [(0,iV a0),(1,pP d 0),(3,pP e 0),(64,sl c8 v.Kids c9),(65,lV v.Kids),(66,nV y.2)]∧s A [mapv m6 i E,bK d #[.map (some i)] 124,mapv t0 p R,mapv t0 q S,mapv t0 t U,mapv t0 u V,bK m #[.map (some p),.map (some q),.map (some t),sl I a6 J,sl K a7 L,sl M a8 N,.map (some u)] 81,mapv m6 n P,mapv m6 o Q,bK l #[pP m 0,iV a2,sl G a3 H,.map (some n),.map (some o),.bool a4,iV a5] 127,bK f #[pP l 0] 123,bK e #[.func (.func 79) #[] #[pP d 0,pP f 0,pP e 0]] 145]) ?_ ?_
  ·intro a w ha hs
   exact⟨e9,C,(l0 _),fo,cv ha,(am [0,0,0,0,0,0,0,0,0,0,0,0] hs z)⟩
  rintro y hn ho hm b7 a w ⟨E,A,c,d3,ha,hs⟩
  refine us ha hs<|ssr<|yv (r2 z z) z<|snn<|x1<|cP hm z (fun f0 hm=>?_) fun hp hm=>?_
  ·refine skn<|x1<|t1<|ssr<|oS hm fun hq gP hm=>?_
   obtain⟨hr,ht,gQ,gR,gS⟩:=(x0 (s0 b c) d1).nidx gP
   obtain rfl:=gR
   refine yv (t2 gQ y9 z z) z<|yv (v1 z (k5 gS r6 z)) z<|sg z<|snn<|ssr<|ld 11 gj z<|mv z<|pk5<|pk5<|pk5<|pk5<|pk8<|pk8<|pk8<|pk9<|pk8<|pk11<|pk11<|pk11<|oS hm fun b8 gT hm=>cl (d6 d3 (x0 (s0 b c) cu) (x0 (s0 b c) c0) (x0 (s0 b c) c1) (x0 (s0 b c) c2) (p2 (s0 b c) d7) (p2 (s0 b c) d8) (p2 (s0 b c) c3) (p2 (s0 b c) c4) (p2 (s0 b c) c5) (p2 (s0 b c) c6) gT) z z<|?_
   rintro _ gU _ ⟨d4,rfl,d5,rfl⟩ gV
   refine yv (p5 z) z<|snn<|?_
   refine m5 z ?_ ?_
   ·intro b9
    replace b9:¬(b8.1=true):=nb_t b9
    replace hm:=iF hm b9
    cases hm
    obtain rfl:=aR b7
    obtain rfl:=aR b6
    exact ssr<|sg z<|snn<|u2<|m2<|v0<|v0<|m2<|v0<|k0 z z ⟨d4,z,d5,z⟩ (aF [0,0,0,0,0,0,0,0,0,0,0,0] z)
   intro cs
   replace cs:b8.1=true:=nb_f cs
   replace hm:=iT hm cs
   cases hm
   exact k4<|f2<|s4<|q0<|yv (s3 (j:=1) z z z (by have q_0:=f0;have q_1:=d1.bnd.2;omega)) z<|mv z<|snn fun a w ha hs=>⟨(b8.2,y.2+1),aL b7,d4,gU,(s0 c gV),d5,cv ha,(am [3,0,6,6,6,6,3,3,3,2,0,0] hs z)⟩
  cases hm
  obtain rfl:=aR b7
  exact u4<|p0<|p0<|u3 fun a w ha hs=>⟨y.1,z,E,A,c,d3,cv ha,(am [0,0,0,0,0,0,0,0,0,0,0,0] hs z)⟩
 rintro⟨b4,rfl,b5,D,hu,gW,ha,hs⟩
 replace hm:=aL b6
 refine us ha hs<|ssr<|ld 1 ed z<|mv z<|oS hm fun hv gX hm=>?_
 cases hm
 exact mP gX gW ⟨[iV 2],z,z⟩ cS dA z fun gY gZ=>snn<|ssr<|sg z<|snn<|u2<|k0 z z ⟨gY,z,gZ,z⟩ (aF [1,9,9,0,7,4,4,4,0,0,0,0] z)
theorem bb:∀{g},ag g
 |0=>by intros;rename_i hm;exact nN hm
 |_+1=>cD bb
theorem dd (V:Fsl 8 (Kind.int .i64) F W X a0) (b2:Fsl 56 KDNode F o p a2) (b3:Fsl 64 KDData F q t a5) (b4:Fsl 64 KDData F v x a6) (b5:Fsl 144 KDFun F y A a7) (b6:Mrel (Kind.int .i64) false F B a8) (b7:Mrel Kind.bool false F C a9) (b8:Mrel (Kind.int .i64) false F D a10) (b9:Mrel (Kind.int .i64) false F E a11) (cs:Mrel (Kind.int .i64) false F G a12) (cu:Mrel (Kind.int .i64) false F H a13) (hm:m_graph_seer_isRead g a0 a1 a2 a3 a4 a5 a6 a7 a8 a9 a10 a11 a12 a13=some r):
    CallSp Tryz.prog 53 #[pP m 0,sl W a0 X] F [bK m #[pP c 0,iV a1,sl o a2 p,.map (some d),.map (some e),.bool a3,iV a4] 127,bK c #[.map (some f),.map (some i),.map (some k),sl q a5 t,sl v a6 x,sl y a7 A,.map (some l)] 81,mapv m6 d B,mapv m6 e C,mapv t0 f D,mapv t0 i E,mapv t0 k G,mapv t0 l H] (fun u F' H'=>u=(.bool r)∧H'=[bK m #[pP c 0,iV a1,sl o a2 p,.map (some d),.map (some e),.bool a3,iV a4] 127,bK c #[.map (some f),.map (some i),.map (some k),sl q a5 t,sl v a6 x,sl y a7 A,.map (some l)] 81,mapv m6 d B,mapv m6 e C,mapv t0 f D,mapv t0 i E,mapv t0 k G,mapv t0 l H]):=by
 unfold m_graph_seer_isRead at hm
 refine f1 Tryz.func53 z z fun d2 d3 d4=>ssr<|bx z fun Y=>sg z<|snn<|ssr<|n4 (P:=Tryz.prog) m6 p1 z fun Z=>al gA z fun b0=>s1 ed z<|snn<|ssr<|al gz z fun J=>snn<|ssr<|yv (aH (fun _ _=>ev0) (fun _ ha=>ev3 ha z z z)) z<|s1 gj z<|snn<|oD hm (fun K h s=>∃b1:Unit,K=.inl b1∧∃L,m3 F L∧h []∧s L [mapv t0 f D,mapv t0 i E,mapv t0 k G,mapv t0 l H,bK c #[.map (some f),.map (some i),.map (some k),sl q a5 t,sl v a6 x,sl y a7 A,.map (some l)] 81,mapv m6 d B,mapv m6 e C,bK m #[pP c 0,iV a1,sl o a2 p,.map (some d),.map (some e),.bool a3,iV a4] 127]) (fun K hm M=>?_) fun K M a w=>?_
 ·refine ssr<|mv z<|yv (u0 aE z) z<|mv z<|snn<|t1<|lM hm (fun I h s=>∃N n,m3 F n∧Mrel (Kind.int .i64) false n N I.1∧h [(6,pP J 0),(11,sl W a0 X),(12,lV a0),(13,nV I.2)]∧s n [mapv t0 f D,mapv t0 i E,mapv t0 k G,mapv t0 l H,bK c #[.map (some f),.map (some i),.map (some k),sl q a5 t,sl v a6 x,sl y a7 A,.map (some l)] 81,mapv m6 d B,mapv m6 e C,bK m #[pP c 0,iV a1,sl o a2 p,.map (some d),.map (some e),.bool a3,iV a4] 127,mapv m6 Z N,bK b0 #[.map (some Z)] 124,bK Y #[pP m 0] 123,bK J #[.func (.func 79) #[] #[pP b0 0,pP Y 0,pP J 0]] 145]) ?_ ?_
  ·intro a w ha hs
   exact⟨[],F,(l0 _),(mN (Kind.int .i64) false),cv ha,(am [8,8,8,8,5,5,5,4,2,1,1,0] hs z)⟩
  rintro I d5 d6 hm Q a w ⟨N,n,b,c0,ha,hs⟩
  refine us ha hs<|ssr<|yv (r2 z z) z<|snn<|x1<|cP hm z (fun c1 hm=>?_) fun d7 hm=>?_
  ·refine skn<|x1<|t1<|ssr<|oS hm fun d8 c2 hm=>?_
   obtain⟨d9,e0,c3,c4,c5⟩:=(x0 b V).nidx c2
   obtain rfl:=c4
   refine yv (t2 c3 y9 z z) z<|yv (v1 z (k5 c5 r6 z)) z<|sg z<|snn<|ssr<|ld 11 gj z<|mv z<|pk3<|pk3<|pk3<|pk3<|pk6<|pk6<|pk6<|pk7<|pk8<|pk11<|pk11<|pk11<|oS hm fun R c6 hm=>cl (bb c0 (x0 b b2) (x0 b b3) (x0 b b4) (x0 b b5) (p2 b b6) (p2 b b7) (p2 b b8) (p2 b b9) (p2 b cs) (p2 b cu) c6) z z<|?_
   rintro _ c7 _ ⟨c8,rfl,c9,rfl⟩ d1
   refine yv (p5 z) z<|snn<|?_
   refine m5 z ?_ ?_
   ·intro S
    replace S:¬(R.1=true):=nb_t S
    replace hm:=iF hm S
    cases hm
    obtain rfl:=aR Q
    obtain rfl:=aR M
    exact ssr<|sg z<|snn<|u2<|m2<|v0<|v0<|m2<|v0<|k0 z z ⟨z,z⟩ (aF [4,4,4,4,4,4,4,4] z)
   intro U
   replace U:R.1=true:=nb_f U
   replace hm:=iT hm U
   cases hm
   exact k4<|f2<|s4<|q0<|yv (s3 (j:=1) z z z (by have q_0:=c1;have q_1:=V.bnd.2;omega)) z<|mv z<|snn fun a w ha hs=>⟨(R.2,I.2+1),aL Q,c8,c7,(s0 b d1),c9,cv ha,(am [8,8,8,8,5,5,5,4,3,0,0,0] hs z)⟩
  cases hm
  obtain rfl:=aR Q
  exact u4<|p0<|p0<|u3 fun a w ha hs=>⟨(),z,n,b,cv ha,(am [0,0,0,0,0,0,0,0] hs z)⟩
 rintro⟨b1,rfl,L,e1,ha,hs⟩
 replace hm:=aL M
 cases hm
 exact us ha hs<|ssr<|sg z<|snn<|u2<|k0 z z ⟨z,z⟩ (aF [7,4,4,4,0,0,0,0] z)
end Go.Proofs.YtjkcinpmbgcgpaaGreatDoor
