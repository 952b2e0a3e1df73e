/- Each function does what its plain words tell. -/
import Derived.Test.YtjkcinpmbgcgpaaGreatDoorW3
namespace Go.Proofs.YtjkcinpmbgcgpaaGreatDoor
open Go Go.Sy Go.RowKit
set_option linter.unusedVariables false
set_option autoImplicit true
set_option relaxedAutoImplicit true
set_option maxHeartbeats 1000000
open Go.Mir
abbrev aN (g:Nat):Prop:=∀{F a0 a1 a2 a3 a4 a5 a6 a7 a8 a9 a10 a11 a12 a13 i a b c d e f h j k l m n o p q x y s t v w}(E:Fsl 56 KDNode F j k a2) (G:Fsl 64 KDData F l m a5) (H:Fsl 64 KDData F n o a6) (I:Fsl 144 KDFun F p q a7) (J:Mrel (Kind.int .i64) false F x a8) (K:Mrel Kind.bool false F y a9) (L:Mrel (Kind.int .i64) false F s a10) (M:Mrel (Kind.int .i64) false F t a11) (N:Mrel (Kind.int .i64) false F v a12) (P:Mrel (Kind.int .i64) false F w a13) {r}(_:m_graph_seer_value g a0 a1 a2 a3 a4 a5 a6 a7 a8 a9 a10 a11 a12 a13=some r),
    CallSp Tryz.prog 54 #[pP i 0,iV a0] F [bK i #[pP a 0,iV a1,sl j a2 k,.map (some b),.map (some c),.bool a3,iV a4] 127,bK a #[.map (some d),.map (some e),.map (some f),sl l a5 m,sl n a6 o,sl p a7 q,.map (some h)] 81,mapv m6 b x,mapv m6 c y,mapv t0 d s,mapv t0 e t,mapv t0 f v,mapv t0 h w] (fun u F' H'=>∃A B C D,u=(.agg #[iV r.1.Op,sV r.1.Name,iV r.1.N,sl A r.1.Kids B])∧Fsl 56 KDValue F' A B r.1.Kids∧Mrel (Kind.int .i64) false F' C r.2.2.2.1∧Mrel Kind.bool false F' D r.2.2.2.2∧H'=[bK i #[pP a 0,iV a1,sl j a2 k,.map (some b),.map (some c),.bool r.2.1,iV r.2.2.1] 127,bK a #[.map (some d),.map (some e),.map (some f),sl l a5 m,sl n a6 o,sl p a7 q,.map (some h)] 81,mapv m6 b C,mapv m6 c D,mapv t0 d s,mapv t0 e t,mapv t0 f v,mapv t0 h w])
theorem dv (g0:aN g):aN (g+1):=by
 intro F a0 a1 a2 a3 a4 a5 a6 a7 a8 a9 a10 a11 a12 a13 x d f i l m n o A B C D E G H I W X J L M N d7 d8 d9 e0 P Z e1 e2 e3 e4 r hm
 rw [m_graph_seer_value] at hm
 refine f1 Tryz.func54 z z fun h1 h2 h3=>ssr<|aa go z fun p=>snn<|ssr<|mv z<|yv (t4 z) z<|fa eH z<|fa fp z<|ld 1 m8 z<|mv z<|oS hm fun c g1 hm=>?_
 obtain⟨h4,h5,g2,g3,g7⟩:=d7.idx g1
 obtain⟨c2,c3,rfl,e5⟩:=DNode.opn g3
 refine yv (t2 g2 bz z z) z<|yv (v1 z (k3 g7 ak)) z<|aa cR z fun b8=>sN ak z z<|snn<|x1<|ds [6] hmix<|tp 0 z (fun _=>x2 z) z z<|tp 1 z (fun _=>t4 z) z z<|tp 2 z (fun _=>w3 eI z) z z<|tk [0,1,2,4,7,8,9,10,11] 3 z (p3 2 gG z) z z k1<|tp 4 z (fun _=>w3 u6 z) z z<|tk [0,1,2,4,7,8,9,10,11] 5 z (p3 0 r9 z) z z k1<|oN 6 z z fun hb=>pk9<|pk9<|pk9<|pk9<|pk7<|oS hm fun h6 hc hm=>cl (w6 d8 d9 e0 e1 e2 e3 e4 hc) z z<|?_
 rintro _ Q _ ⟨rfl,rfl⟩ b
 refine m1 hb (fun h=>by cases h)<|tp 7 z (fun _=>x2 z) z z<|tp 8 z (fun _=>r0 z z) z z<|tp 9 z (fun _=>r0 z z) z z<|tp 10 z (fun _=>w4 z) z z<|tp 11 z (fun _=>w4 z) z z<|dn<|s4<|ssr<|mv z<|yv (t4 z) z<|fa bv z<|ld 7 r6 z<|yv (Yields.addw z z) z<|yv (t4 z) z<|fa bv z<|pk7<|sO r6 z z z z (cs':=#[pP d 0,iV a1,sl A a2 B,.map (some f),.map (some i),.bool a3,iV (Mir.w64 (a4+1))]) z<|snn<|x1<|oC hm (fun S h s=>h [(0,pP x 0),(1,iV a0),(4,pP p 0),(5,pP b8 0),(88,.bool S.2)]∧s Q [mapv t0 l J,mapv t0 m L,mapv t0 n M,mapv t0 o N,bK d #[.map (some l),.map (some m),.map (some n),sl C a5 D,sl E a6 G,sl H a7 I,.map (some o)] 81,mapv m6 f W,mapv m6 i X,bK x #[pP d 0,iV a1,sl A a2 B,.map (some f),.map (some i),.bool S.1,iV (Mir.w64 (a4+1))] 127,bK p #[iV 0,sV [],iV 0,nS] 45,bK b8 #[iV c.Op,sV c.Name,iV c.N,sl c2 c.Kids c3] 71]) (fun S hm=>?_) fun S hm a w=>?_
 ·refine q0<|mv z<|yv (t4 z) z<|fa cN z<|?_
  rcases iS hm with⟨c4,hm⟩|⟨c4,hm⟩
  ·have hd:(a3)=true:=c4
   try rw [hd]
   cases hm
   exact ld 0 dr z<|mv z<|un z z<|un z z<|un z z<|un z z<|un z z<|un z z<|pt z<|mv z<|un z z<|un z z<|un z z<|un z z<|un z z<|pt z<|mv z<|un z z<|un z z<|un z z<|un z z<|k2 p1 z z<|k2 p1 z z<|k2 p1 z z<|k2 p1 z z<|k2 p1 z z<|un z z<|pt z<|mv z<|un z z<|un z z<|un z z<|un z z<|k2 p1 z z<|k2 p1 z z<|k2 p1 z z<|un z z<|un z z<|k2 p1 z z<|k2 p1 z z<|k2 p1 z z<|un z z<|un z z<|k2 p1 z z<|k2 p1 z z<|k2 p1 z z<|un z z<|pt z<|u1<|eN [2,2,2,2,1,3,3,0,1,0] z
  have he:(a3)=false:=w2 c4
  try rw [he]
  refine ld 0 dr z<|mv z<|mw z z<|yw (t4 z) z z<|fw dI z z<|lw 0 gk z z<|mw z z<|oS hm fun h7 e6 hm=>?_
  rcases iS hm with⟨c5,hm⟩|⟨c5,hm⟩
  ·obtain⟨h8,hf,h9,e7,hg⟩:=p6 (k:=a0) (p2 b Z) (show Mval Kind.bool false _ (.bool false) false from⟨[.bool false],z,z⟩)
   rw [Mir.getD_some e6] at e7
   obtain rfl:=e7
   obtain rfl:=(List.cons.inj (if_neg (show¬(false=true) by decide)▸hg)).1
   cases hm
   exact yw (Yields.boolT c5 (f7 z z 9 z fX fY gp hf)) z z<|pf z<|mv z<|un z z<|un z z<|un z z<|un z z<|un z z<|pt z<|mv z<|un z z<|un z z<|un z z<|un z z<|k2 p1 z z<|k2 p1 z z<|k2 p1 z z<|k2 p1 z z<|k2 p1 z z<|un z z<|pt z<|mv z<|un z z<|un z z<|un z z<|un z z<|k2 p1 z z<|k2 p1 z z<|k2 p1 z z<|un z z<|un z z<|k2 p1 z z<|k2 p1 z z<|k2 p1 z z<|un z z<|un z z<|k2 p1 z z<|k2 p1 z z<|k2 p1 z z<|un z z<|pt z<|u1<|eN [2,2,2,2,1,3,3,0,1,0] z
  obtain⟨ia,hh,ib,e8,hi⟩:=p6 (k:=a0) (p2 b Z) (show Mval Kind.bool false _ (.bool false) false from⟨[.bool false],z,z⟩)
  rw [Mir.getD_some e6] at e8
  obtain rfl:=e8
  obtain rfl:=(List.cons.inj (if_neg (show¬(false=true) by decide)▸hi)).1
  refine yw (Yields.boolF c5 (f7 z z 9 z fX fY gp hh)) z z<|pf z<|mv z<|mw z z<|yw (t4 z) z z<|fw bv z z<|lw 0 r6 z z<|?_
  rcases iS hm with⟨c6,hm⟩|⟨c6,hm⟩
  ·cases hm
   exact yw (t3 c6 (t5 z z)) z z<|pf z<|mv z<|un z z<|un z z<|un z z<|un z z<|k2 p1 z z<|k2 p1 z z<|k2 p1 z z<|k2 p1 z z<|k2 p1 z z<|un z z<|pt z<|mv z<|un z z<|un z z<|un z z<|un z z<|k2 p1 z z<|k2 p1 z z<|k2 p1 z z<|un z z<|un z z<|k2 p1 z z<|k2 p1 z z<|k2 p1 z z<|un z z<|un z z<|k2 p1 z z<|k2 p1 z z<|k2 p1 z z<|un z z<|pt z<|u1<|eN [2,2,2,2,1,3,3,0,1,0] z
  refine yw (s2 c6 (t5 z z)) z z<|pf z<|mv z<|fw v5 z z<|lw 6 r6 z z<|?_
  rcases iS hm with⟨b5,hm⟩|⟨b5,hm⟩
  ·refine yw (t3 b5 (w1 z z)) z z<|mw z z<|fw r5 z z<|lw 6 n9 z z<|yw (u0 aE z) z z<|mw z z<|?_
   rcases iS hm with⟨c7,hm⟩|⟨c7,hm⟩
   ·cases hm
    exact yw (t3 c7 (u5 z z)) z z<|yw (f3 z z) z z<|pf z<|mv z<|un z z<|un z z<|un z z<|un z z<|k2 p1 z z<|k2 p1 z z<|k2 p1 z z<|un z z<|un z z<|k2 p1 z z<|k2 p1 z z<|k2 p1 z z<|un z z<|un z z<|k2 p1 z z<|k2 p1 z z<|k2 p1 z z<|un z z<|pt z<|u1<|eN [2,2,2,2,1,3,3,0,1,0] z
   cases hm
   exact yw (s2 c7 (u5 z z)) z z<|yw (f3 z z) z z<|pf z<|mv z<|fw v5 z z<|lw 6 r6 z z<|yw (g6 b5 (p4 z z)) z z<|mw z z<|un z z<|un z z<|un z z<|yw (n3 z z) z z<|mw z z<|un z z<|un z z<|un z z<|yw (n3 z z) z z<|mw z z<|un z z<|un z z<|un z z<|yw (n3 z z) z z<|pf z<|u1<|eN [2,2,2,2,1,3,3,0,1,0] z
  refine yw (s2 b5 (w1 z z)) z z<|mw z z<|un z z<|un z z<|un z z<|un z z<|un z z<|yw (n3 z z) z z<|pf z<|mv z<|fw v5 z z<|lw 6 r6 z z<|yw (t6 b5 (p4 z z)) z z<|mw z z<|fw v5 z z<|lw 6 r6 z z<|?_
  rcases iS hm with⟨c8,hm⟩|⟨c8,hm⟩
  ·cases hm
   exact yw (g6 c8 (p4 z z)) z z<|yw (f3 z z) z z<|mw z z<|un z z<|un z z<|un z z<|yw (n3 z z) z z<|mw z z<|un z z<|un z z<|un z z<|yw (n3 z z) z z<|pf z<|u1<|eN [2,2,2,2,1,3,3,0,1,0] z
  refine yw (t6 c8 (p4 z z)) z z<|yw (f3 z z) z z<|mw z z<|fw v5 z z<|lw 6 r6 z z<|?_
  rcases iS hm with⟨c9,hm⟩|⟨c9,hm⟩
  ·cases hm
   exact yw (g6 c9 (p4 z z)) z z<|yw (f3 z z) z z<|mw z z<|un z z<|un z z<|un z z<|yw (n3 z z) z z<|pf z<|u1<|eN [2,2,2,2,1,3,3,0,1,0] z
  cases hm
  exact yw (t6 c9 (p4 z z)) z z<|yw (f3 z z) z z<|mw z z<|fw v5 z z<|lw 6 r6 z z<|yw (p4 z z) z z<|yw (f3 z z) z z<|pf z<|u1<|eN [2,2,2,2,1,3,3,0,1,0] z
 rintro⟨ha,hs⟩
 refine us ha hs<|cB hm z (fun ic hm=>?_) fun ie hm=>?_
 ·refine oC hm (fun d1 h s=>h [(4,pP p 0)]∧s Q [mapv t0 l J,mapv t0 m L,mapv t0 n M,mapv t0 o N,bK d #[.map (some l),.map (some m),.map (some n),sl C a5 D,sl E a6 G,sl H a7 I,.map (some o)] 81,mapv m6 f W,mapv m6 i X,bK x #[pP d 0,iV a1,sl A a2 B,.map (some f),.map (some i),.bool d1,iV (Mir.w64 (a4+1))] 127,bK p #[iV 0,sV [],iV 0,nS] 45]) (fun d1 hm=>?_) fun d1 hm a w=>?_
  ·refine q0<|mv z<|mv z<|yv (t4 z) z<|fa cN z<|?_
   rcases iS hm with⟨d2,hm⟩|⟨d2,hm⟩
   ·have hj:(S.1)=true:=d2
    try rw [hj]
    cases hm
    exact ld 7 dr z<|mv z<|un z z<|un z z<|un z z<|un z z<|un z z<|pt z<|yv (t4 z) z<|fa cN z<|pk7<|sO dr z z z z (cs':=#[pP d 0,iV a1,sl A a2 B,.map (some f),.map (some i),.bool true,iV (Mir.w64 (a4+1))]) z<|u1<|eN [1,1,1,1,1,1,1,0,0] z
   have hk:(S.1)=false:=w2 d2
   try rw [hk]
   cases hm
   exact ld 7 dr z<|mv z<|mw z z<|yw (t4 z) z z<|fw bv z z<|lw 7 r6 z z<|yw (u7 z z) z z<|pf z<|yv (t4 z) z<|fa cN z<|pk7<|sO dr z z z z (cs':=#[pP d 0,iV a1,sl A a2 B,.map (some f),.map (some i),.bool (decide (Mir.w64 (a4+1)≤12000)),iV (Mir.w64 (a4+1))]) z<|u1<|eN [1,1,1,1,1,1,1,0,0] z
  rintro⟨ha,hs⟩
  cases hm
  exact us ha hs<|ssr<|yv (v2 (v:=(.agg #[iV 0,sV [],iV 0,nS])) (vs:=#[]) (fun a _=>by simp) (fun _=>by kernel_rfl)) z<|pk8<|sN ck z z<|snn<|u2<|v0<|k0 z (m4 z (w5 0 ck z)) ⟨none,0,W,X,z,r3,(p2 b P),(p2 b Z),z⟩ (aF [8,5,5,5,1,1,1,1] z)
 refine skn<|x1<|ssr<|fa v5 z<|ld 9 r6 z<|snn<|t1<|ssr<|yv (w1 z z) z<|sg z<|snn<|cP hm z (fun ig hm=>?_) fun ih hm=>?_
 ·cases hm
  exact ssr<|fa w8 z<|ld 9 r6 z<|yv (v2 (v:=(.agg #[iV 2,sV [],iV c.N,nS])) (A2 z) (fun _=>by kernel_rfl)) z<|pk8<|sN ck z z<|snn<|u2<|m2<|v0<|k0 z (m4 z (w5 0 ck z)) ⟨none,0,W,X,z,r3,(p2 b P),(p2 b Z),z⟩ (aF [8,5,5,5,1,1,1,1] z)
 refine ssr<|yv (w1 z z) z<|sg z<|snn<|cP hm z (fun ii hm=>?_) fun ij hm=>?_
 ·refine oC hm (fun d3 h s=>∃b9,Mrel (Kind.int .i64) false Q b9 d3∧h [(0,pP x 0),(1,iV a0),(4,pP p 0)]∧s Q [mapv t0 l J,mapv t0 m L,mapv t0 n M,mapv t0 o N,bK d #[.map (some l),.map (some m),.map (some n),sl C a5 D,sl E a6 G,sl H a7 I,.map (some o)] 81,mapv m6 f b9,mapv m6 i X,bK x #[pP d 0,iV a1,sl A a2 B,.map (some f),.map (some i),.bool S.1,iV (Mir.w64 (a4+1))] 127,bK p #[iV 0,sV [],iV 0,nS] 45]) (fun d3 hm=>?_) fun d3 hm a w=>?_
  ·refine ssr<|mv z<|yv (t4 z) z<|fa bX z<|ld 7 ed z<|mv z<|oS hm fun ik hl hm=>?_
   obtain⟨il,hn,im,e9,ho⟩:=p6 (k:=a0) (p2 b P) (show Mval (Kind.int .i64) false _ (iV 0) 0 from⟨[iV 0],z,z⟩)
   rw [Mir.getD_some hl] at e9
   obtain rfl:=e9
   obtain rfl:=(List.cons.inj (if_neg (show¬(false=true) by decide)▸ho)).1
   refine yv (bw z z 5 z cS dA eL hn (Mrel.look (k:=a0) (K:=(Kind.int .i64)) (agg:=false) (z0:=(iV 0)) (zd:=0) ⟨[iV 0],z,z⟩ (p2 b P)).2) z<|mv z<|yv (r0 z z) z<|yv (r0 z z) z<|sg z<|sg z<|snn<|ssr<|mv z<|yv (p5 z) z<|snn<|?_
   refine m5 z ?_ ?_
   ·intro d4
    replace d4:¬((Mir.assoc a8 a0).isSome=true):=nb_t d4
    replace hm:=iF hm d4
    refine ds [10] hmix<|tp 0 z (fun _=>x2 z) z z<|tp 1 z (fun _=>t4 z) z z<|tp 2 z (fun _=>w3 bX z) z z<|tk [0,1,2,4,5,6,7] 3 z (p3 7 ed z) z z k1<|tp 4 z (fun _=>x2 z) z z<|tp 5 z (fun _=>x2 z) z z<|tp 6 z (fun _=>t4 z) z z<|tp 7 z (fun _=>w3 bX z) z z<|tk [0,1,2,4,5,6,7] 8 z (p3 7 ed z) z z k1<|tk [0,1,2,4,5,6,7] 9 z (Yields.lenMap z 5 z cS (p2 b P).length) z z k1<|oN 10 z z fun hp=>oS hm fun io hq hm=>?_
    cases hm
    exact pk5<|mP hq (p2 b P) ⟨[lV a8],z,z⟩ cS dA z fun hr ht=>m1 hp (fun h=>by cases h)<|dn fun a w ha hs=>⟨hr,ht,cv ha,(am [1,1,1,1,1,0,0,0,0] hs z)⟩
   intro d5
   replace d5:(Mir.assoc a8 a0).isSome=true:=nb_f d5
   replace hm:=iT hm d5
   cases hm
   exact k4 fun a w ha hs=>⟨W,(p2 b P),cv ha,(am [0,0,0,0,0,0,0,0,0] hs z)⟩
  rintro⟨b9,fo,ha,hs⟩
  refine us ha hs<|ssr<|mv z<|yv (t4 z) z<|fa bX z<|ld 7 ed z<|mv z<|oS hm fun hu hv hm=>?_
  obtain⟨ip,hw,iq,f0,hx⟩:=p6 (k:=a0) fo (show Mval (Kind.int .i64) false _ (iV 0) 0 from⟨[iV 0],z,z⟩)
  rw [Mir.getD_some hv] at f0
  obtain rfl:=f0
  obtain rfl:=(List.cons.inj (if_neg (show¬(false=true) by decide)▸hx)).1
  cases hm
  exact yv (f7 z z 5 z cS dA eL hw) z<|yv (v2 (v:=(.agg #[iV 3,sV [],iV hu,nS])) (A2 z) (fun _=>by kernel_rfl)) z<|pk8<|sN ck z z<|snn<|u2<|m2<|v0<|k0 z (m4 z (w5 0 ck z)) ⟨none,0,b9,X,z,r3,fo,(p2 b Z),z⟩ (aF [8,5,5,5,1,1,1,1] z)
 refine k4<|f2<|s4<|ssr<|fa u6 z<|ld 9 r9 z<|yv (v2 (v:=(.agg #[iV 1,sV c.Name,iV 0,nS])) (A2 z) (fun _=>by kernel_rfl)) z<|aa go z fun U=>sN ck z z<|snn<|oC hm (fun V h s=>h [(0,pP x 0),(1,iV a0),(4,pP p 0),(5,pP b8 0),(10,pP U 0)]∧s Q [mapv t0 l J,mapv t0 m L,mapv t0 n M,mapv t0 o N,bK d #[.map (some l),.map (some m),.map (some n),sl C a5 D,sl E a6 G,sl H a7 I,.map (some o)] 81,mapv m6 f W,mapv m6 i X,bK x #[pP d 0,iV a1,sl A a2 B,.map (some f),.map (some i),.bool S.1,iV (Mir.w64 (a4+1))] 127,bK p #[iV 0,sV [],iV 0,nS] 45,bK b8 #[iV c.Op,sV c.Name,iV c.N,sl c2 c.Kids c3] 71,bK U #[nV V,sV c.Name,iV 0,nS] 45]) (fun V hm=>?_) fun V hm a w=>?_
 ·refine ssr<|fa v5 z<|ld 10 r6 z<|yv (w1 z z) z<|snn<|cP hm z (fun ir hm=>?_) fun it hm=>?_
  ·cases hm
   exact q0<|fa cC z<|sO r6 z z z z (cs':=#[iV 4,sV c.Name,iV 0,nS]) z<|u1<|eN [1,1,1,1,1,1,1,1,1,1,0] z
  cases hm
  exact k4 fun a w ha hs=>⟨cv ha,(am [1,1,1,1,1,1,1,1,1,1,0] hs z)⟩
 rintro⟨ha,hs⟩
 refine us ha hs<|ssr<|mv z<|yv (t4 z) z<|fa dI z<|ld 7 gk z<|mv z<|oS hm fun iu hy hm=>pk6<|mP hy (p2 b Z) ⟨[.bool true],z,z⟩ fX fY z fun hz hA=>snn<|oC hm (fun q h s=>∃b6 d6 b0 b1 cs b2,m3 Q b2∧Mrel (Kind.int .i64) false b2 b6 q.1∧Mrel Kind.bool false b2 d6 q.2.1∧Cat KDValue b2 cs q.2.2.2.2∧Bnd 56 q.2.2.2.2∧h [(0,pP x 0),(1,iV a0),(4,pP p 0),(10,pP U 0)]∧s b2 [mapv t0 l J,mapv t0 m L,mapv t0 n M,mapv t0 o N,bK d #[.map (some l),.map (some m),.map (some n),sl C a5 D,sl E a6 G,sl H a7 I,.map (some o)] 81,mapv m6 f b6,mapv m6 i d6,bK x #[pP d 0,iV a1,sl A a2 B,.map (some f),.map (some i),.bool q.2.2.1,iV q.2.2.2.1] 127,bK p #[iV 0,sV [],iV 0,nS] 45,bK U #[nV V,sV c.Name,iV 0,sl b0 q.2.2.2.2 b1] 45,rowo b0 q.2.2.2.2.length b1 45 4 cs]) (fun q hm=>?_) fun q hm a w=>?_
 ·refine ssr<|fa r5 z<|ld 9 n9 z<|yv (u0 aE z) z<|mv z<|snn<|t1<|lM hm (fun t h s=>∃cu c0 b3 b4 b7 Y,m3 Q Y∧Mrel (Kind.int .i64) false Y cu t.1∧Mrel Kind.bool false Y c0 t.2.1∧Cat KDValue Y b7 t.2.2.2.2.1∧Bnd 56 t.2.2.2.2.1∧h [(0,pP x 0),(1,iV a0),(4,pP p 0),(10,pP U 0),(154,sl c2 c.Kids c3),(155,lV c.Kids),(156,nV t.2.2.2.2.2)]∧s Y [mapv t0 l J,mapv t0 m L,mapv t0 n M,mapv t0 o N,bK d #[.map (some l),.map (some m),.map (some n),sl C a5 D,sl E a6 G,sl H a7 I,.map (some o)] 81,mapv m6 f cu,mapv m6 i c0,bK x #[pP d 0,iV a1,sl A a2 B,.map (some f),.map (some i),.bool t.2.2.1,iV t.2.2.2.1] 127,bK p #[iV 0,sV [],iV 0,nS] 45,bK U #[nV V,sV c.Name,iV 0,sl b3 t.2.2.2.2.1 b4] 45,rowo b3 t.2.2.2.2.1.length b4 45 4 b7]) ?_ ?_
  ·exact n6 45 4 fun a w ha hs=>⟨W,hz,none,0,[],Q,(l0 _),(p2 b P),hA,(show Cat KDValue _ [] [] from z),r8,cv ha,(am [2,2,2,2,2,2,1,1,1,2,0] hs z)⟩
  rintro t iv iw hm gP a w ⟨cu,c0,b3,b4,b7,Y,u,gQ,gR,gS,hB,ha,hs⟩
  refine us ha hs<|ssr<|yv (r2 z z) z<|snn<|x1<|cP hm z (fun hC hm=>?_) fun ix hm=>?_
  ·refine skn<|x1<|t1<|ssr<|oS hm fun iy hD hm=>?_
   obtain⟨iz,iA,hE,hF,hG⟩:=(x0 (s0 b u) e5).nidx hD
   obtain rfl:=hF
   refine yv (t2 hE y9 z z) z<|yv (v1 z (k5 hG r6 z)) z<|sg z<|snn<|StD.start [6,8] [mapv t0 l J,mapv t0 m L,mapv t0 n M,mapv t0 o N,bK d #[.map (some l),.map (some m),.map (some n),sl C a5 D,sl E a6 G,sl H a7 I,.map (some o)] 81,bK p #[iV 0,sV [],iV 0,nS] 45,bK U #[nV V,sV c.Name,iV 0,sl b3 t.2.2.2.2.1 b4] 45,rowo b3 t.2.2.2.2.1.length b4 45 4 b7] hmix<|tp 0 z (fun _=>w3 aS z) z z<|tk [0,2,3,7] 1 z (p3 6 dK z) z z (p9 (r1 0 z z (r1 0 z z (r1 0 z z (r1 0 z z (r1 0 z z (r1 3 z z (r1 3 z z (r1 3 z z t7)))))))))<|tp 2 z (fun _=>x2 z) z z<|tp 3 z (fun _=>x2 z) z z<|oN 4 z z fun hH=>pk3<|pk3<|pk3<|pk3<|pk6<|pk6<|pk6<|pk7<|oS hm fun y hI hm=>cl (g0 (x0 (s0 b u) d7) (x0 (s0 b u) d8) (x0 (s0 b u) d9) (x0 (s0 b u) e0) gQ gR (p2 (s0 b u) e1) (p2 (s0 b u) e2) (p2 (s0 b u) e3) (p2 (s0 b u) e4) hI) z z<|?_
   rintro _ hJ _ ⟨gT,gU,hK,hL,rfl,hM,hN,hO,rfl⟩ c1
   refine m1 hH (fun _=>(aG [4,4,4,4,1,3,3,3] c1 (s0 b u) z))<|oN 5 z z fun hP=>v3 (e:=45) (cells:=#[iV y.1.Op,sV y.1.Name,iV y.1.N,sl gT y.1.Kids gU]) (A2 z) (fun _=>by kernel_rfl) z p1 fun iB=>m1 hP (fun _=>(aG [5,5,5,5,2,4,4,4] c1 (s0 b u) z))<|oN 6 z z fun hQ=>oS hm fun gV gW hm=>?_
   cases hm
   exact pk11<|pL gW fQ z z z z z (g4 c1 gS) ⟨[iV y.1.Op,sV y.1.Name,iV y.1.N,sl gT y.1.Kids gU],_,z,(DValue.of hM),z⟩ z fun gX gY hR hS=>m1 hQ (fun h=>by cases h)<|tp 7 z (fun _=>w3 aS z) z z<|oN 8 z z fun hT=>pk10<|sO dK z z z z (cs':=#[nV V,sV c.Name,iV 0,sl gX gV gY]) z<|m1 hT (fun h=>by cases h)<|dn<|f2<|s4<|q0<|yv (s3 (j:=1) z z z (by have q_0:=hC;have q_1:=e5.bnd.2;omega)) z<|mv z<|snn fun a w ha hs=>⟨(y.2.2.2.1,y.2.2.2.2,y.2.1,y.2.2.1,gV,t.2.2.2.2.2+1),aL gP,hK,hL,gX,gY,hR,hJ,(s0 u c1),hN,hO,hS,(f4 gW),cv ha,(am [6,6,6,6,3,3,3,2,2,0,0] hs z)⟩
  cases hm
  obtain rfl:=aR gP
  exact u4<|p0<|p0<|u3 fun a w ha hs=>⟨cu,c0,b3,b4,b7,Y,u,gQ,gR,gS,hB,cv ha,(am [0,0,0,0,0,0,0,0,0,0,0] hs z)⟩
 rintro⟨b6,d6,b0,b1,cs,b2,iC,hU,hV,hW,hX,ha,hs⟩
 cases hm
 exact us ha hs<|ssr<|mv z<|yv (t4 z) z<|fa dI z<|ld 7 gk z<|mv z<|St.mapDelK (R:=[mapv t0 l J,mapv t0 m L,mapv t0 n M,mapv t0 o N,bK d #[.map (some l),.map (some m),.map (some n),sl C a5 D,sl E a6 G,sl H a7 I,.map (some o)] 81,mapv m6 f b6,bK x #[pP d 0,iV a1,sl A a2 B,.map (some f),.map (some i),.bool q.2.2.1,iV q.2.2.2.1] 127,bK p #[iV 0,sV [],iV 0,nS] 45,bK U #[nV V,sV c.Name,iV 0,sl b0 q.2.2.2.2 b1] 45,rowo b0 q.2.2.2.2.length b1 45 4 cs]) hV z z 6 z z fX fY p1 fun hY hZ=>snn<|ssr<|lk 9 ck z z<|pk8<|sN ck z z<|snn<|u2<|pk10<|fz z hW hX fun iD gZ h0=>k0 z (m4 z (w5 0 ck z)) ⟨b0,b1,b6,hY,z,h0,(p2 gZ hU),(p2 gZ hZ),z⟩ (aF [8,6,6,1,1,1,1,1] z)
theorem bJ:∀{g},aN g
 |0=>by intros;rename_i hm;exact nN hm
 |_+1=>dv bJ
abbrev cp (g:Nat):Prop:=∀{F}{a0:DValue}{a1 a b}(c:Fsl 56 KDValue F a b a0.Kids) {r}(_:m_graph_deep g a0 a1=some r),
    CallSp Tryz.prog 55 #[.agg #[iV a0.Op,sV a0.Name,iV a0.N,sl a a0.Kids b],iV a1] F [] (fun u F' H'=>u=(.bool r)∧H'=[])
theorem eP (n:cp g):cp (g+1):=by
 intro F a0 a1 o p l r hm
 rw [m_graph_deep] at hm
 refine f1 Tryz.func55 z z fun E G H=>ssr<|ba z fun I=>sg z<|snn<|x1<|ssr<|mv z<|yv (r2 z z) z<|snn<|cP hm z (fun J hm=>?_) fun K hm=>?_
 ·cases hm
  exact ssr<|sg z<|snn<|u2<|v0<|k0 z z ⟨z,z⟩ (aF [] z)
 refine skn<|oD hm (fun c h s=>∃m:Unit,c=.inl m∧∃d,m3 F d∧h []∧s d []) (fun c hm e=>?_) fun c e a w=>?_
 ·refine ssr<|fa aS z<|ld 0 dK z<|yv (u0 fI z) z<|mv z<|snn<|t1<|lM hm (fun f h s=>∃b,m3 F b∧h [(1,iV a1),(10,sl o a0.Kids p),(11,lV a0.Kids),(12,nV f)]∧s b []) ?_ ?_
  ·intro a w ha hs
   exact⟨F,(l0 _),cv ha,(am [] hs z)⟩
  rintro f L M hm i a w ⟨b,k,ha,hs⟩
  refine us ha hs<|ssr<|yv (r2 z z) z<|snn<|x1<|cP hm z (fun q hm=>?_) fun N hm=>?_
  ·refine skn<|x1<|t1<|ssr<|oS hm fun t u hm=>?_
   obtain⟨P,Q,v,x,y⟩:=(x0 k l).nidx u
   obtain⟨R,S,rfl,A⟩:=DValue.opn x
   refine yv (t2 v fQ z z) z<|yv (v1 z (k3 y ck)) z<|aa go z fun U=>sN ck z z<|snn<|ssr<|lk 0 ck z z<|mv z<|yv (Yields.subw z z) z<|oS hm fun V B hm=>cl (n (a0:=t) A B) z z<|?_
   rintro _ C _ ⟨rfl,rfl⟩ D
   refine snn<|cB hm z (fun W hm=>?_) fun X hm=>?_
   ·cases hm
    obtain rfl:=aR i
    obtain rfl:=aR e
    exact ssr<|sg z<|snn<|u2<|m2<|v0<|v0<|m2<|v0<|k0 z z ⟨z,z⟩ (aF [] z)
   cases hm
   exact k4<|f2<|s4<|q0<|yv (s3 (j:=1) z z z (by have q_0:=q;have q_1:=l.bnd.2;omega)) z<|mv z<|snn fun a w ha hs=>⟨f+1,aL i,C,(s0 k D),cv ha,(am [] hs z)⟩
  cases hm
  obtain rfl:=aR i
  exact u4<|p0<|p0<|u3 fun a w ha hs=>⟨(),z,b,k,cv ha,(am [] hs z)⟩
 rintro⟨m,rfl,d,Y,ha,hs⟩
 replace hm:=aL e
 cases hm
 exact us ha hs<|ssr<|sg z<|snn<|u2<|k0 z z ⟨z,z⟩ (aF [] z)
theorem dk:∀{g},cp g
 |0=>by intros;rename_i hm;exact nN hm
 |_+1=>eP dk
theorem eg {a0:DGraph}(e9:Fsl 56 KDNode F K L a0.Nodes) (fo:Fsl 8 (Kind.int .i64) F hk hl a1) (f0:Fsl 64 KDData F M N a2) (gP:Fsl 64 KDData F Q R a3) (gQ:Fsl 144 KDFun F S U a4) (gR:Mrel (Kind.int .i64) false F V a5) (gS:Mrel (Kind.int .i64) false F W a6) (gT:Mrel (Kind.int .i64) false F X a7) (gU:Mrel (Kind.int .i64) false F Y a8) (hm:m_graph_ReadOf g a0 a1 a2 a3 a4 a5 a6 a7 a8=some r):
    CallSp Tryz.prog 24 #[pP i 0,.agg #[iV a0.Root,sl K a0.Nodes L],sl hk a1 hl] F [bK i #[.map (some k),.map (some l),.map (some m),sl M a2 N,sl Q a3 R,sl S a4 U,.map (some n)] 81,mapv t0 k V,mapv t0 l W,mapv t0 m X,mapv t0 n Y] (fun u F' H'=>∃gV gW gX gY,u=(.tuple #[.agg (gv r.1 gV gW gX gY),.bool r.2.1,iV r.2.2])∧Fsl 56 KDValue F' gV gW r.1.V.Kids∧Fsl 56 KDValue F' gX gY r.1.B∧H'=[bK i #[.map (some k),.map (some l),.map (some m),sl M a2 N,sl Q a3 R,sl S a4 U,.map (some n)] 81,mapv t0 k V,mapv t0 l W,mapv t0 m X,mapv t0 n Y]):=by
 unfold m_graph_ReadOf at hm
 refine f1 Tryz.func24 z z fun hU hV hW=>ssr<|ba z fun hX=>aa gf z fun t=>sg z<|sg z<|snn<|ssr<|mv z<|lk 1 s5 z z<|n4 (P:=Tryz.prog) m6 p1 z fun x=>n4 (P:=Tryz.prog) m6 p1 z fun y=>yv (v2 (v:=(.agg #[pP i 0,iV a0.Root,sl K a0.Nodes L,.map (some x),.map (some y),.bool false,iV 0])) (A2 z) (fun _=>by kernel_rfl)) z<|ba z fun E=>sg z<|snn<|x1<|ssr<|mv z<|fa y8 z<|ld 4 r6 z<|v3 (e:=3) (cells:=#[iV a0.Root]) (A2 z) (fun _=>by kernel_rfl) z p1 fun hY=>wr ([a0.Root]:List Int) 1 z z<|mv z<|oS hm fun hn gZ hm=>pS gZ y9 z z z z (n5 (D:=Kind.int .i64) z z) fo z fun ho hp hq hr=>pk10<|pk10<|pk10<|pk10<|pk6<|pk7<|pk10<|pk8<|oS hm fun g0 ht hm=>cl (CallSp.lend (Hl:=[rowo ho hn.length hp 3 1 hq]) (fun m_ hm_ hd_ h1_ h2_=>(dd (lentR hm_ 0 z z hr (f4 gZ) h1_ h2_) (x0 h1_ e9) (x0 h1_ f0) (x0 h1_ gP) (x0 h1_ gQ) (p2 h1_ (mN (Kind.int .i64) false)) (p2 h1_ (mN Kind.bool false)) (p2 h1_ gR) (p2 h1_ gS) (p2 h1_ gT) (p2 h1_ gU) ht).mono (fun _ _ _ h_ _ _=>h_))) z z<|?_
 rintro _ c9 _ ⟨_,rfl,rfl,rfl⟩ o
 refine yv (p5 z) z<|snn<|?_
 refine m5 z ?_ ?_
 ·intro d1
  replace d1:¬(g0=true):=nb_t d1
  replace hm:=iF hm d1
  cases hm
  exact ssr<|yv (v2 (v:=(.agg #[iV 0,sV [],iV 0,nS,nS])) (vs:=#[]) (fun a _=>by simp) (fun _=>by kernel_rfl)) z<|pk9<|sN db z z<|sg z<|sg z<|snn<|u2<|v0<|k6 z (m4 z (w5 0 db z)) z z ⟨none,0,none,0,z,r3,r3,z⟩ (aF [2,4,4,4,4] z)
 intro d2
 replace d2:g0=true:=nb_f d2
 replace hm:=iT hm d2
 refine skn<|ssr<|aa gf z fun A=>snn<|oD hm (fun d3 h s=>∃f:(List (Int×Int))×(List (Int×Bool))×Bool×Int×Int×List UInt8×Int×List DValue×List DValue,d3=.inl f∧∃d4 d5 b5 b6 b0 b1 cu G,m3 c9 G∧Mrel (Kind.int .i64) false G d4 f.1∧Mrel Kind.bool false G d5 f.2.1∧Fsl 56 KDValue G b5 b6 f.2.2.2.2.2.2.2.1∧Cat KDValue G cu f.2.2.2.2.2.2.2.2∧Bnd 56 f.2.2.2.2.2.2.2.2∧h [(6,pP t 0),(9,pP E 0),(10,pP A 0)]∧s G [mapv t0 k V,mapv t0 l W,mapv t0 m X,mapv t0 n Y,bK i #[.map (some k),.map (some l),.map (some m),sl M a2 N,sl Q a3 R,sl S a4 U,.map (some n)] 81,bK t #[iV 0,sV [],iV 0,nS,nS] 47,mapv m6 x d4,mapv m6 y d5,bK E #[pP i 0,iV a0.Root,sl K a0.Nodes L,.map (some x),.map (some y),.bool f.2.2.1,iV f.2.2.2.1] 127,bK A #[iV f.2.2.2.2.1,sV f.2.2.2.2.2.1,iV f.2.2.2.2.2.2.1,sl b5 f.2.2.2.2.2.2.2.1 b6,sl b0 f.2.2.2.2.2.2.2.2 b1] 47,rowo b0 f.2.2.2.2.2.2.2.2.length b1 45 4 cu]) (fun d3 hm d6=>?_) fun d3 d6 a w=>?_
 ·refine ssr<|fa y8 z<|ld 11 r6 z<|v3 (e:=3) (cells:=#[iV a0.Root]) (A2 z) (fun _=>by kernel_rfl) z p1 fun hZ=>wr ([a0.Root]:List Int) 1 z z<|mv z<|oS hm fun B g1 hm=>pS g1 y9 z z z z (n5 (D:=Kind.int .i64) z z) (x0 o fo) z fun b2 b3 d7 hu=>yv (u0 aE z) z<|mv z<|snn<|t1<|lM hm (fun b h s=>∃c0 c1 Z a9 H I b4 C,m3 c9 C∧Mrel (Kind.int .i64) false C c0 b.1∧Mrel Kind.bool false C c1 b.2.1∧Fsl 56 KDValue C Z a9 b.2.2.2.2.2.2.2.1∧Cat KDValue C b4 b.2.2.2.2.2.2.2.2.1∧Bnd 56 b.2.2.2.2.2.2.2.2.1∧h [(6,pP t 0),(9,pP E 0),(10,pP A 0),(33,sl b2 B b3),(34,lV B),(35,nV b.2.2.2.2.2.2.2.2.2)]∧s C [mapv t0 k V,mapv t0 l W,mapv t0 m X,mapv t0 n Y,bK i #[.map (some k),.map (some l),.map (some m),sl M a2 N,sl Q a3 R,sl S a4 U,.map (some n)] 81,bK t #[iV 0,sV [],iV 0,nS,nS] 47,mapv m6 x c0,mapv m6 y c1,bK E #[pP i 0,iV a0.Root,sl K a0.Nodes L,.map (some x),.map (some y),.bool b.2.2.1,iV b.2.2.2.1] 127,bK A #[iV b.2.2.2.2.1,sV b.2.2.2.2.2.1,iV b.2.2.2.2.2.2.1,sl Z b.2.2.2.2.2.2.2.1 a9,sl H b.2.2.2.2.2.2.2.2.1 I] 47,rowo H b.2.2.2.2.2.2.2.2.1.length I 45 4 b4,rowo b2 B.length b3 3 1 d7]) ?_ ?_
  ·exact n6 45 4 fun a w ha hs=>⟨[],[],none,0,none,0,[],c9,(l0 _),(p2 o (mN (Kind.int .i64) false)),(p2 o (mN Kind.bool false)),r3,(show Cat KDValue _ [] [] from z),r8,cv ha,(am [7,7,7,7,4,7,4,4,3,2,0,0] hs z)⟩
  rintro b h0 h1 hm d8 a w ⟨c0,c1,Z,a9,H,I,b4,C,p,g2,g3,g7,d9,hb,ha,hs⟩
  refine us ha hs<|ssr<|yv (r2 z z) z<|snn<|x1<|cP hm z (fun hv hm=>?_) fun h2 hm=>?_
  ·refine skn<|oD hm (fun e0 h s=>∃d:(List (Int×Int))×(List (Int×Bool))×Bool×Int×Int×List UInt8×Int×List DValue×List DValue,e0=.inl d∧∃c2 c3 c4 c5 c6 c7 c8 J,m3 C J∧Mrel (Kind.int .i64) false J c2 d.1∧Mrel Kind.bool false J c3 d.2.1∧Fsl 56 KDValue J c4 c5 d.2.2.2.2.2.2.2.1∧Cat KDValue J c8 d.2.2.2.2.2.2.2.2∧Bnd 56 d.2.2.2.2.2.2.2.2∧h [(6,pP t 0),(9,pP E 0),(10,pP A 0),(33,sl b2 B b3),(34,lV B),(35,nV b.2.2.2.2.2.2.2.2.2)]∧s J [mapv t0 k V,mapv t0 l W,mapv t0 m X,mapv t0 n Y,bK i #[.map (some k),.map (some l),.map (some m),sl M a2 N,sl Q a3 R,sl S a4 U,.map (some n)] 81,bK t #[iV 0,sV [],iV 0,nS,nS] 47,mapv m6 x c2,mapv m6 y c3,bK E #[pP i 0,iV a0.Root,sl K a0.Nodes L,.map (some x),.map (some y),.bool d.2.2.1,iV d.2.2.2.1] 127,bK A #[iV d.2.2.2.2.1,sV d.2.2.2.2.2.1,iV d.2.2.2.2.2.2.1,sl c4 d.2.2.2.2.2.2.2.1 c5,sl c6 d.2.2.2.2.2.2.2.2 c7] 47,rowo c6 d.2.2.2.2.2.2.2.2.length c7 45 4 c8,rowo b2 B.length b3 3 1 d7]) (fun e0 hm e1=>?_) fun e0 e1 a w=>?_
   ·refine t1<|ssr<|mv z<|oS hm fun h3 hw hm=>?_
    obtain⟨hx,hy,h4,hz,hA⟩:=(g4 p hu).nidx hw
    obtain rfl:=hz
    refine s9 11 z (by omega) fun hB=>yv (t2 (f8 hB hx hy) y9 z z) z<|yv (v1 z (aI 11 z r6 (hA 0 _ z))) z<|sg z<|sg z<|snn<|ssr<|mv z<|yv (t4 z) z<|fa bv z<|pk8<|sO r6 z z z z (cs':=#[pP i 0,iV a0.Root,sl K a0.Nodes L,.map (some x),.map (some y),.bool b.2.2.1,iV 0]) z<|snn<|ssr<|mv z<|mv z<|pk4<|pk4<|pk4<|pk4<|pk8<|pk8<|pk7<|pk7<|oS hm fun c hC hm=>cl (bJ (x0 (s0 o p) e9) (x0 (s0 o p) f0) (x0 (s0 o p) gP) (x0 (s0 o p) gQ) g2 g3 (p2 (s0 o p) gR) (p2 (s0 o p) gS) (p2 (s0 o p) gT) (p2 (s0 o p) gU) hC) z z<|?_
    rintro _ hc _ ⟨b7,b8,e2,e3,rfl,e4,hd,he,rfl⟩ b9
    refine aa go z fun hf=>sN ck z z<|snn<|x1<|oC hm (fun e5 h s=>∃cs,m3 hc cs∧h [(6,pP t 0),(9,pP E 0),(10,pP A 0),(11,nV b.2.2.2.2.2.2.2.2.2),(13,pP hf 0),(33,sl b2 B b3),(34,lV B),(35,nV b.2.2.2.2.2.2.2.2.2),(54,.bool e5)]∧s cs [mapv t0 k V,mapv t0 l W,mapv t0 m X,mapv t0 n Y,bK i #[.map (some k),.map (some l),.map (some m),sl M a2 N,sl Q a3 R,sl S a4 U,.map (some n)] 81,bK t #[iV 0,sV [],iV 0,nS,nS] 47,mapv m6 x e2,mapv m6 y e3,bK E #[pP i 0,iV a0.Root,sl K a0.Nodes L,.map (some x),.map (some y),.bool c.2.1,iV c.2.2.1] 127,bK A #[iV b.2.2.2.2.1,sV b.2.2.2.2.2.1,iV b.2.2.2.2.2.2.1,sl Z b.2.2.2.2.2.2.2.1 a9,sl H b.2.2.2.2.2.2.2.2.1 I] 47,bK hf #[iV c.1.Op,sV c.1.Name,iV c.1.N,sl b7 c.1.Kids b8] 45,rowo H b.2.2.2.2.2.2.2.2.1.length I 45 4 b4,rowo b2 B.length b3 3 1 d7]) (fun e5 hm=>?_) fun e5 hm a w=>?_
    ·refine q0<|mv z<|yv (t4 z) z<|fa bv z<|ld 1 r6 z<|?_
     rcases iS hm with⟨e6,hm⟩|⟨e6,hm⟩
     ·cases hm
      exact yv (t3 e6 (t5 z z)) z<|mv z<|un z z<|un z z<|pt z<|u1 fun a w ha hs=>⟨hc,(l0 _),cv ha,(am [5,5,5,5,2,4,2,2,1,1,0,0,0] hs z)⟩
     refine yv (s2 e6 (t5 z z)) z<|mv z<|yw (g5 0 ck z) z z<|oS hm fun h5 hD hm=>f5 _ (dk (a0:=c.1) e4 hD) z (A1 z) z en55.out z z z<|?_
     rintro _ hE _ ⟨rfl,rfl⟩ hF
     cases hm
     exact pf z<|u1 fun a w ha hs=>⟨hE,hF,cv ha,(am [5,5,5,5,2,4,2,2,1,1,0,0,0] hs z)⟩
    rintro⟨cs,q,ha,hs⟩
    refine us ha hs<|cB hm z (fun h6 hm=>?_) fun h7 hm=>?_
    ·cases hm
     obtain rfl:=aR e1
     obtain rfl:=aR d8
     obtain rfl:=aR d6
     exact ssr<|yv (v2 (v:=(.agg #[iV 0,sV [],iV 0,nS,nS])) (vs:=#[]) (fun a _=>by simp) (fun _=>by kernel_rfl)) z<|pk5<|sN db z z<|sg z<|sg z<|snn<|u2<|v0<|m2<|v0<|v0<|m2<|v0<|k6 z (m4 z (w5 0 db z)) z z ⟨none,0,none,0,z,r3,r3,z⟩ (aF [5,1,1,1,1] z)
    refine skn<|ssr<|mv z<|yv (w1 z z) z<|snn<|cP hm z (fun h8 hm=>?_) fun h9 hm=>?_
    ·cases hm
     exact q0<|lk 10 ck z z<|fa eb z<|pk9<|sM ck z z z z z (cs':=#[iV c.1.Op,sV c.1.Name,iV c.1.N,sl b7 c.1.Kids b8,sl H b.2.2.2.2.2.2.2.2.1 I]) z<|u1<|f2 fun a w ha hs=>⟨(c.2.2.2.1,c.2.2.2.2,c.2.1,c.2.2.1,c.1.Op,c.1.Name,c.1.N,c.1.Kids,b.2.2.2.2.2.2.2.2.1),z,e2,e3,b7,b8,H,I,b4,cs,(s0 b9 q),(p2 q hd),(p2 q he),(x0 q e4),(g4 (s0 b9 q) d9),hb,cv ha,(am [1,1,1,1,1,1,1,1,1,0,1,1] hs z)⟩
    refine q0<|fa aQ z<|ld 9 dK z<|lk 10 ck z z<|v3 (e:=45) (cells:=#[iV c.1.Op,sV c.1.Name,iV c.1.N,sl b7 c.1.Kids b8]) (A2 z) (fun _=>by kernel_rfl) z p1 fun ia=>oS hm fun hg hh hm=>?_
    cases hm
    exact pk12<|pL hh fQ z z z z z (g4 (s0 b9 q) d9) ⟨[iV c.1.Op,sV c.1.Name,iV c.1.N,sl b7 c.1.Kids b8],_,z,(DValue.of (x0 q e4)),z⟩ z fun hi hj hG hH=>fa aQ z<|pk10<|sO dK z z z z (cs':=#[iV b.2.2.2.2.1,sV b.2.2.2.2.2.1,iV b.2.2.2.2.2.2.1,sl Z b.2.2.2.2.2.2.2.1 a9,sl hi hg hj]) z<|u1<|f2 fun a w ha hs=>⟨(c.2.2.2.1,c.2.2.2.2,c.2.1,c.2.2.1,b.2.2.2.2.1,b.2.2.2.2.2.1,b.2.2.2.2.2.2.1,b.2.2.2.2.2.2.2.1,hg),z,e2,e3,Z,a9,hi,hj,hG,cs,(s0 b9 q),(p2 q hd),(p2 q he),(x0 (s0 b9 q) g7),hH,(f4 hh),cv ha,(am [2,2,2,2,2,2,2,2,2,0,0,1] hs z)⟩
   rintro⟨d,rfl,c2,c3,c4,c5,c6,c7,c8,J,hI,hJ,hK,hL,hM,hN,ha,hs⟩
   replace hm:=aL e1
   cases hm
   exact us ha hs<|q0<|yv (s3 (j:=1) z z z (by have q_0:=hv;have q_1:=(f4 g1).2;omega)) z<|mv z<|snn fun a w ha hs=>⟨(d.1,d.2.1,d.2.2.1,d.2.2.2.1,d.2.2.2.2.1,d.2.2.2.2.2.1,d.2.2.2.2.2.2.1,d.2.2.2.2.2.2.2.1,d.2.2.2.2.2.2.2.2,b.2.2.2.2.2.2.2.2.2+1),aL d8,c2,c3,c4,c5,c6,c7,c8,J,(s0 p hI),hJ,hK,hL,hM,hN,cv ha,(am [0,0,0,0,0,0,0,0,0,0,0,0] hs z)⟩
  cases hm
  obtain rfl:=aR d8
  exact u4<|p0<|p0<|u3 fun a w ha hs=>⟨(b.1,b.2.1,b.2.2.1,b.2.2.2.1,b.2.2.2.2.1,b.2.2.2.2.2.1,b.2.2.2.2.2.2.1,b.2.2.2.2.2.2.2.1,b.2.2.2.2.2.2.2.2.1),z,c0,c1,Z,a9,H,I,b4,C,p,g2,g3,g7,d9,hb,cv ha,(am [0,0,0,0,0,0,0,0,0,0,0] hs z)⟩
 rintro⟨f,rfl,d4,d5,b5,b6,b0,b1,cu,G,ib,hO,ic,hP,hQ,hR,ha,hs⟩
 replace hm:=aL d6
 refine us ha hs<|x1<|oC hm (fun e7 h s=>h [(6,pP t 0),(10,pP A 0),(78,.bool e7)]∧s G [mapv t0 k V,mapv t0 l W,mapv t0 m X,mapv t0 n Y,bK i #[.map (some k),.map (some l),.map (some m),sl M a2 N,sl Q a3 R,sl S a4 U,.map (some n)] 81,bK t #[iV 0,sV [],iV 0,nS,nS] 47,bK A #[iV f.2.2.2.2.1,sV f.2.2.2.2.2.1,iV f.2.2.2.2.2.2.1,sl b5 f.2.2.2.2.2.2.2.1 b6,sl b0 f.2.2.2.2.2.2.2.2 b1] 47,rowo b0 f.2.2.2.2.2.2.2.2.length b1 45 4 cu]) (fun e7 hm=>?_) fun e7 hm a w=>?_
 ·refine q0<|fa aQ z<|ld 9 dK z<|yv (u0 fI z) z<|?_
  rcases iS hm with⟨e8,hm⟩|⟨e8,hm⟩
  ·cases hm
   exact yv (t3 e8 (t5 z z)) z<|mv z<|un z z<|un z z<|un z z<|un z z<|un z z<|un z z<|pt z<|u1<|eN [0,0,0,0,0,0,3,3] z
  cases hm
  exact yv (s2 e8 (t5 z z)) z<|mv z<|mw z z<|yw (t4 z) z z<|fw bX z z<|lw 8 ed z z<|yw (Yields.lenMap z 6 z cS hO.length) z z<|yw (t5 z z) z z<|pf z<|u1<|eN [0,0,0,0,0,0,3,3] z
 rintro⟨ha,hs⟩
 refine us ha hs<|cB hm z (fun ie hm=>?_) fun ig hm=>?_
 ·cases hm
  exact ssr<|yv (v2 (v:=(.agg #[iV 0,sV [],iV 0,nS,nS])) (vs:=#[]) (fun a _=>by simp) (fun _=>by kernel_rfl)) z<|pk5<|sN db z z<|sg z<|sg z<|snn<|u2<|v0<|k6 z (m4 z (w5 0 db z)) z z ⟨none,0,none,0,z,r3,r3,z⟩ (aF [5,1,1,1,1] z)
 cases hm
 exact skn<|ssr<|lk 6 db z z<|pk5<|sN db z z<|sg z<|sg z<|snn<|u2<|pk7<|fz z hQ hR fun ih hS hT=>k6 z (m4 z (w5 0 db z)) z z ⟨b5,b6,b0,b1,z,(x0 hS hP),hT,z⟩ (aF [5,1,1,1,1] z)
theorem dl {a0:DCore}{a1:DGraph}(l:Fsl 64 KDData F x y a0.Datas) (m:Fsl 144 KDFun F A B a0.Funs) (d:Fsl 56 KDNode F C D a1.Nodes) (n:Fsl 8 (Kind.int .i64) F E G a2) (hm:m_graph_Read g a0 a1 a2=some r):
    CallSp Tryz.prog 12 #[.agg #[sl x a0.Datas y,sl A a0.Funs B],.agg #[iV a1.Root,sl C a1.Nodes D],sl E a2 G] F [] (fun u F' H'=>∃o p q s,u=(.tuple #[.agg (gv r.1 o p q s),.bool r.2.1,iV r.2.2])∧Fsl 56 KDValue F' o p r.1.V.Kids∧Fsl 56 KDValue F' q s r.1.B∧H'=[]):=by
 unfold m_graph_Read at hm
 refine f1 Tryz.func12 z z fun a6 a7 a8=>ssr<|ba z fun a9=>ba z fun b0=>aa gf z fun b1=>sg z<|sg z<|snn<|x1<|ssr<|lk 2 aX z z<|lk 1 s5 z z<|oS hm fun t H hm=>cl (r7 (a0:=a0) (a1:=a1) l m d H) z z<|?_
 rintro _ b2 _ ⟨rfl,rfl⟩ b
 refine sg z<|snn<|ssr<|mv z<|yv (p4 z z) z<|snn<|?_
 refine m5 z ?_ ?_
 ·intro e
  replace e:¬(t=0):=nd_t e
  replace hm:=iF hm e
  cases hm
  exact ssr<|yv (v2 (v:=(.agg #[iV 0,sV [],iV 0,nS,nS])) (vs:=#[]) (fun a _=>by simp) (fun _=>by kernel_rfl)) z<|mv z<|sN db z z<|sg z<|sg z<|snn<|u2<|v0<|k6 z (m4 z (w5 0 db z)) z z ⟨none,0,none,0,z,r3,r3,z⟩ (aF [] z)
 intro f
 replace f:t=0:=nd_f f
 replace hm:=iT hm f
 refine skn<|x1<|ssr<|lk 1 s5 z z<|mv z<|oS hm fun w I hm=>cl (cG (a0:=a1) (x0 b d) (x0 b n) I) z z<|?_
 rintro _ b3 _ ⟨rfl,rfl⟩ c
 refine sg z<|snn<|ssr<|mv z<|yv (p4 z z) z<|snn<|?_
 refine m5 z ?_ ?_
 ·intro i
  replace i:¬(w=0):=nd_t i
  replace hm:=iF hm i
  cases hm
  exact ssr<|yv (v2 (v:=(.agg #[iV 0,sV [],iV 0,nS,nS])) (vs:=#[]) (fun a _=>by simp) (fun _=>by kernel_rfl)) z<|mv z<|sN db z z<|sg z<|sg z<|snn<|u2<|v0<|k6 z (m4 z (w5 0 db z)) z z ⟨none,0,none,0,z,r3,r3,z⟩ (aF [] z)
 intro j
 replace j:w=0:=nd_f j
 replace hm:=iT hm j
 refine skn<|x1<|ds [4,8] hmix<|tk [3,5,6,7,9,10] 0 z (g5 2 aX z) z z k1<|tk [3,5,6,7,9,10] 2 z (g5 1 s5 z) z z k1<|tp 3 z (fun _=>x2 z) z z<|oN 1 z z fun J=>oS hm fun b4 K hm=>cl (f9 (a0:=a0) (x0 (s0 b c) l) (x0 (s0 b c) m) K) z z<|?_
 rintro _ b8 _ ⟨b9,cs,cu,c0,c1,c2,c3,c4,c5,c6,c7,c8,c9,d1,d2,rfl,L,M,N,P,Q,R,S,rfl⟩ k
 refine m1 J (fun _=>(aG [5,5,5] k (s0 b c) z))<|oN 4 z z fun U=>pk4<|pk4<|pk4<|pk4<|pk4<|oS hm fun d3 V hm=>cl (eg (a0:=a1) (x0 (s0 b (s0 c k)) d) (x0 (s0 b (s0 c k)) n) L M N P Q R S V) z z<|?_
 rintro _ d4 _ ⟨W,X,Y,Z,rfl,a3,a4,rfl⟩ d5
 cases hm
 exact m1 U (fun h=>by cases h)<|tp 5 z (fun _=>r0 z z) z z<|tp 6 z (fun _=>r0 z z) z z<|tp 7 z (fun _=>r0 z z) z z<|oN 8 z z fun a5=>pk5<|sN db z z<|m1 a5 (fun h=>by cases h)<|tp 9 z (fun _=>w4 z) z z<|tp 10 z (fun _=>w4 z) z z<|dn<|s4<|u2<|k6 z (m4 z (w5 0 db z)) z z ⟨W,X,Y,Z,z,a3,a4,z⟩ (aF [] z)
theorem es {a0:DGraph}{a1:DGraph}(P:Fsl 56 KDNode F e f a0.Nodes) (a4:Fsl 56 KDNode F k l a1.Nodes) (hm:m_ref09_Alike g a0 a1=some r):
    CallSp Tryz.prog 25 #[.agg #[iV a0.Root,sl e a0.Nodes f],.agg #[iV a1.Root,sl k a1.Nodes l]] F [] (fun u F' H'=>u=(.bool r)∧H'=[]):=by
 unfold m_ref09_Alike at hm
 refine f1 Tryz.func25 z z fun d7 d8 d9=>ssr<|ba z fun c=>ba z fun d=>sg z<|snn<|x1<|oC hm (fun B h s=>h [(2,pP c 0),(3,pP d 0),(22,.bool B)]∧s F [bK c #[iV a0.Root,sl e a0.Nodes f] 28,bK d #[iV a1.Root,sl k a1.Nodes l] 28]) (fun B hm=>?_) fun B hm a w=>?_
 ·refine q0<|fa y8 z<|ld 1 r6 z<|fa y8 z<|ld 0 r6 z<|?_
  rcases iS hm with⟨C,hm⟩|⟨C,hm⟩
  ·cases hm
   exact yv (g6 C (p4 z z)) z<|mv z<|fw v4 z z<|lw 1 m8 z z<|yw (u0 be z) z z<|fw v4 z z<|lw 0 m8 z z<|yw (u0 be z) z z<|yw (p4 z z) z z<|pf z<|u1<|eN [1,0] z
  cases hm
  exact yv (t6 C (p4 z z)) z<|mv z<|un z z<|un z z<|un z z<|un z z<|un z z<|un z z<|un z z<|pt z<|u1<|eN [1,0] z
 rintro⟨ha,hs⟩
 refine us ha hs<|cB hm z (fun e0 hm=>?_) fun e1 hm=>?_
 ·cases hm
  exact ssr<|sg z<|snn<|u2<|v0<|k0 z z ⟨z,z⟩ (aF [] z)
 refine skn<|oD hm (fun D h s=>∃Q:Unit,D=.inl Q∧h []∧s F []) (fun D hm x=>?_) fun D x a w=>?_
 ·refine ssr<|sg z<|snn<|t1<|lM hm (fun m h s=>h [(2,pP c 0),(3,pP d 0),(5,nV m)]∧s F [bK c #[iV a0.Root,sl e a0.Nodes f] 28,bK d #[iV a1.Root,sl k a1.Nodes l] 28]) ?_ ?_
  ·intro a w ha hs
   exact⟨cv ha,(am [0,0] hs z)⟩
  rintro m e2 e3 hm y a w ⟨ha,hs⟩
  refine us ha hs<|x1<|ssr<|mv z<|fa v4 z<|ld 0 m8 z<|yv (u0 be z) z<|yv (r2 z z) z<|snn<|cP hm z (fun a5 hm=>?_) fun e4 hm=>?_
  ·refine skn<|oD hm (fun E h s=>∃R:Unit,E=.inl R∧h [(2,pP c 0),(3,pP d 0),(5,nV m)]∧s F [bK c #[iV a0.Root,sl e a0.Nodes f] 28,bK d #[iV a1.Root,sl k a1.Nodes l] 28]) (fun E hm A=>?_) fun E A a w=>?_
   ·refine t1<|oC hm (fun b h s=>∃n o p q t v,Fsl 8 (Kind.int .i64) F p q b.2.2.2.1∧Fsl 8 (Kind.int .i64) F t v b.2.2.2.2.2.2.2∧h [(2,pP c 0),(3,pP d 0),(5,nV m),(6,pP n 0),(7,pP o 0)]∧s F [bK c #[iV a0.Root,sl e a0.Nodes f] 28,bK d #[iV a1.Root,sl k a1.Nodes l] 28,bK n #[iV b.1,sV b.2.1,iV b.2.2.1,sl p b.2.2.2.1 q] 71,bK o #[iV b.2.2.2.2.1,sV b.2.2.2.2.2.1,iV b.2.2.2.2.2.2.1,sl t b.2.2.2.2.2.2.2 v] 71]) (fun b hm=>?_) fun b hm a w=>?_
    ·refine ds [13] hmix<|tp 0 z (fun _=>w3 v4 z) z z<|tk [0,2,3,5,7,8] 1 z (p3 0 m8 z) z z k1<|tp 2 z (fun _=>x2 z) z z<|oS hm fun e5 a6 hm=>?_
     obtain⟨e6,e7,a7,a8,a9⟩:=P.nidx a6
     obtain⟨S,U,rfl,V⟩:=DNode.opn a8
     refine tp 3 z (fun _=>t2 a7 bz z z) z z<|tk [0,2,3,5,7,8] 4 z (v1 z (k3 a9 ak)) z z k1<|tp 5 z (fun _=>w3 v4 z) z z<|tk [0,2,3,5,7,8] 6 z (p3 1 m8 z) z z k1<|tp 7 z (fun _=>x2 z) z z<|oS hm fun e8 b0 hm=>?_
     obtain⟨e9,fo,b1,b2,b5⟩:=a4.nidx b0
     obtain⟨W,X,rfl,Y⟩:=DNode.opn b2
     refine tp 8 z (fun _=>t2 b1 bz z z) z z<|tk [0,2,3,5,7,8] 9 z (v1 z (k3 b5 ak)) z z k1<|?_
     refine aW (i:=10) (j:=11) z z (by kernel_rfl) (l1:=#[T,T,T,T,T,T,T,T,T,T,T,O,O,O]) (l2:=#[T,T,T,T,T,T,T,T,T,T,O,T,O,O]) z z ?_ ?_
     ·intro b6
      cases hm
      exact aa cR z fun b7=>m1 b6 (fun _=>(aF [1,1] z))<|oN 11 z z fun b8=>aa cR z fun b9=>m1 b8 (fun _=>(aF [2,2] z))<|oN 12 z z fun cs=>pk1<|sN ak z z<|m1 cs (fun _=>(aF [2,2] z))<|oN 13 z z fun cu=>pk1<|sN ak z z<|m1 cu (fun h=>by cases h)<|dn fun a w ha hs=>⟨b7,b9,S,U,W,X,V,Y,cv ha,(am [2,2,1,0] hs z)⟩
     intro c0
     cases hm
     exact aa cR z fun c1=>m1 c0 (fun _=>(aF [1,1] z))<|oN 10 z z fun c2=>aa cR z fun c3=>m1 c2 (fun _=>(aF [2,2] z))<|oN 12 z z fun c4=>sN ak z z<|m1 c4 (fun _=>(aF [2,2] z))<|oN 13 z z fun c5=>pk1<|sN ak z z<|m1 c5 (fun h=>by cases h)<|dn fun a w ha hs=>⟨c3,c1,S,U,W,X,V,Y,cv ha,(am [2,2,1,0] hs z)⟩
    rintro⟨n,o,p,q,t,v,Z,c6,ha,hs⟩
    refine us ha hs<|x1<|oC hm (fun G h s=>h [(2,pP c 0),(3,pP d 0),(5,nV m),(6,pP n 0),(7,pP o 0),(67,.bool G)]∧s F [bK c #[iV a0.Root,sl e a0.Nodes f] 28,bK d #[iV a1.Root,sl k a1.Nodes l] 28,bK n #[iV b.1,sV b.2.1,iV b.2.2.1,sl p b.2.2.2.1 q] 71,bK o #[iV b.2.2.2.2.1,sV b.2.2.2.2.2.1,iV b.2.2.2.2.2.2.1,sl t b.2.2.2.2.2.2.2 v] 71]) (fun G hm=>?_) fun G hm a w=>?_
    ·refine q0<|fa v5 z<|ld 2 r6 z<|fa v5 z<|ld 3 r6 z<|?_
     rcases iS hm with⟨H,hm⟩|⟨H,hm⟩
     ·refine yv (g6 H (p4 z z)) z<|mv z<|fw u6 z z<|lw 2 r9 z z<|fw u6 z z<|lw 3 r9 z z<|?_
      rcases iS hm with⟨I,hm⟩|⟨I,hm⟩
      ·refine yw (g6 I (aV z z)) z z<|pf z<|mv z<|fw w8 z z<|lw 2 r6 z z<|fw w8 z z<|lw 3 r6 z z<|?_
       rcases iS hm with⟨J,hm⟩|⟨J,hm⟩
       ·cases hm
        exact yw (g6 J (p4 z z)) z z<|pf z<|mv z<|fw r5 z z<|lw 2 n9 z z<|yw (u0 aE z) z z<|fw r5 z z<|lw 3 n9 z z<|yw (u0 aE z) z z<|yw (p4 z z) z z<|pf z<|u1<|eN [0,0,0,0] z
       cases hm
       exact yw (t6 J (p4 z z)) z z<|pf z<|mv z<|un z z<|un z z<|un z z<|un z z<|un z z<|un z z<|un z z<|pt z<|u1<|eN [0,0,0,0] z
      cases hm
      exact yw (t6 I (aV z z)) z z<|pf z<|mv z<|un z z<|un z z<|un z z<|un z z<|un z z<|pt z<|mv z<|un z z<|un z z<|un z z<|un z z<|un z z<|un z z<|un z z<|pt z<|u1<|eN [0,0,0,0] z
     cases hm
     exact yv (t6 H (p4 z z)) z<|mv z<|un z z<|un z z<|un z z<|un z z<|un z z<|pt z<|mv z<|un z z<|un z z<|un z z<|un z z<|un z z<|pt z<|mv z<|un z z<|un z z<|un z z<|un z z<|un z z<|un z z<|un z z<|pt z<|u1<|eN [0,0,0,0] z
    rintro⟨ha,hs⟩
    refine us ha hs<|cB hm z (fun f0 hm=>?_) fun gP hm=>?_
    ·cases hm
     obtain rfl:=aR A
     obtain rfl:=aR y
     obtain rfl:=aR x
     exact ssr<|sg z<|snn<|u2<|v0<|m2<|v0<|v0<|m2<|v0<|k0 z z ⟨z,z⟩ (aF [] z)
    refine skn<|ssr<|sg z<|snn<|t1<|lM hm (fun K h s=>h [(2,pP c 0),(3,pP d 0),(5,nV m),(6,pP n 0),(7,pP o 0),(8,nV K)]∧s F [bK c #[iV a0.Root,sl e a0.Nodes f] 28,bK d #[iV a1.Root,sl k a1.Nodes l] 28,bK n #[iV b.1,sV b.2.1,iV b.2.2.1,sl p b.2.2.2.1 q] 71,bK o #[iV b.2.2.2.2.1,sV b.2.2.2.2.2.1,iV b.2.2.2.2.2.2.1,sl t b.2.2.2.2.2.2.2 v] 71]) ?_ ?_
    ·intro a w ha hs
     exact⟨cv ha,(am [0,0,0,0] hs z)⟩
    rintro K gQ gR hm L a w ⟨ha,hs⟩
    refine us ha hs<|x1<|ssr<|mv z<|fa r5 z<|ld 2 n9 z<|yv (u0 aE z) z<|yv (r2 z z) z<|snn<|cP hm z (fun c7 hm=>?_) fun gS hm=>?_
    ·refine skn<|x1<|t1<|x1<|ds [] hmix<|tp 0 z (fun _=>w3 r5 z) z z<|tk [0,2,3,5,7,8,10] 1 z (p3 2 n9 z) z z k1<|tp 2 z (fun _=>x2 z) z z<|oS hm fun a2 c8 hm=>?_
     obtain⟨gT,gU,c9,d1,d2⟩:=Z.nidx c8
     obtain rfl:=d1
     refine tp 3 z (fun _=>t2 c9 y9 z z) z z<|tk [0,2,3,5,7,8,10] 4 z (v1 z (k5 d2 r6 z)) z z k1<|tp 5 z (fun _=>w3 r5 z) z z<|tk [0,2,3,5,7,8,10] 6 z (p3 3 n9 z) z z k1<|tp 7 z (fun _=>x2 z) z z<|oS hm fun a3 d3 hm=>?_
     obtain⟨gV,gW,d4,d5,d6⟩:=c6.nidx d3
     obtain rfl:=d5
     refine tp 8 z (fun _=>t2 d4 y9 z z) z z<|tk [0,2,3,5,7,8,10] 9 z (v1 z (k5 d6 r6 z)) z z k1<|tp 10 z (fun _=>p4 z z) z z<|dn<|s4<|?_
     refine m5 z ?_ ?_
     ·intro M
      replace M:¬(a2=a3):=nd_t M
      replace hm:=iF hm M
      cases hm
      obtain rfl:=aR L
      obtain rfl:=aR A
      obtain rfl:=aR y
      obtain rfl:=aR x
      exact ssr<|sg z<|snn<|u2<|m2<|v0<|v0<|m2<|m2<|v0<|v0<|m2<|v0<|k0 z z ⟨z,z⟩ (aF [] z)
     intro N
     replace N:a2=a3:=nd_f N
     replace hm:=iT hm N
     cases hm
     exact k4<|f2<|s4<|q0<|mv z<|yv (s3 (j:=1) z z z (by have q_0:=c7;have q_1:=Z.bnd.2;omega)) z<|sg z<|snn fun a w ha hs=>⟨K+1,aL L,cv ha,(am [0,0,0,0] hs z)⟩
    cases hm
    obtain rfl:=aR L
    exact u4<|p0<|p0<|u3<|f2 fun a w ha hs=>⟨(),z,cv ha,(am [0,0] hs z)⟩
   rintro⟨R,rfl,ha,hs⟩
   replace hm:=aL A
   cases hm
   exact us ha hs<|q0<|mv z<|yv (s3 (j:=1) z z z (by have q_0:=a5;have q_1:=P.bnd.2;omega)) z<|sg z<|snn fun a w ha hs=>⟨m+1,aL y,cv ha,(am [0,0] hs z)⟩
  cases hm
  obtain rfl:=aR y
  exact u4<|p0<|p0<|u3 fun a w ha hs=>⟨(),z,cv ha,(am [] hs z)⟩
 rintro⟨Q,rfl,ha,hs⟩
 replace hm:=aL x
 cases hm
 exact us ha hs<|ssr<|sg z<|snn<|u2<|k0 z z ⟨z,z⟩ (aF [] z)
theorem bh {a0:DGraph}{a1:DGraph}(a:Fsl 56 KDNode F b c a0.Nodes) (d:Fsl 56 KDNode F e f a1.Nodes) (hm:m_law09_same g a0 a1=some r):
    CallSp Tryz.prog 13 #[.agg #[iV a0.Root,sl b a0.Nodes c],.agg #[iV a1.Root,sl e a1.Nodes f]] F [] (fun u F' H'=>u=(.bool r)∧H'=[]):=by
 unfold m_law09_same at hm
 refine f1 Tryz.func13 z z fun i j k=>ssr<|ba z fun l=>ba z fun m=>sg z<|snn<|ssr<|lk 1 s5 z z<|lk 0 s5 z z<|oS hm fun n h hm=>cl (es (a0:=a0) (a1:=a1) a d h) z z<|?_
 rintro _ o _ ⟨rfl,rfl⟩ p
 cases hm
 exact sg z<|snn<|u2<|k0 z z ⟨z,z⟩ (aF [] z)
theorem aY (hm:m_ref08_order g a0 a1=some r):
    CallSp Tryz.prog 27 #[iV a0,iV a1] F [] (fun u F' H'=>u=(iV r)∧H'=[]):=by
 unfold m_ref08_order at hm
 refine f1 Tryz.func27 z z fun a b c=>ssr<|sg z<|snn<|x1<|t1<|ssr<|mv z<|mv z<|yv (r2 z z) z<|sg z<|snn<|cP hm z (fun d hm=>?_) fun e hm=>?_
 ·cases hm
  exact ssr<|sg z<|snn<|u2<|m2<|v0<|k0 z z ⟨z,z⟩ (aF [] z)
 refine ssr<|mv z<|mv z<|yv (t5 z z) z<|sg z<|snn<|cP hm z (fun f hm=>?_) fun h hm=>?_
 ·cases hm
  exact ssr<|sg z<|snn<|u2<|m2<|v0<|k0 z z ⟨z,z⟩ (aF [] z)
 cases hm
 exact k4<|f2<|s4<|ssr<|sg z<|snn<|u2<|k0 z z ⟨z,z⟩ (aF [] z)
abbrev cb (g:Nat):Prop:=∀{F}{a0:DValue}{a1:DValue}{a b c d}(e:Fsl 56 KDValue F a b a0.Kids) (f:Fsl 56 KDValue F c d a1.Kids) {r}(_:m_ref08_Order g a0 a1=some r),
    CallSp Tryz.prog 26 #[.agg #[iV a0.Op,sV a0.Name,iV a0.N,sl a a0.Kids b],.agg #[iV a1.Op,sV a1.Name,iV a1.N,sl c a1.Kids d]] F [] (fun u F' H'=>u=(iV r)∧H'=[])
theorem et (P:cb g):cb (g+1):=by
 intro F a0 a1 C D E G H Q r hm
 rw [m_ref08_Order] at hm
 refine f1 Tryz.func26 z z fun b7 b8 b9=>ssr<|ba z fun b=>ba z fun c=>sg z<|snn<|x1<|ssr<|fa cC z<|ld 1 r6 z<|fa cC z<|ld 0 r6 z<|oS hm fun I R hm=>cl (aY R) z z<|?_
 rintro _ S _ ⟨rfl,rfl⟩ J
 refine sg z<|snn<|ssr<|mv z<|yv (p4 z z) z<|snn<|?_
 refine m5 z ?_ ?_
 ·intro f
  replace f:¬(I=0):=nd_t f
  replace hm:=iF hm f
  cases hm
  exact ssr<|mv z<|sg z<|snn<|u2<|v0<|k0 z z ⟨z,z⟩ (aF [] z)
 intro i
 replace i:I=0:=nd_f i
 replace hm:=iT hm i
 refine skn<|x1<|oC hm (fun k h s=>h [(2,pP b 0),(3,pP c 0),(24,.bool k)]∧s S [bK b #[iV a0.Op,sV a0.Name,iV a0.N,sl C a0.Kids D] 45,bK c #[iV a1.Op,sV a1.Name,iV a1.N,sl E a1.Kids G] 45]) (fun k hm=>?_) fun k hm a w=>?_
 ·refine q0<|fa cC z<|ld 1 r6 z<|?_
  rcases iS hm with⟨l,hm⟩|⟨l,hm⟩
  ·cases hm
   exact yv (t3 l (w1 z z)) z<|mv z<|un z z<|un z z<|un z z<|pt z<|u1<|eN [1,0] z
  cases hm
  exact yv (s2 l (w1 z z)) z<|mv z<|fw cC z z<|lw 1 r6 z z<|yw (w1 z z) z z<|pf z<|u1<|eN [1,0] z
 rintro⟨ha,hs⟩
 refine us ha hs<|cB hm z (fun cs hm=>?_) fun cu hm=>?_
 ·refine ssr<|fa fn z<|ld 0 r6 z<|fa fn z<|ld 1 r6 z<|oS hm fun c0 U hm=>cl (aY U) z z<|?_
  rintro _ c1 _ ⟨rfl,rfl⟩ c2
  cases hm
  exact sg z<|snn<|u2<|v0<|k0 z z ⟨z,z⟩ (aF [] z)
 refine skn<|x1<|ssr<|fa dg z<|ld 0 r9 z<|fa dg z<|ld 1 r9 z<|yv (aV z z) z<|snn<|?_
 refine m5 z ?_ ?_
 ·intro m
  replace m:¬(a0.Name=a1.Name):=nd_t m
  replace hm:=iF hm m
  refine x1<|ssr<|fa dg z<|ld 0 r9 z<|fa dg z<|ld 1 r9 z<|yv (Yields.ltStr z z) z<|snn<|cB hm z (fun c3 hm=>?_) fun c4 hm=>?_
  ·cases hm
   exact ssr<|sg z<|snn<|u2<|v0<|v0<|k0 z z ⟨z,z⟩ (aF [] z)
  cases hm
  exact skn<|ssr<|sg z<|snn<|u2<|v0<|k0 z z ⟨z,z⟩ (aF [] z)
 intro n
 replace n:a0.Name=a1.Name:=nd_f n
 replace hm:=iT hm n
 refine skn<|x1<|ssr<|fa aS z<|ld 0 dK z<|yv (u0 fI z) z<|fa aS z<|ld 1 dK z<|yv (u0 fI z) z<|oS hm fun K V hm=>cl (aY V) z z<|?_
 rintro _ o _ ⟨rfl,rfl⟩ L
 refine sg z<|snn<|ssr<|mv z<|yv (p4 z z) z<|snn<|?_
 refine m5 z ?_ ?_
 ·intro p
  replace p:¬(K=0):=nd_t p
  replace hm:=iF hm p
  cases hm
  exact ssr<|mv z<|sg z<|snn<|u2<|v0<|k0 z z ⟨z,z⟩ (aF [] z)
 intro q
 replace q:K=0:=nd_f q
 replace hm:=iT hm q
 refine skn<|oD hm (fun t h s=>∃M:Unit,t=.inl M∧∃u,m3 o u∧h []∧s u []) (fun t hm v=>?_) fun t v a w=>?_
 ·refine ssr<|sg z<|snn<|t1<|lM hm (fun x h s=>∃d,m3 o d∧h [(2,pP b 0),(3,pP c 0),(7,nV x)]∧s d [bK b #[iV a0.Op,sV a0.Name,iV a0.N,sl C a0.Kids D] 45,bK c #[iV a1.Op,sV a1.Name,iV a1.N,sl E a1.Kids G] 45]) ?_ ?_
  ·intro a w ha hs
   exact⟨o,(l0 _),cv ha,(am [0,0] hs z)⟩
  rintro x c5 c6 hm y a w ⟨d,e,ha,hs⟩
  refine us ha hs<|x1<|ssr<|mv z<|fa aS z<|ld 0 dK z<|yv (u0 fI z) z<|yv (r2 z z) z<|snn<|cP hm z (fun W hm=>?_) fun c7 hm=>?_
  ·refine skn<|x1<|t1<|x1<|ds [10] hmix<|tp 0 z (fun _=>w3 aS z) z z<|tk [0,2,3,5,7,8,11] 1 z (p3 0 dK z) z z k1<|tp 2 z (fun _=>x2 z) z z<|oS hm fun X Y hm=>?_
   obtain⟨c8,c9,Z,a2,a3⟩:=(x0 (s0 J (s0 L e)) H).nidx Y
   obtain⟨d1,d2,rfl,a4⟩:=DValue.opn a2
   refine tp 3 z (fun _=>t2 Z fQ z z) z z<|tk [0,2,3,5,7,8,11] 4 z (v1 z (k3 a3 ck)) z z k1<|tp 5 z (fun _=>w3 aS z) z z<|tk [0,2,3,5,7,8,11] 6 z (p3 1 dK z) z z k1<|tp 7 z (fun _=>x2 z) z z<|oS hm fun a5 a6 hm=>?_
   obtain⟨d3,d4,a7,a8,a9⟩:=(x0 (s0 J (s0 L e)) Q).nidx a6
   obtain⟨d5,d6,rfl,b0⟩:=DValue.opn a8
   refine tp 8 z (fun _=>t2 a7 fQ z z) z z<|tk [0,2,3,5,7,8,11] 9 z (v1 z (k3 a9 ck)) z z k1<|oN 10 z z fun b1=>oS hm fun N b2 hm=>cl (P (a0:=X) (a1:=a5) a4 b0 b2) z z<|?_
   rintro _ b5 _ ⟨rfl,rfl⟩ b6
   refine m1 b1 (fun h=>by cases h)<|tp 11 z (fun _=>w4 z) z z<|dn<|s4<|ssr<|mv z<|yv (p4 z z) z<|snn<|?_
   refine m5 z ?_ ?_
   ·intro A
    replace A:¬(N=0):=nd_t A
    replace hm:=iF hm A
    cases hm
    obtain rfl:=aR y
    obtain rfl:=aR v
    exact ssr<|mv z<|sg z<|snn<|u2<|m2<|v0<|v0<|m2<|v0<|k0 z z ⟨z,z⟩ (aF [] z)
   intro B
   replace B:N=0:=nd_f B
   replace hm:=iT hm B
   cases hm
   exact k4<|f2<|s4<|q0<|mv z<|yv (s3 (j:=1) z z z (by have q_0:=W;have q_1:=H.bnd.2;omega)) z<|sg z<|snn fun a w ha hs=>⟨x+1,aL y,b5,(s0 e b6),cv ha,(am [0,0] hs z)⟩
  cases hm
  obtain rfl:=aR y
  exact u4<|p0<|p0<|u3 fun a w ha hs=>⟨(),z,d,e,cv ha,(am [] hs z)⟩
 rintro⟨M,rfl,u,d7,ha,hs⟩
 replace hm:=aL v
 cases hm
 exact us ha hs<|ssr<|sg z<|snn<|u2<|k0 z z ⟨z,z⟩ (aF [] z)
theorem bN:∀{g},cb g
 |0=>by intros;rename_i hm;exact nN hm
 |_+1=>et bN
theorem dO {a0:DAnswer}{a1:DAnswer}(Q:Fsl 56 KDValue F d e a0.V.Kids) (B:Fsl 56 KDValue F C D a0.B) (R:Fsl 56 KDValue F f i a1.V.Kids) (S:Fsl 56 KDValue F E G a1.B) (hm:m_ref08_Compared g a0 a1=some r):
    CallSp Tryz.prog 14 #[.agg (gv a0 d e C D),.agg (gv a1 f i E G)] F [] (fun u F' H'=>u=(iV r)∧H'=[]):=by
 unfold m_ref08_Compared at hm
 refine f1 Tryz.func14 z z fun b7 b8 b9=>ssr<|ba z fun H=>ba z fun I=>sg z<|snn<|x1<|ssr<|fa eb z<|yv (v1 z (n7 (vs:=[iV a0.V.Op,sV a0.V.Name,iV a0.V.N,sl d a0.V.Kids e]) 1 z ck z z)) z<|fa eb z<|yv (v1 z (n7 (vs:=[iV a1.V.Op,sV a1.V.Name,iV a1.V.N,sl f a1.V.Kids i]) 0 z ck z z)) z<|oS hm fun J U hm=>cl (bN (a0:=a0.V) (a1:=a1.V) Q R U) z z<|?_
 rintro _ cs _ ⟨rfl,rfl⟩ K
 refine sg z<|snn<|ssr<|mv z<|yv (p4 z z) z<|snn<|?_
 refine m5 z ?_ ?_
 ·intro k
  replace k:¬(J=0):=nd_t k
  replace hm:=iF hm k
  cases hm
  exact ssr<|mv z<|sg z<|snn<|u2<|v0<|k0 z z ⟨z,z⟩ (aF [] z)
 intro l
 replace l:J=0:=nd_f l
 replace hm:=iT hm l
 refine skn<|x1<|ssr<|fa aQ z<|ld 1 dK z<|yv (u0 fI z) z<|fa aQ z<|ld 0 dK z<|yv (u0 fI z) z<|oS hm fun L V hm=>cl (aY V) z z<|?_
 rintro _ m _ ⟨rfl,rfl⟩ M
 refine sg z<|snn<|ssr<|mv z<|yv (p4 z z) z<|snn<|?_
 refine m5 z ?_ ?_
 ·intro n
  replace n:¬(L=0):=nd_t n
  replace hm:=iF hm n
  cases hm
  exact ssr<|mv z<|sg z<|snn<|u2<|v0<|k0 z z ⟨z,z⟩ (aF [] z)
 intro o
 replace o:L=0:=nd_f o
 replace hm:=iT hm o
 refine skn<|oD hm (fun p h s=>∃N:Unit,p=.inl N∧∃q,m3 m q∧h []∧s q []) (fun p hm t=>?_) fun p t a w=>?_
 ·refine ssr<|sg z<|snn<|t1<|lM hm (fun v h s=>∃b,m3 m b∧h [(2,pP H 0),(3,pP I 0),(7,nV v)]∧s b [bK H (gv a0 d e C D) 47,bK I (gv a1 f i E G) 47]) ?_ ?_
  ·intro a w ha hs
   exact⟨m,(l0 _),cv ha,(am [1,0] hs z)⟩
  rintro v cu c0 hm x a w ⟨b,c,ha,hs⟩
  refine us ha hs<|x1<|ssr<|mv z<|fa aQ z<|ld 0 dK z<|yv (u0 fI z) z<|yv (r2 z z) z<|snn<|cP hm z (fun W hm=>?_) fun c1 hm=>?_
  ·refine skn<|x1<|t1<|x1<|ds [10] hmix<|tp 0 z (fun _=>w3 aQ z) z z<|tk [0,2,3,5,7,8,11] 1 z (p3 0 dK z) z z k1<|tp 2 z (fun _=>x2 z) z z<|oS hm fun X Y hm=>?_
   obtain⟨c2,c3,Z,a2,a3⟩:=(x0 (s0 K (s0 M c)) B).nidx Y
   obtain⟨c4,c5,rfl,a4⟩:=DValue.opn a2
   refine tp 3 z (fun _=>t2 Z fQ z z) z z<|tk [0,2,3,5,7,8,11] 4 z (v1 z (k3 a3 ck)) z z k1<|tp 5 z (fun _=>w3 aQ z) z z<|tk [0,2,3,5,7,8,11] 6 z (p3 1 dK z) z z k1<|tp 7 z (fun _=>x2 z) z z<|oS hm fun a5 a6 hm=>?_
   obtain⟨c6,c7,a7,a8,a9⟩:=(x0 (s0 K (s0 M c)) S).nidx a6
   obtain⟨c8,c9,rfl,b0⟩:=DValue.opn a8
   refine tp 8 z (fun _=>t2 a7 fQ z z) z z<|tk [0,2,3,5,7,8,11] 9 z (v1 z (k3 a9 ck)) z z k1<|oN 10 z z fun b1=>oS hm fun P b2 hm=>cl (bN (a0:=X) (a1:=a5) a4 b0 b2) z z<|?_
   rintro _ b3 _ ⟨rfl,rfl⟩ b4
   refine m1 b1 (fun h=>by cases h)<|tp 11 z (fun _=>w4 z) z z<|dn<|s4<|ssr<|mv z<|yv (p4 z z) z<|snn<|?_
   refine m5 z ?_ ?_
   ·intro y
    replace y:¬(P=0):=nd_t y
    replace hm:=iF hm y
    cases hm
    obtain rfl:=aR x
    obtain rfl:=aR t
    exact ssr<|mv z<|sg z<|snn<|u2<|m2<|v0<|v0<|m2<|v0<|k0 z z ⟨z,z⟩ (aF [] z)
   intro A
   replace A:P=0:=nd_f A
   replace hm:=iT hm A
   cases hm
   exact k4<|f2<|s4<|q0<|mv z<|yv (s3 (j:=1) z z z (by have q_0:=W;have q_1:=B.bnd.2;omega)) z<|sg z<|snn fun a w ha hs=>⟨v+1,aL x,b3,(s0 c b4),cv ha,(am [0,0] hs z)⟩
  cases hm
  obtain rfl:=aR x
  exact u4<|p0<|p0<|u3 fun a w ha hs=>⟨(),z,b,c,cv ha,(am [] hs z)⟩
 rintro⟨N,rfl,q,d1,ha,hs⟩
 replace hm:=aL t
 cases hm
 exact us ha hs<|ssr<|sg z<|snn<|u2<|k0 z z ⟨z,z⟩ (aF [] z)
theorem ew {a0:DCore}{a1:DGraph}(hT:Tab F) (o:Fsl 64 KDData F a7 a8 a0.Datas) (p:Fsl 144 KDFun F a9 b0 a0.Funs) (v:Fsl 56 KDNode F b1 b2 a1.Nodes) (c2:Fsl 8 (Kind.int .i64) F b3 b4 a2) (hm:m_law09_moves g a0 a1 a2=some r):
    CallSp Tryz.prog 4 #[.agg #[sl a7 a0.Datas a8,sl a9 a0.Funs b0],.agg #[iV a1.Root,sl b1 a1.Nodes b2],sl b3 a2 b4] F [] (fun u F' H'=>u=(.bool r)∧H'=[]):=by
 unfold m_law09_moves at hm
 refine f1 Tryz.func4 z z fun g2 g3 g7=>ssr<|ba z fun b7=>ba z fun b8=>sg z<|snn<|x1<|oC hm (fun D h s=>∃E,m3 F E∧h [(2,sl b3 a2 b4),(3,pP b7 0),(4,pP b8 0),(39,.bool D)]∧s E [bK b7 #[sl a7 a0.Datas a8,sl a9 a0.Funs b0] 25,bK b8 #[iV a1.Root,sl b1 a1.Nodes b2] 28]) (fun D hm=>?_) fun D hm a w=>?_
 ·refine q0<|lk 1 aX z z<|lk 0 s5 z z<|oS hm fun hb c3 hm=>cl (r7 (a0:=a0) (a1:=a1) o p v c3) z z<|?_
  rintro _ b9 _ ⟨rfl,rfl⟩ cs
  rcases iS hm with⟨G,hm⟩|⟨G,hm⟩
  ·cases hm
   exact yv (g6 G (p4 z z)) z<|mv z<|fw v4 z z<|lw 0 m8 z z<|yw (u0 be z) z z<|yw (u5 z z) z z<|pf z<|u1 fun a w ha hs=>⟨b9,cs,cv ha,(am [1,0] hs z)⟩
  cases hm
  exact yv (t6 G (p4 z z)) z<|mv z<|un z z<|un z z<|un z z<|un z z<|pt z<|u1 fun a w ha hs=>⟨b9,cs,cv ha,(am [1,0] hs z)⟩
 rintro⟨E,b,ha,hs⟩
 refine us ha hs<|cB hm z (fun hc hm=>?_) fun hd hm=>?_
 ·refine ssr<|oS hm fun he c4 hm=>cl (ah (Tab.mono b hT) c4) z z<|?_
  rintro _ hf _ ⟨rfl,rfl⟩ hg
  cases hm
  exact sg z<|snn<|u2<|v0<|k0 z z ⟨z,z⟩ (aF [] z)
 refine skn<|ssr<|lk 1 s5 z z<|mv z<|oS hm fun B c5 hm=>cl (cV (a0:=a1) (x0 b v) (x0 b c2) c5) z z<|?_
 rintro _ hh _ ⟨hi,hj,hk,hl,rfl,C,hn,rfl⟩ c
 refine mv z<|yv (r0 z z) z<|yv (r0 z z) z<|aa ab z fun ho=>sN s5 z z<|sg z<|snn<|ssr<|lk 1 aX z z<|lk 2 s5 z z<|lk 0 s5 z z<|oS hm fun cu c6 hm=>cl (eQ (a0:=a0) (a1:=a1) (a2:=B.1) (Tab.mono (s0 b c) hT) (x0 (s0 b c) o) (x0 (s0 b c) p) (x0 (s0 b c) v) C c6) z z<|?_
 rintro _ hp _ ⟨rfl,rfl⟩ d
 refine mv z<|yv (r0 z z) z<|yv (r0 z z) z<|sg z<|sg z<|snn<|ssr<|lk 1 aX z z<|lk 2 s5 z z<|oS hm fun H c7 hm=>cl (bO (a0:=a0) (a1:=a1) (x0 (s0 b (s0 c d)) o) (x0 (s0 b (s0 c d)) p) (x0 (s0 b (s0 c d)) v) r3 c7) z z<|?_
 rintro _ hq _ ⟨hr,ht,hu,hv,rfl,I,hw,rfl⟩ e
 refine mv z<|yv (r0 z z) z<|yv (r0 z z) z<|yv (r0 z z) z<|aa ab z fun hx=>sN s5 z z<|sg z<|sg z<|snn<|ssr<|lk 2 aX z z<|lk 1 s5 z z<|oS hm fun c8 c9 hm=>cl (bO (a0:=a0) (a1:=B.1) (x0 (s0 b (s0 c (s0 d e))) o) (x0 (s0 b (s0 c (s0 d e))) p) (x0 (s0 d e) C) r3 c9) z z<|?_
 rintro _ hy _ ⟨hz,hA,hB,hC,rfl,d1,hD,rfl⟩ f
 refine mv z<|yv (r0 z z) z<|yv (r0 z z) z<|yv (r0 z z) z<|aa ab z fun hE=>sN s5 z z<|sg z<|sg z<|snn<|ssr<|lk 3 aX z z<|lk 4 s5 z z<|oS hm fun hF d2 hm=>cl (cc (a0:=a0) (a1:=a1) (Tab.mono (s0 b (s0 c (s0 d (s0 e f)))) hT) (x0 (s0 b (s0 c (s0 d (s0 e f)))) o) (x0 (s0 b (s0 c (s0 d (s0 e f)))) p) (x0 (s0 b (s0 c (s0 d (s0 e f)))) v) d2) z z<|?_
 rintro _ hG _ ⟨rfl,rfl⟩ j
 refine mv z<|yv (r0 z z) z<|yv (r0 z z) z<|sg z<|sg z<|snn<|ssr<|lk 3 aX z z<|lk 2 s5 z z<|oS hm fun hH d3 hm=>cl (cc (a0:=a0) (a1:=B.1) (Tab.mono (s0 b (s0 c (s0 d (s0 e (s0 f j))))) hT) (x0 (s0 b (s0 c (s0 d (s0 e (s0 f j))))) o) (x0 (s0 b (s0 c (s0 d (s0 e (s0 f j))))) p) (x0 (s0 d (s0 e (s0 f j))) C) d3) z z<|?_
 rintro _ hI _ ⟨rfl,rfl⟩ l
 refine mv z<|yv (r0 z z) z<|yv (r0 z z) z<|sg z<|sg z<|snn<|ssr<|lk 3 aX z z<|lk 4 s5 z z<|oS hm fun J d4 hm=>cl (dl (a0:=a0) (a1:=a1) (x0 (s0 b (s0 c (s0 d (s0 e (s0 f (s0 j l)))))) o) (x0 (s0 b (s0 c (s0 d (s0 e (s0 f (s0 j l)))))) p) (x0 (s0 b (s0 c (s0 d (s0 e (s0 f (s0 j l)))))) v) r3 d4) z z<|?_
 rintro _ hJ _ ⟨hK,hL,hM,hN,rfl,d5,d6,rfl⟩ m
 refine mv z<|yv (r0 z z) z<|yv (r0 z z) z<|yv (r0 z z) z<|aa gf z fun hO=>sN db z z<|sg z<|sg z<|snn<|ssr<|lk 4 aX z z<|lk 3 s5 z z<|oS hm fun y d7 hm=>cl (dl (a0:=a0) (a1:=B.1) (x0 (s0 b (s0 c (s0 d (s0 e (s0 f (s0 j (s0 l m))))))) o) (x0 (s0 b (s0 c (s0 d (s0 e (s0 f (s0 j (s0 l m))))))) p) (x0 (s0 d (s0 e (s0 f (s0 j (s0 l m))))) C) r3 d7) z z<|?_
 rintro _ hP _ ⟨hQ,hR,hS,hU,rfl,d8,d9,rfl⟩ n
 refine mv z<|yv (r0 z z) z<|yv (r0 z z) z<|yv (r0 z z) z<|aa gf z fun hV=>sN db z z<|sg z<|sg z<|snn<|ssr<|lk 5 aX z z<|lk 3 s5 z z<|oS hm fun e0 e1 hm=>cl (bO (a0:=a0) (a1:=H.1) (x0 (s0 b (s0 c (s0 d (s0 e (s0 f (s0 j (s0 l (s0 m n)))))))) o) (x0 (s0 b (s0 c (s0 d (s0 e (s0 f (s0 j (s0 l (s0 m n)))))))) p) (x0 (s0 f (s0 j (s0 l (s0 m n)))) I) r3 e1) z z<|?_
 rintro _ x _ ⟨hW,hX,hY,hZ,rfl,e2,h0,rfl⟩ q
 refine mv z<|yv (r0 z z) z<|yv (r0 z z) z<|yv (r0 z z) z<|aa ab z fun h1=>sN s5 z z<|sg z<|sg z<|snn<|oC hm (fun K h s=>∃L,m3 x L∧h [(6,.bool K)]∧s L []) (fun K hm=>?_) fun K hm a w=>?_
 ·refine q0<|?_
  rcases iS hm with⟨M,hm⟩|⟨M,hm⟩
  ·have e3:(cu.1)=true:=M
   try rw [e3]
   refine mv z<|mv z<|mw z z<|?_
   rcases iS hm with⟨N,hm⟩|⟨N,hm⟩
   ·refine yw (t3 N (w1 z z)) z z<|pt z<|mv z<|mw z z<|?_
    rcases iS hm with⟨P,hm⟩|⟨P,hm⟩
    ·refine yw (t3 P (w1 z z)) z z<|pt z<|mv z<|mw z z<|?_
     rcases iS hm with⟨Q,hm⟩|⟨Q,hm⟩
     ·refine yw (t3 Q (w1 z z)) z z<|pt z<|mv z<|mw z z<|?_
      rcases iS hm with⟨R,hm⟩|⟨R,hm⟩
      ·refine yw (t3 R (w1 z z)) z z<|pt z<|mv z<|yw (g5 4 s5 z) z z<|yw (g5 3 s5 z) z z<|oS hm fun c0 e4 hm=>f5 _ (bh (a0:=H.1) (a1:=c8.1) (x0 (s0 f (s0 j (s0 l (s0 m (s0 n q))))) I) (x0 (s0 j (s0 l (s0 m (s0 n q)))) d1) e4) z (A1 z) z en13.out z z z<|?_
       rintro _ e5 _ ⟨rfl,rfl⟩ i
       rcases iS hm with⟨S,hm⟩|⟨S,hm⟩
       ·have e6:(c0)=true:=S
        try rw [e6]
        refine pt z<|mv z<|yw (g5 4 s5 z) z z<|yw (g5 0 s5 z) z z<|oS hm fun c1 e7 hm=>f5 _ (bh (a0:=H.1) (a1:=e0.1) (x0 (s0 f (s0 j (s0 l (s0 m (s0 n (s0 q i)))))) I) (x0 i e2) e7) z (A1 z) z en13.out z z z<|?_
        rintro _ U _ ⟨rfl,rfl⟩ k
        rcases iS hm with⟨V,hm⟩|⟨V,hm⟩
        ·have e8:(c1)=true:=V
         try rw [e8]
         refine pt z<|mv z<|mw z z<|mw z z<|?_
         rcases iS hm with⟨W,hm⟩|⟨W,hm⟩
         ·refine yw (t3 W (v6 z z)) z z<|pt z<|mv z<|mw z z<|mw z z<|?_
          rcases iS hm with⟨X,hm⟩|⟨X,hm⟩
          ·refine yw (t3 X (w1 z z)) z z<|pt z<|mv z<|yw (g5 2 db z) z z<|yw (g5 1 db z) z z<|oS hm fun h2 e9 hm=>f5 _ (dO (a0:=J.1) (a1:=y.1) (x0 (s0 n (s0 q (s0 i k))) d5) (x0 (s0 n (s0 q (s0 i k))) d6) (x0 (s0 q (s0 i k)) d8) (x0 (s0 q (s0 i k)) d9) e9) z (A1 z) z en14.out z z z<|?_
           rintro _ A _ ⟨rfl,rfl⟩ t
           rcases iS hm with⟨Y,hm⟩|⟨Y,hm⟩
           ·refine yw (t3 Y (w1 z z)) z z<|pt z<|mv z<|?_
            rcases iS hm with⟨Z,hm⟩|⟨Z,hm⟩
            ·have fo:(J.2.1)=true:=Z
             try rw [fo]
             refine mw z z<|?_
             rcases iS hm with⟨a3,hm⟩|⟨a3,hm⟩
             ·have f0:(y.2.1)=true:=a3
              try rw [f0]
              refine mw z z<|yw (t3 (by decide) (Yields.beqd tb4 z z)) z z<|pt z<|mv z<|mw z z<|mw z z<|?_
              rcases iS hm with⟨a4,hm⟩|⟨a4,hm⟩
              ·refine yw (t3 a4 (w1 z z)) z z<|pt z<|mv z<|oS hm fun h3 gP hm=>f5 _ (ah (Tab.mono (s0 b (s0 c (s0 d (s0 e (s0 f (s0 j (s0 l (s0 m (s0 n (s0 q (s0 i (s0 k t)))))))))))) hT) gP) z (A1 z) z en7.out z z z<|?_
               rintro _ gQ _ ⟨rfl,rfl⟩ gR
               cases hm
               exact pt z<|sg z<|u1 fun a w ha hs=>⟨gQ,(s0 i (s0 k (s0 t gR))),cv ha,(am [] hs z)⟩
              cases hm
              exact yw (s2 a4 (w1 z z)) z z<|pt z<|mv z<|un z z<|pf z<|sg z<|u1 fun a w ha hs=>⟨A,(s0 i (s0 k t)),cv ha,(am [] hs z)⟩
             have gS:(y.2.1)=false:=w2 a3
             try rw [gS]
             cases hm
             exact mw z z<|yw (s2 (by decide) (Yields.beqd tb4 z z)) z z<|pt z<|mv z<|un z z<|un z z<|un z z<|pf z<|mv z<|un z z<|pf z<|sg z<|u1 fun a w ha hs=>⟨A,(s0 i (s0 k t)),cv ha,(am [] hs z)⟩
            have gT:(J.2.1)=false:=w2 Z
            try rw [gT]
            refine mw z z<|?_
            rcases iS hm with⟨a5,hm⟩|⟨a5,hm⟩
            ·have gU:(y.2.1)=true:=a5
             try rw [gU]
             cases hm
             exact mw z z<|yw (s2 (by decide) (Yields.beqd tb4 z z)) z z<|pt z<|mv z<|un z z<|un z z<|un z z<|pf z<|mv z<|un z z<|pf z<|sg z<|u1 fun a w ha hs=>⟨A,(s0 i (s0 k t)),cv ha,(am [] hs z)⟩
            have gV:(y.2.1)=false:=w2 a5
            try rw [gV]
            refine mw z z<|yw (t3 (by decide) (Yields.beqd tb4 z z)) z z<|pt z<|mv z<|mw z z<|mw z z<|?_
            rcases iS hm with⟨a6,hm⟩|⟨a6,hm⟩
            ·refine yw (t3 a6 (w1 z z)) z z<|pt z<|mv z<|oS hm fun h4 gW hm=>f5 _ (ah (Tab.mono (s0 b (s0 c (s0 d (s0 e (s0 f (s0 j (s0 l (s0 m (s0 n (s0 q (s0 i (s0 k t)))))))))))) hT) gW) z (A1 z) z en7.out z z z<|?_
             rintro _ gX _ ⟨rfl,rfl⟩ gY
             cases hm
             exact pt z<|sg z<|u1 fun a w ha hs=>⟨gX,(s0 i (s0 k (s0 t gY))),cv ha,(am [] hs z)⟩
            cases hm
            exact yw (s2 a6 (w1 z z)) z z<|pt z<|mv z<|un z z<|pf z<|sg z<|u1 fun a w ha hs=>⟨A,(s0 i (s0 k t)),cv ha,(am [] hs z)⟩
           cases hm
           exact yw (s2 Y (w1 z z)) z z<|pt z<|mv z<|un z z<|un z z<|un z z<|pf z<|mv z<|un z z<|un z z<|un z z<|pf z<|mv z<|un z z<|pf z<|sg z<|u1 fun a w ha hs=>⟨A,(s0 i (s0 k t)),cv ha,(am [] hs z)⟩
          cases hm
          exact yw (s2 X (w1 z z)) z z<|pt z<|mv z<|un z z<|un z z<|un z z<|un z z<|pf z<|mv z<|un z z<|un z z<|un z z<|pf z<|mv z<|un z z<|un z z<|un z z<|pf z<|mv z<|un z z<|pf z<|sg z<|u1 fun a w ha hs=>⟨U,(s0 i k),cv ha,(am [] hs z)⟩
         cases hm
         exact yw (s2 W (v6 z z)) z z<|pt z<|mv z<|un z z<|un z z<|un z z<|pf z<|mv z<|un z z<|un z z<|un z z<|un z z<|pf z<|mv z<|un z z<|un z z<|un z z<|pf z<|mv z<|un z z<|un z z<|un z z<|pf z<|mv z<|un z z<|pf z<|sg z<|u1 fun a w ha hs=>⟨U,(s0 i k),cv ha,(am [] hs z)⟩
        have gZ:(c1)=false:=w2 V
        try rw [gZ]
        cases hm
        exact pt z<|mv z<|un z z<|un z z<|un z z<|pf z<|mv z<|un z z<|un z z<|un z z<|pf z<|mv z<|un z z<|un z z<|un z z<|un z z<|pf z<|mv z<|un z z<|un z z<|un z z<|pf z<|mv z<|un z z<|un z z<|un z z<|pf z<|mv z<|un z z<|pf z<|sg z<|u1 fun a w ha hs=>⟨U,(s0 i k),cv ha,(am [] hs z)⟩
       have g0:(c0)=false:=w2 S
       try rw [g0]
       cases hm
       exact pt z<|mv z<|un z z<|un z z<|un z z<|pf z<|mv z<|un z z<|un z z<|un z z<|pf z<|mv z<|un z z<|un z z<|un z z<|pf z<|mv z<|un z z<|un z z<|un z z<|un z z<|pf z<|mv z<|un z z<|un z z<|un z z<|pf z<|mv z<|un z z<|un z z<|un z z<|pf z<|mv z<|un z z<|pf z<|sg z<|u1 fun a w ha hs=>⟨e5,i,cv ha,(am [] hs z)⟩
      cases hm
      exact yw (s2 R (w1 z z)) z z<|pt z<|mv z<|un z z<|un z z<|un z z<|pf z<|mv z<|un z z<|un z z<|un z z<|pf z<|mv z<|un z z<|un z z<|un z z<|pf z<|mv z<|un z z<|un z z<|un z z<|pf z<|mv z<|un z z<|un z z<|un z z<|un z z<|pf z<|mv z<|un z z<|un z z<|un z z<|pf z<|mv z<|un z z<|un z z<|un z z<|pf z<|mv z<|un z z<|pf z<|sg z<|u1 fun a w ha hs=>⟨x,(l0 _),cv ha,(am [] hs z)⟩
     cases hm
     exact yw (s2 Q (w1 z z)) z z<|pt z<|mv z<|un z z<|un z z<|pf z<|mv z<|un z z<|un z z<|un z z<|pf z<|mv z<|un z z<|un z z<|un z z<|pf z<|mv z<|un z z<|un z z<|un z z<|pf z<|mv z<|un z z<|un z z<|un z z<|pf z<|mv z<|un z z<|un z z<|un z z<|un z z<|pf z<|mv z<|un z z<|un z z<|un z z<|pf z<|mv z<|un z z<|un z z<|un z z<|pf z<|mv z<|un z z<|pf z<|sg z<|u1 fun a w ha hs=>⟨x,(l0 _),cv ha,(am [] hs z)⟩
    cases hm
    exact yw (s2 P (w1 z z)) z z<|pt z<|mv z<|un z z<|un z z<|pf z<|mv z<|un z z<|un z z<|pf z<|mv z<|un z z<|un z z<|un z z<|pf z<|mv z<|un z z<|un z z<|un z z<|pf z<|mv z<|un z z<|un z z<|un z z<|pf z<|mv z<|un z z<|un z z<|un z z<|pf z<|mv z<|un z z<|un z z<|un z z<|un z z<|pf z<|mv z<|un z z<|un z z<|un z z<|pf z<|mv z<|un z z<|un z z<|un z z<|pf z<|mv z<|un z z<|pf z<|sg z<|u1 fun a w ha hs=>⟨x,(l0 _),cv ha,(am [] hs z)⟩
   cases hm
   exact yw (s2 N (w1 z z)) z z<|pt z<|mv z<|un z z<|un z z<|pf z<|mv z<|un z z<|un z z<|pf z<|mv z<|un z z<|un z z<|pf z<|mv z<|un z z<|un z z<|un z z<|pf z<|mv z<|un z z<|un z z<|un z z<|pf z<|mv z<|un z z<|un z z<|un z z<|pf z<|mv z<|un z z<|un z z<|un z z<|pf z<|mv z<|un z z<|un z z<|un z z<|un z z<|pf z<|mv z<|un z z<|un z z<|un z z<|pf z<|mv z<|un z z<|un z z<|un z z<|pf z<|mv z<|un z z<|pf z<|sg z<|u1 fun a w ha hs=>⟨x,(l0 _),cv ha,(am [] hs z)⟩
  have g1:(cu.1)=false:=w2 M
  try rw [g1]
  cases hm
  exact mv z<|mv z<|un z z<|un z z<|pf z<|mv z<|un z z<|un z z<|pf z<|mv z<|un z z<|un z z<|pf z<|mv z<|un z z<|un z z<|pf z<|mv z<|un z z<|un z z<|un z z<|pf z<|mv z<|un z z<|un z z<|un z z<|pf z<|mv z<|un z z<|un z z<|un z z<|pf z<|mv z<|un z z<|un z z<|un z z<|pf z<|mv z<|un z z<|un z z<|un z z<|un z z<|pf z<|mv z<|un z z<|un z z<|un z z<|pf z<|mv z<|un z z<|un z z<|un z z<|pf z<|mv z<|un z z<|pf z<|sg z<|u1 fun a w ha hs=>⟨x,(l0 _),cv ha,(am [] hs z)⟩
 rintro⟨L,h5,ha,hs⟩
 cases hm
 exact us ha hs<|u2<|k0 z z ⟨z,z⟩ (aF [] z)
theorem eO {a1:DNode}(U:Fsl 160 KDAlt F B C a0) (b2:Fsl 8 (Kind.int .i64) F q t a1.Kids) (J:Mrel (Kind.int .i64) false F e a2) (hm:m_graph_fits g a0 a1 a2=some r):
    CallSp Tryz.prog 56 #[sl B a0 C,.agg #[iV a1.Op,sV a1.Name,iV a1.N,sl q a1.Kids t],.map (some c)] F [mapv t0 c e] (fun u F' H'=>∃V W X Y Z a3 a4,u=(.tuple #[.agg (ca r.1 V W X Y Z a3),.bool r.2.1])∧Fsl 16 Kind.str F' V W r.1.Names∧Fsl 104 KDExpr F' X Y r.1.Kids∧Fsl 160 KDAlt F' Z a3 r.1.Alts∧Mrel (Kind.int .i64) false F' a4 r.2.2∧H'=[mapv t0 c a4]):=by
 unfold m_graph_fits at hm
 refine f1 Tryz.func56 z z fun d5 d6 d7=>ssr<|ba z fun f=>aa eK z fun d=>sg z<|snn<|oD hm (fun K h s=>∃a5:Unit,K=.inl a5∧h [(6,pP d 0)]∧s F [mapv t0 c e,bK d #[iV 0,sV [],iV 0,nS,nS,nS] 64]) (fun K hm D=>?_) fun K D a w=>?_
 ·refine ssr<|mv z<|yv (u0 eY z) z<|mv z<|snn<|t1<|lM hm (fun x h s=>h [(2,.map (some c)),(4,pP f 0),(6,pP d 0),(12,sl B a0 C),(13,lV a0),(14,nV x)]∧s F [mapv t0 c e,bK f #[iV a1.Op,sV a1.Name,iV a1.N,sl q a1.Kids t] 71,bK d #[iV 0,sV [],iV 0,nS,nS,nS] 64]) ?_ ?_
  ·intro a w ha hs
   exact⟨cv ha,(am [2,1,0] hs z)⟩
  rintro x d8 d9 hm E a w ⟨ha,hs⟩
  refine us ha hs<|ssr<|yv (r2 z z) z<|snn<|x1<|cP hm z (fun b3 hm=>?_) fun e0 hm=>?_
  ·refine skn<|x1<|t1<|ssr<|oS hm fun b b6 hm=>?_
   obtain⟨e1,e2,b7,b8,b9⟩:=U.nidx b6
   obtain⟨y,A,i,k,l,m,n,o,rfl,a6,a7,a8,a9⟩:=DAlt.opn b8
   refine yv (t2 b7 fr z z) z<|yv (v1 z (k3 b9 ci)) z<|aa eD z fun p=>sN ci z z<|snn<|t1<|oC hm (fun L h s=>h [(2,.map (some c)),(4,pP f 0),(6,pP d 0),(9,pP p 0),(12,sl B a0 C),(13,lV a0),(14,nV x),(18,.bool L)]∧s F [mapv t0 c e,bK f #[iV a1.Op,sV a1.Name,iV a1.N,sl q a1.Kids t] 71,bK d #[iV 0,sV [],iV 0,nS,nS,nS] 64,bK p (fC b y A i k l m n o) 141]) (fun L hm=>?_) fun L hm a w=>?_
   ·refine q0<|fa v5 z<|ld 2 r6 z<|?_
    rcases iS hm with⟨M,hm⟩|⟨M,hm⟩
    ·refine yv (t3 M (w1 z z)) z<|mv z<|fw y6 z z<|fw w9 z z<|lw 0 r6 z z<|?_
     rcases iS hm with⟨N,hm⟩|⟨N,hm⟩
     ·cases hm
      exact yw (t3 N (w1 z z)) z z<|pt z<|mv z<|fw y6 z z<|fw bu z z<|lw 0 r6 z z<|fw w8 z z<|lw 2 r6 z z<|yw (w1 z z) z z<|pt z<|sg z<|u1<|eN [1,1,1,0] z
     cases hm
     exact yw (s2 N (w1 z z)) z z<|pt z<|mv z<|un z z<|un z z<|un z z<|un z z<|un z z<|un z z<|pf z<|sg z<|u1<|eN [1,1,1,0] z
    cases hm
    exact yv (s2 M (w1 z z)) z<|mv z<|un z z<|un z z<|un z z<|un z z<|pf z<|mv z<|un z z<|un z z<|un z z<|un z z<|un z z<|un z z<|pf z<|sg z<|u1<|eN [1,1,1,0] z
   rintro⟨ha,hs⟩
   refine us ha hs<|cB hm z (fun e3 hm=>?_) fun e4 hm=>?_
   ·cases hm
    obtain rfl:=aR E
    obtain rfl:=aR D
    exact ssr<|fa af z<|yv (v1 z (n7 (vs:=[iV b.E.Op,sV b.E.Name,iV b.E.N,sl i b.E.Names k,sl l b.E.Kids m,sl n b.E.Alts o]) 3 z m7 z z)) z<|pk2<|sN m7 z z<|sg z<|snn<|u2<|m2<|m2<|v0<|v0<|m2<|v0<|x9 z (m4 z (w5 0 m7 z)) z ⟨i,k,l,m,n,o,e,z,a7,a8,a9,J,z⟩ (aF [1] z)
   refine oC hm (fun P h s=>h [(2,.map (some c)),(4,pP f 0),(6,pP d 0),(9,pP p 0),(12,sl B a0 C),(13,lV a0),(14,nV x),(38,.bool P)]∧s F [mapv t0 c e,bK f #[iV a1.Op,sV a1.Name,iV a1.N,sl q a1.Kids t] 71,bK d #[iV 0,sV [],iV 0,nS,nS,nS] 64,bK p (fC b y A i k l m n o) 141]) (fun P hm=>?_) fun P hm a w=>?_
   ·refine q0<|fa v5 z<|ld 1 r6 z<|?_
    rcases iS hm with⟨Q,hm⟩|⟨Q,hm⟩
    ·refine yv (t3 Q (w1 z z)) z<|mv z<|fw y6 z z<|fw w9 z z<|lw 3 r6 z z<|?_
     rcases iS hm with⟨R,hm⟩|⟨R,hm⟩
     ·cases hm
      exact yw (t3 R (w1 z z)) z z<|pt z<|mv z<|fw y6 z z<|fw t9 z z<|lw 3 r9 z z<|fw u6 z z<|lw 1 r9 z z<|yw (v6 z z) z z<|pt z<|sg z<|u1<|eN [0,0,0,0] z
     cases hm
     exact yw (s2 R (w1 z z)) z z<|pt z<|mv z<|un z z<|un z z<|un z z<|un z z<|un z z<|un z z<|pf z<|sg z<|u1<|eN [0,0,0,0] z
    cases hm
    exact yv (s2 Q (w1 z z)) z<|mv z<|un z z<|un z z<|un z z<|un z z<|pf z<|mv z<|un z z<|un z z<|un z z<|un z z<|un z z<|un z z<|pf z<|sg z<|u1<|eN [0,0,0,0] z
   rintro⟨ha,hs⟩
   refine us ha hs<|cB hm z (fun e5 hm=>?_) fun e6 hm=>?_
   ·refine oC hm (fun S h s=>∃G,Mrel (Kind.int .i64) false F G S∧h [(6,pP d 0),(9,pP p 0)]∧s F [mapv t0 c G,bK d #[iV 0,sV [],iV 0,nS,nS,nS] 64,bK p (fC b y A i k l m n o) 141]) (fun S hm=>?_) fun S hm a w=>?_
    ·refine ssr<|fa y6 z<|fa aT z<|ld 3 fc z<|yv (u0 eZ z) z<|mv z<|snn<|t1<|lM hm (fun H h s=>∃I,Mrel (Kind.int .i64) false F I H.1∧h [(2,.map (some c)),(4,pP f 0),(6,pP d 0),(9,pP p 0),(58,sl y b.P.Kids A),(59,lV b.P.Kids),(60,nV H.2)]∧s F [mapv t0 c I,bK f #[iV a1.Op,sV a1.Name,iV a1.N,sl q a1.Kids t] 71,bK d #[iV 0,sV [],iV 0,nS,nS,nS] 64,bK p (fC b y A i k l m n o) 141]) ?_ ?_
     ·intro a w ha hs
      exact⟨e,J,cv ha,(am [0,0,0,0] hs z)⟩
     rintro H e7 e8 hm b0 a w ⟨I,b1,ha,hs⟩
     refine us ha hs<|ssr<|yv (r2 z z) z<|snn<|x1<|cP hm z (fun cs hm=>?_) fun e9 hm=>?_
     ·refine skn<|x1<|t1<|ssr<|mv z<|oS hm fun fo cu hm=>?_
      obtain⟨f0,gP,c0,c1,c2⟩:=a6.nidx cu
      obtain⟨gQ,gR,rfl,gS⟩:=DPat.opn c1
      refine yv (t2 c0 gh z z) z<|yv (v1 z (k3 c2 dh)) z<|aa fW z fun gT=>sg z<|sN dh z z<|snn<|ds [8] hmix<|tp 0 z (fun _=>x2 z) z z<|tp 1 z (fun _=>w3 t9 z) z z<|tk [0,1,3,5,6] 2 z (p3 0 r9 z) z z k1<|tp 3 z (fun _=>w3 r5 z) z z<|tk [0,1,3,5,6] 4 z (p3 2 n9 z) z z k1<|tp 5 z (fun _=>x2 z) z z<|oS hm fun c3 c4 hm=>?_
      obtain⟨gU,gV,c5,c6,c7⟩:=b2.nidx c4
      obtain rfl:=c6
      refine tp 6 z (fun _=>t2 c5 y9 z z) z z<|tk [0,1,3,5,6] 7 z (v1 z (k5 c7 r6 z)) z z k1<|oN 8 z z fun c8=>oS hm fun c9 d1 hm=>?_
      cases hm
      exact pk1<|mP d1 b1 ⟨[iV c3],z,z⟩ aj aq z fun d2 d3=>m1 c8 (fun h=>by cases h)<|dn<|f2<|s4<|q0<|yv (s3 (j:=1) z z z (by have q_0:=cs;have q_1:=a6.bnd.2;omega)) z<|mv z<|snn fun a w ha hs=>⟨(c9,H.2+1),aL b0,d2,d3,cv ha,(am [0,1,1,1] hs z)⟩
     cases hm
     obtain rfl:=aR b0
     exact u4<|p0<|p0<|u3 fun a w ha hs=>⟨I,b1,cv ha,(am [0,1,1] hs z)⟩
    rintro⟨G,d4,ha,hs⟩
    cases hm
    obtain rfl:=aR E
    obtain rfl:=aR D
    exact us ha hs<|ssr<|fa af z<|yv (v1 z (n7 (vs:=[iV b.E.Op,sV b.E.Name,iV b.E.N,sl i b.E.Names k,sl l b.E.Kids m,sl n b.E.Alts o]) 2 z m7 z z)) z<|pk1<|sN m7 z z<|sg z<|snn<|u2<|m2<|m2<|v0<|v0<|m2<|v0<|x9 z (m4 z (w5 0 m7 z)) z ⟨i,k,l,m,n,o,G,z,a7,a8,a9,d4,z⟩ (aF [1] z)
   cases hm
   exact k4<|f2<|f2<|s4<|q0<|yv (s3 (j:=1) z z z (by have q_0:=b3;have q_1:=U.bnd.2;omega)) z<|mv z<|snn fun a w ha hs=>⟨x+1,aL E,cv ha,(am [0,0,0] hs z)⟩
  cases hm
  obtain rfl:=aR E
  exact u4<|p0<|p0<|u3 fun a w ha hs=>⟨(),z,cv ha,(am [0,1] hs z)⟩
 rintro⟨a5,rfl,ha,hs⟩
 replace hm:=aL D
 cases hm
 exact us ha hs<|ssr<|yv (v2 (v:=(.agg #[iV 0,sV [],iV 0,nS,nS,nS])) (vs:=#[]) (fun a _=>by simp) (fun _=>by kernel_rfl)) z<|pk1<|sN m7 z z<|sg z<|snn<|u2<|x9 z (m4 z (w5 0 m7 z)) z ⟨none,0,none,0,none,0,e,z,r3,r3,r3,J,z⟩ (aF [1] z)
theorem bi {a0:DFun}{a1:DGraph}(gV:Fsl 16 Kind.str F c9 d1 a0.Vars) (he:Fsl 16 Kind.str F b1 b2 a0.E.Names) (hf:Fsl 104 KDExpr F b3 b4 a0.E.Kids) (hg:Fsl 160 KDAlt F b5 b6 a0.E.Alts) (hh:Fsl 56 KDNode F U V a1.Nodes) (hi:Fsl 8 (Kind.int .i64) F gW gX a2) (hj:Fsl 64 KDData F q t a3) (hk:Fsl 64 KDData F x y a4) (hl:Fsl 144 KDFun F A B a5) (hn:Mrel (Kind.int .i64) false F C a6) (gY:Mrel (Kind.int .i64) false F D a7) (ho:Mrel (Kind.int .i64) false F E a8) (hp:Mrel (Kind.int .i64) false F G a9) (hm:m_graph_Body g a0 a1 a2 a3 a4 a5 a6 a7 a8 a9=some r):
    CallSp Tryz.prog 28 #[pP l 0,.agg (gu a0 c9 d1 b1 b2 b3 b4 b5 b6),.agg #[iV a1.Root,sl U a1.Nodes V],sl gW a2 gX] F [bK l #[.map (some c),.map (some d),.map (some e),sl q a3 t,sl x a4 y,sl A a5 B,.map (some f)] 81,mapv t0 c C,mapv t0 d D,mapv t0 e E,mapv t0 f G] (fun u F' H'=>sumP (fun rl=>∃b7 b8 b9 cs cu c0 c1 c2,u=(.agg #[iV rl.1,sV rl.2.1,iV rl.2.2.1,sl b7 rl.2.2.2.1 b8,sl b9 rl.2.2.2.2.1 cs,sl cu rl.2.2.2.2.2.1 c0,.map none,iV rl.2.2.2.2.2.2.1,.bool rl.2.2.2.2.2.2.2.1,sl c1 rl.2.2.2.2.2.2.2.2.1 c2,.bool rl.2.2.2.2.2.2.2.2.2])∧Fsl 16 Kind.str F' b7 b8 rl.2.2.2.1∧Fsl 104 KDExpr F' b9 cs rl.2.2.2.2.1∧Fsl 160 KDAlt F' cu c0 rl.2.2.2.2.2.1∧Fsl 160 KDAlt F' c1 c2 rl.2.2.2.2.2.2.2.2.1∧H'=[bK l #[.map (some c),.map (some d),.map (some e),sl q a3 t,sl x a4 y,sl A a5 B,.map (some f)] 81,mapv t0 c C,mapv t0 d D,mapv t0 e E,mapv t0 f G]) (fun rr=>∃gZ b7 b8 b9 cs cu c0 c1 c2 g0,u=(.agg #[iV rr.1,sV rr.2.1,iV rr.2.2.1,sl b7 rr.2.2.2.1 b8,sl b9 rr.2.2.2.2.1 cs,sl cu rr.2.2.2.2.2.1 c0,.map (some gZ),iV rr.2.2.2.2.2.2.1,.bool rr.2.2.2.2.2.2.2.1,sl c1 rr.2.2.2.2.2.2.2.2.1 c2,.bool rr.2.2.2.2.2.2.2.2.2.1])∧Fsl 16 Kind.str F' b7 b8 rr.2.2.2.1∧Fsl 104 KDExpr F' b9 cs rr.2.2.2.2.1∧Fsl 160 KDAlt F' cu c0 rr.2.2.2.2.2.1∧Fsl 160 KDAlt F' c1 c2 rr.2.2.2.2.2.2.2.2.1∧Mrel (Kind.int .i64) false F' g0 rr.2.2.2.2.2.2.2.2.2.2∧H'=[mapv t0 gZ g0,bK l #[.map (some c),.map (some d),.map (some e),sl q a3 t,sl x a4 y,sl A a5 B,.map (some f)] 81,mapv t0 c C,mapv t0 d D,mapv t0 e E,mapv t0 f G]) r):=by
 unfold m_graph_Body at hm
 refine f1 Tryz.func28 z z fun ij ik il=>ssr<|ba z fun d2=>ba z fun o=>aa gn z fun m=>snn<|ssr<|n4 (P:=Tryz.prog) t0 p1 z fun n=>sg z<|snn<|oC hm (fun e3 h s=>∃d6,Mrel (Kind.int .i64) false F d6 e3∧h [(0,pP l 0),(5,pP d2 0),(6,pP o 0),(8,pP m 0),(9,.map (some n))]∧s F [mapv t0 c C,mapv t0 d D,mapv t0 e E,mapv t0 f G,bK l #[.map (some c),.map (some d),.map (some e),sl q a3 t,sl x a4 y,sl A a5 B,.map (some f)] 81,bK d2 (gu a0 c9 d1 b1 b2 b3 b4 b5 b6) 66,bK o #[iV a1.Root,sl U a1.Nodes V] 28,bK m #[iV 0,sV [],iV 0,nS,nS,nS,.map none,iV 0,.bool false,nS,.bool false] 83,mapv t0 n d6]) (fun e3 hm=>?_) fun e3 hm a w=>?_
 ·refine ssr<|fa cA z<|ld 3 aJ z<|yv (u0 bj z) z<|mv z<|snn<|t1<|lM hm (fun d7 h s=>∃d9,Mrel (Kind.int .i64) false F d9 d7.1∧h [(0,pP l 0),(3,sl gW a2 gX),(5,pP d2 0),(6,pP o 0),(8,pP m 0),(9,.map (some n)),(22,sl c9 a0.Vars d1),(23,lV a0.Vars),(24,nV d7.2)]∧s F [mapv t0 c C,mapv t0 d D,mapv t0 e E,mapv t0 f G,bK l #[.map (some c),.map (some d),.map (some e),sl q a3 t,sl x a4 y,sl A a5 B,.map (some f)] 81,bK d2 (gu a0 c9 d1 b1 b2 b3 b4 b5 b6) 66,bK o #[iV a1.Root,sl U a1.Nodes V] 28,bK m #[iV 0,sV [],iV 0,nS,nS,nS,.map none,iV 0,.bool false,nS,.bool false] 83,mapv t0 n d9]) ?_ ?_
  ·intro a w ha hs
   exact⟨[],(mN (Kind.int .i64) false),cv ha,(am [5,5,5,5,4,3,2,1,0] hs z)⟩
  rintro d7 im io hm g1 a w ⟨d9,g2,ha,hs⟩
  refine us ha hs<|ssr<|yv (r2 z z) z<|snn<|x1<|cP hm z (fun hq hm=>?_) fun ip hm=>?_
  ·refine skn<|x1<|t1<|ssr<|mv z<|oS hm fun iq hr hm=>?_
   obtain⟨ir,it,ht,hu,hv⟩:=gV.nidx hr
   obtain rfl:=hu
   refine yv (t2 ht bM z z) z<|yv (v1 z (k5 hv r9 z)) z<|sg z<|sg z<|snn<|q0<|mv z<|mv z<|mv z<|mv z<|oS hm fun hw hx hm=>?_
   obtain⟨iu,iv,hy,hz,hA⟩:=hi.nidx hx
   obtain rfl:=hz
   refine yv (t2 hy y9 z z) z<|yv (v1 z (k5 hA r6 z)) z<|oS hm fun hB hC hm=>?_
   cases hm
   exact pk8<|mP hC g2 ⟨[iV hw],z,z⟩ aj aq z fun hD hE=>u1<|f2<|s4<|q0<|yv (s3 (j:=1) z z z (by have q_0:=hq;have q_1:=gV.bnd.2;omega)) z<|mv z<|snn fun a w ha hs=>⟨(hB,d7.2+1),aL g1,hD,hE,cv ha,(am [1,1,1,1,1,1,1,1,0] hs z)⟩
  cases hm
  obtain rfl:=aR g1
  exact u4<|p0<|p0<|u3 fun a w ha hs=>⟨d9,g2,cv ha,(am [0,0,0,0,0,0,0,0,0] hs z)⟩
 rintro⟨d6,hF,ha,hs⟩
 refine us ha hs<|ssr<|fa br z<|yv (v1 z (n7 (vs:=[iV a0.E.Op,sV a0.E.Name,iV a0.E.N,sl b1 a0.E.Names b2,sl b3 a0.E.Kids b4,sl b5 a0.E.Alts b6]) 5 z m7 z z)) z<|aa eK z fun p=>sN m7 z z<|snn<|oD hm (fun e4 h s=>∃i:(List ((List UInt8)×Int))×Int×List UInt8×Int×List (List UInt8)×List DExpr×List DAlt,e4=.inl i∧∃e0 c3 c4 c5 c6 c7 c8 W,m3 F W∧Mrel (Kind.int .i64) false W e0 i.1∧Fsl 16 Kind.str W c3 c4 i.2.2.2.2.1∧Fsl 104 KDExpr W c5 c6 i.2.2.2.2.2.1∧Fsl 160 KDAlt W c7 c8 i.2.2.2.2.2.2∧h [(8,pP m 0),(9,.map (some n)),(12,pP p 0)]∧s W [mapv t0 c C,mapv t0 d D,mapv t0 e E,mapv t0 f G,bK l #[.map (some c),.map (some d),.map (some e),sl q a3 t,sl x a4 y,sl A a5 B,.map (some f)] 81,bK m #[iV 0,sV [],iV 0,nS,nS,nS,.map none,iV 0,.bool false,nS,.bool false] 83,mapv t0 n e0,bK p #[iV i.2.1,sV i.2.2.1,iV i.2.2.2.1,sl c3 i.2.2.2.2.1 c4,sl c5 i.2.2.2.2.2.1 c6,sl c7 i.2.2.2.2.2.2 c8] 64]) (fun e4 hm Y=>?_) fun e4 Y a w=>?_
 ·refine t1<|lM hm (fun b h s=>∃X N Q R S I J L,m3 F L∧Mrel (Kind.int .i64) false L X b.1∧Fsl 16 Kind.str L N Q b.2.2.2.2.1∧Fsl 104 KDExpr L R S b.2.2.2.2.2.1∧Fsl 160 KDAlt L I J b.2.2.2.2.2.2∧h [(0,pP l 0),(6,pP o 0),(8,pP m 0),(9,.map (some n)),(12,pP p 0)]∧s L [mapv t0 c C,mapv t0 d D,mapv t0 e E,mapv t0 f G,bK l #[.map (some c),.map (some d),.map (some e),sl q a3 t,sl x a4 y,sl A a5 B,.map (some f)] 81,bK o #[iV a1.Root,sl U a1.Nodes V] 28,bK m #[iV 0,sV [],iV 0,nS,nS,nS,.map none,iV 0,.bool false,nS,.bool false] 83,mapv t0 n X,bK p #[iV b.2.1,sV b.2.2.1,iV b.2.2.2.1,sl N b.2.2.2.2.1 Q,sl R b.2.2.2.2.2.1 S,sl I b.2.2.2.2.2.2 J] 64]) ?_ ?_
  ·intro a w ha hs
   exact⟨d6,b1,b2,b3,b4,b5,b6,F,(l0 _),hF,he,hf,hg,cv ha,(am [1,1,1,1,1,2,2,2,0] hs z)⟩
  rintro b iw ix hm Z a w ⟨X,N,Q,R,S,I,J,L,H,e5,hG,g3,e6,ha,hs⟩
  refine us ha hs<|x1<|oC hm (fun e7 h s=>h [(0,pP l 0),(6,pP o 0),(8,pP m 0),(9,.map (some n)),(12,pP p 0),(45,.bool e7)]∧s L [mapv t0 c C,mapv t0 d D,mapv t0 e E,mapv t0 f G,bK l #[.map (some c),.map (some d),.map (some e),sl q a3 t,sl x a4 y,sl A a5 B,.map (some f)] 81,bK o #[iV a1.Root,sl U a1.Nodes V] 28,bK m #[iV 0,sV [],iV 0,nS,nS,nS,.map none,iV 0,.bool false,nS,.bool false] 83,mapv t0 n X,bK p #[iV b.2.1,sV b.2.2.1,iV b.2.2.2.1,sl N b.2.2.2.2.1 Q,sl R b.2.2.2.2.2.1 S,sl I b.2.2.2.2.2.2 J] 64]) (fun e7 hm=>?_) fun e7 hm a w=>?_
  ·refine q0<|fa n8 z<|ld 8 r6 z<|?_
   rcases iS hm with⟨e8,hm⟩|⟨e8,hm⟩
   ·cases hm
    exact yv (t3 e8 (w1 z z)) z<|mv z<|un z z<|un z z<|un z z<|pt z<|u1<|eN [0,0,0,0,0,0,0,0,0] z
   cases hm
   exact yv (s2 e8 (w1 z z)) z<|mv z<|fw n8 z z<|lw 8 r6 z z<|yw (w1 z z) z z<|pf z<|u1<|eN [0,0,0,0,0,0,0,0,0] z
  rintro⟨ha,hs⟩
  refine us ha hs<|cB hm z (fun iy hm=>?_) fun iz hm=>?_
  ·refine skn<|t1<|ssr<|mv z<|fa w7 z<|ld 8 da z<|oS hm fun hH e9 hm=>?_
   replace e9:=nlit e9
   obtain⟨hI,iA,hJ,hK,hL⟩:=g3.idx e9
   obtain⟨iB,iC,iD,iE,iG,iH,rfl,iI,iJ,iK⟩:=DExpr.opn hK
   refine yv (t2 hJ el z z) z<|yv (bg (v:=(.pointer (some (hI.add 1)))) z (fun _=>by kernel_rfl)) z<|yv (v1 z (Loads.Fatk 1 hL r9 z)) z<|oS hm fun fo hM hm=>?_
   obtain⟨iL,hN,iM,g7,hO⟩:=p6 (k:=hH.Name) e5 (show Mval (Kind.int .i64) false _ (iV 0) 0 from⟨[iV 0],z,z⟩)
   rw [Mir.getD_some hM] at g7
   obtain rfl:=g7
   obtain rfl:=(List.cons.inj (if_neg (show¬(false=true) by decide)▸hO)).1
   refine yv (f7 z z 7 z aj aq eL hN) z<|sg z<|snn<|ssr<|fa v4 z<|ld 5 m8 z<|mv z<|oS hm fun K hP hm=>?_
   obtain⟨iN,iO,hQ,hR,hS⟩:=(x0 H hh).idx hP
   obtain⟨hb,hc,rfl,hT⟩:=DNode.opn hR
   refine yv (t2 hQ bz z z) z<|yv (v1 z (k3 hS ak)) z<|aa cR z fun e1=>sN ak z z<|snn<|ssr<|mv z<|fa u6 z<|ld 0 r9 z<|pk4<|pk4<|pk4<|pk4<|pk5<|oS hm fun hU hV hm=>cl (w6 (x0 H hj) (x0 H hk) (x0 H hl) (p2 H hn) (p2 H gY) (p2 H ho) (p2 H hp) hV) z z<|?_
   rintro _ f0 _ ⟨rfl,rfl⟩ b0
   refine mv z<|yv (r0 z z) z<|yv (r0 z z) z<|sg z<|sg z<|snn<|x1<|t1<|ssr<|fa v5 z<|ld 5 r6 z<|yv (w1 z z) z<|sg z<|snn<|cP hm z (fun iP hm=>?_) fun iQ hm=>?_
   ·cases hm
    obtain rfl:=aR Z
    obtain rfl:=aR Y
    exact ssr<|yv (v2 (v:=(.agg #[iV 0,sV [],iV 0,nS,nS,nS,.map none,iV (-1),.bool false,nS,.bool true])) (A2 z) (fun _=>by kernel_rfl)) z<|pk7<|sN dt z z<|snn<|u2<|m2<|v0<|m2<|v0<|m2<|v0<|k0 z (m4 z (w5 0 dt z)) (sumL ⟨none,0,none,0,none,0,none,0,z,r3,r3,r3,r3,z⟩) (aF [1,1,1,1,1] z)
   refine oC hm (fun gP h s=>h [(0,pP l 0),(6,pP o 0),(8,pP m 0),(9,.map (some n)),(12,pP p 0),(13,iV fo),(14,pP e1 0),(15,iV hU.1),(70,.bool gP)]∧s f0 [mapv t0 c C,mapv t0 d D,mapv t0 e E,mapv t0 f G,bK l #[.map (some c),.map (some d),.map (some e),sl q a3 t,sl x a4 y,sl A a5 B,.map (some f)] 81,bK o #[iV a1.Root,sl U a1.Nodes V] 28,bK m #[iV 0,sV [],iV 0,nS,nS,nS,.map none,iV 0,.bool false,nS,.bool false] 83,mapv t0 n X,bK p #[iV b.2.1,sV b.2.2.1,iV b.2.2.2.1,sl N b.2.2.2.2.1 Q,sl R b.2.2.2.2.2.1 S,sl I b.2.2.2.2.2.2 J] 64,bK e1 #[iV K.Op,sV K.Name,iV K.N,sl hb K.Kids hc] 71]) (fun gP hm=>?_) fun gP hm a w=>?_
   ·refine ssr<|fa v5 z<|ld 5 r6 z<|yv (w1 z z) z<|sg z<|snn<|cP hm z (fun iR hm=>?_) fun iU hm=>?_
    ·cases hm
     exact k4 fun a w ha hs=>⟨cv ha,(am [1,1,1,1,0,1,1,1,1,0] hs z)⟩
    refine ssr<|fa v5 z<|ld 5 r6 z<|yv (w1 z z) z<|sg z<|snn<|cP hm z (fun iW hm=>?_) fun iX hm=>?_
    ·cases hm
     exact k4 fun a w ha hs=>⟨cv ha,(am [1,1,1,1,0,1,1,1,1,0] hs z)⟩
    refine ssr<|fa v5 z<|ld 5 r6 z<|yv (w1 z z) z<|sg z<|snn<|cP hm z (fun iY hm=>?_) fun iZ hm=>?_
    ·cases hm
     exact k4 fun a w ha hs=>⟨cv ha,(am [1,1,1,1,0,1,1,1,1,0] hs z)⟩
    cases hm
    exact q0<|fa v5 z<|ld 5 r6 z<|yv (w1 z z) z<|sg z<|u1<|eN [1,1,1,1,0,1,1,1,1,0] z
   rintro⟨ha,hs⟩
   refine us ha hs<|cB hm z (fun i0 hm=>?_) fun i1 hm=>?_
   ·refine oC hm (fun e2 h s=>h [(8,pP m 0),(12,pP p 0),(13,iV fo),(17,.bool e2)]∧s f0 [mapv t0 c C,mapv t0 d D,mapv t0 e E,mapv t0 f G,bK l #[.map (some c),.map (some d),.map (some e),sl q a3 t,sl x a4 y,sl A a5 B,.map (some f)] 81,bK m #[iV 0,sV [],iV 0,nS,nS,nS,.map none,iV 0,.bool false,nS,.bool false] 83,bK p #[iV b.2.1,sV b.2.2.1,iV b.2.2.2.1,sl N b.2.2.2.2.1 Q,sl R b.2.2.2.2.2.1 S,sl I b.2.2.2.2.2.2 J] 64]) (fun e2 hm=>?_) fun e2 hm a w=>?_
    ·refine q0<|fa v5 z<|ld 9 r6 z<|?_
     rcases iS hm with⟨gQ,hm⟩|⟨gQ,hm⟩
     ·cases hm
      exact yv (t3 gQ (w1 z z)) z<|mv z<|fw r5 z z<|lw 9 n9 z z<|yw (u0 aE z) z z<|mw z z<|yw (r2 z z) z z<|pt z<|sg z<|u1<|eN [0,0,0,0,0,1,2] z
     cases hm
     exact yv (s2 gQ (w1 z z)) z<|mv z<|un z z<|un z z<|un z z<|un z z<|un z z<|pf z<|sg z<|u1<|eN [0,0,0,0,0,1,2] z
    rintro⟨ha,hs⟩
    cases hm
    obtain rfl:=aR Z
    obtain rfl:=aR Y
    exact us ha hs<|ssr<|mv z<|fa n8 z<|ld 6 r6 z<|yv (w1 z z) z<|fa u9 z<|ld 6 en z<|mv z<|yv (v2 (v:=(.agg #[iV 0,sV [],iV 0,nS,nS,nS,.map none,iV fo,.bool (decide (b.2.1=10)),sl I b.2.2.2.2.2.2 J,.bool e2])) (A2 z) (fun _=>by kernel_rfl)) z<|pk5<|sN dt z z<|snn<|u2<|m2<|v0<|m2<|v0<|m2<|v0<|k0 z (m4 z (w5 0 dt z)) (sumL ⟨none,0,none,0,none,0,I,J,z,r3,r3,r3,(x0 b0 e6),z⟩) (aF [5,1,1,1,1] z)
   refine oC hm (fun gR h s=>h [(0,pP l 0),(6,pP o 0),(8,pP m 0),(9,.map (some n)),(12,pP p 0),(14,pP e1 0),(101,.bool gR)]∧s f0 [mapv t0 c C,mapv t0 d D,mapv t0 e E,mapv t0 f G,bK l #[.map (some c),.map (some d),.map (some e),sl q a3 t,sl x a4 y,sl A a5 B,.map (some f)] 81,bK o #[iV a1.Root,sl U a1.Nodes V] 28,bK m #[iV 0,sV [],iV 0,nS,nS,nS,.map none,iV 0,.bool false,nS,.bool false] 83,mapv t0 n X,bK p #[iV b.2.1,sV b.2.2.1,iV b.2.2.2.1,sl N b.2.2.2.2.1 Q,sl R b.2.2.2.2.2.1 S,sl I b.2.2.2.2.2.2 J] 64,bK e1 #[iV K.Op,sV K.Name,iV K.N,sl hb K.Kids hc] 71]) (fun gR hm=>?_) fun gR hm a w=>?_
   ·refine ds [] hmix<|tp 0 z (fun _=>w3 v5 z) z z<|tk [0,2,3,4,6,7,8,9,11,14,15,16] 1 z (p3 9 r6 z) z z k1<|?_
    rcases iS hm with⟨gS,hm⟩|⟨gS,hm⟩
    ·refine tp 2 z (fun _=>t3 gS (w1 z z)) z z<|tp 3 z (fun _=>x2 z) z z<|tq 4 z (fun _=>w3 r5 z) z z z<|tv [0,2,3,4,6,7,8,9,11,14,15,16] 5 z (p3 9 n9 z) z z z k1<|tq 6 z (fun _=>u0 aE z) z z z<|tq 7 z (fun _=>x2 z) z z z<|tq 8 z (fun _=>t4 z) z z z<|tq 9 z (fun _=>w3 az z) z z z<|tv [0,2,3,4,6,7,8,9,11,14,15,16] 10 z (p3 4 cj z) z z z k1<|tq 11 z (fun _=>w3 u6 z) z z z<|tv [0,2,3,4,6,7,8,9,11,14,15,16] 12 z (p3 9 r9 z) z z z k1<|oS hm fun i2 hW hm=>?_
     obtain⟨i3,hX,i4,hd,hY⟩:=p6 (k:=K.Name) (p2 (s0 H b0) gY) (show Mval (Kind.int .i64) false _ (iV 0) 0 from⟨[iV 0],z,z⟩)
     rw [Mir.getD_some hW] at hd
     obtain rfl:=hd
     obtain rfl:=(List.cons.inj (if_neg (show¬(false=true) by decide)▸hY)).1
     cases hm
     exact tv [0,2,3,4,6,7,8,9,11,14,15,16] 13 z (f7 z z 1 z aj aq eL hX) z z z k1<|tq 14 z (fun _=>r2 z z) z z z<|tp 15 z (fun _=>f3 z z) z z<|tp 16 z (fun _=>w4 z) z z<|dn fun a w ha hs=>⟨cv ha,(am [0,0,0,0,0,0,0,0,0,0] hs z)⟩
    cases hm
    exact tp 2 z (fun _=>s2 gS (w1 z z)) z z<|tp 3 z (fun _=>x2 z) z z<|tn 4 z z z<|tn 5 z z z<|tn 6 z z z<|tn 7 z z z<|tn 8 z z z<|tn 9 z z z<|tn 10 z z z<|tn 11 z z z<|tn 12 z z z<|tn 13 z z z<|tn 14 z z z<|tp 15 z (fun _=>n3 z z) z z<|tp 16 z (fun _=>w4 z) z z<|dn fun a w ha hs=>⟨cv ha,(am [0,0,0,0,0,0,0,0,0,0] hs z)⟩
   rintro⟨ha,hs⟩
   refine us ha hs<|cB hm z (fun i5 hm=>?_) fun i6 hm=>?_
   ·cases hm
    obtain rfl:=aR Z
    obtain rfl:=aR Y
    exact ssr<|yv (v2 (v:=(.agg #[iV 0,sV [],iV 0,nS,nS,nS,.map none,iV (-1),.bool false,nS,.bool true])) (A2 z) (fun _=>by kernel_rfl)) z<|pk6<|sN dt z z<|snn<|u2<|m2<|v0<|m2<|v0<|m2<|v0<|k0 z (m4 z (w5 0 dt z)) (sumL ⟨none,0,none,0,none,0,none,0,z,r3,r3,r3,r3,z⟩) (aF [5,1,1,1,1] z)
   refine k4<|f2<|s4<|ssr<|fa u9 z<|ld 8 en z<|lk 9 ak z z<|mv z<|pk7<|oS hm fun M hZ hm=>cl (eO (a1:=K) (x0 b0 e6) (x0 b0 hT) (p2 b0 e5) hZ) z z<|?_
   rintro _ h0 _ ⟨h1,h2,h3,h4,h5,h6,h7,rfl,h8,h9,ia,ib,rfl⟩ ic
   refine mv z<|yv (r0 z z) z<|yv (r0 z z) z<|aa eK z fun i7=>sN m7 z z<|sg z<|snn<|x1<|ssr<|mv z<|yv (p5 z) z<|snn<|?_
   refine m5 z ?_ ?_
   ·intro gT
    replace gT:¬(M.2.1=true):=nb_t gT
    replace hm:=iF hm gT
    cases hm
    obtain rfl:=aR Z
    obtain rfl:=aR Y
    exact ssr<|yv (v2 (v:=(.agg #[iV 0,sV [],iV 0,nS,nS,nS,.map none,iV (-1),.bool false,nS,.bool true])) (A2 z) (fun _=>by kernel_rfl)) z<|pk8<|sN dt z z<|snn<|u2<|v0<|m2<|v0<|m2<|v0<|k0 z (m4 z (w5 0 dt z)) (sumL ⟨none,0,none,0,none,0,none,0,z,r3,r3,r3,r3,z⟩) (aF [7,3,3,3,3] z)
   intro gU
   replace gU:M.2.1=true:=nb_f gU
   replace hm:=iT hm gU
   cases hm
   exact skn<|q0<|lk 0 m7 z z<|pk9<|sN m7 z z<|u1<|f2<|s4 fun a w ha hs=>⟨(M.2.2,M.1.Op,M.1.Name,M.1.N,M.1.Names,M.1.Kids,M.1.Alts),aL Z,h7,h1,h2,h3,h4,h5,h6,h0,(s0 H (s0 b0 ic)),ib,h8,h9,ia,cv ha,(am [3,3,3,3,3,3,3,2,0] hs z)⟩
  cases hm
  obtain rfl:=aR Z
  exact u4<|p0<|p0<|u3 fun a w ha hs=>⟨(b.1,b.2.1,b.2.2.1,b.2.2.2.1,b.2.2.2.2.1,b.2.2.2.2.2.1,b.2.2.2.2.2.2),z,X,N,Q,R,S,I,J,L,H,e5,hG,g3,e6,cv ha,(am [0,0,0,0,0,1,1,1] hs z)⟩
 rintro⟨i,rfl,e0,c3,c4,c5,c6,c7,c8,W,i8,ie,ig,ih,ii,ha,hs⟩
 replace hm:=aL Y
 cases hm
 exact us ha hs<|ssr<|lk 7 m7 z z<|mv z<|yv (v2 (v:=(.agg #[iV i.2.1,sV i.2.2.1,iV i.2.2.2.1,sl c3 i.2.2.2.2.1 c4,sl c5 i.2.2.2.2.2.1 c6,sl c7 i.2.2.2.2.2.2 c8,.map (some n),iV (-1),.bool false,nS,.bool false])) (A2 z) (fun _=>by kernel_rfl)) z<|pk5<|sN dt z z<|snn<|u2<|k0 z (m4 z (w5 0 dt z)) (sumR ⟨n,c3,c4,c5,c6,c7,c8,none,0,e0,z,ig,ih,ii,r3,ie,z⟩) (aF [6,5,1,1,1,1] z)
theorem bE {a0:DGraph}(N:Fsl 56 KDNode F q t a0.Nodes) (hm:m_graph_Put g a0 a1 a2=some r):
    CallSp Tryz.prog 31 #[.agg #[iV a0.Root,sl q a0.Nodes t],iV a1,iV a2] F [] (fun u F' H'=>∃P Q,u=(.agg #[iV r.Root,sl P r.Nodes Q])∧Fsl 56 KDNode F' P Q r.Nodes∧H'=[]):=by
 unfold m_graph_Put at hm
 refine f1 Tryz.func31 z z fun d7 d8 d9=>ssr<|ba z fun R=>aa ab z fun d=>snn<|ssr<|fa y8 z<|ld 1 r6 z<|yv (v2 (v:=(.agg #[iV a0.Root,nS])) (A2 z) (fun _=>by kernel_rfl)) z<|aa ab z fun f=>sN s5 z z<|snn<|oC hm (fun n h s=>h [(1,iV a1),(2,iV a2),(3,pP R 0),(6,pP d 0),(7,pP f 0)]∧s F [bK R #[iV a0.Root,sl q a0.Nodes t] 28,bK d #[iV 0,nS] 28,bK f #[iV n,nS] 28]) (fun n hm=>?_) fun n hm a w=>?_
 ·refine ssr<|fa y8 z<|ld 0 r6 z<|mv z<|yv (w1 z z) z<|snn<|cP hm z (fun e0 hm=>?_) fun e1 hm=>?_
  ·cases hm
   exact q0<|mv z<|fa y8 z<|sO r6 z z z z (cs':=#[iV a2,nS]) z<|u1<|eN [2,1,0] z
  cases hm
  exact k4 fun a w ha hs=>⟨cv ha,(am [2,1,0] hs z)⟩
 rintro⟨ha,hs⟩
 refine us ha hs<|oC hm (fun x h s=>∃H I K J,m3 F J∧Cat KDNode J K x∧Bnd 56 x∧h [(6,pP d 0),(7,pP f 0)]∧s J [bK d #[iV 0,nS] 28,bK f #[iV n,sl H x I] 28,rowo H x.length I 71 4 K]) (fun x hm=>?_) fun x hm a w=>?_
 ·refine ssr<|fa v4 z<|ld 0 m8 z<|yv (u0 be z) z<|mv z<|snn<|t1<|lM hm (fun c h s=>∃i k p l,m3 F l∧Cat KDNode l p c.1∧Bnd 56 c.1∧h [(1,iV a1),(2,iV a2),(6,pP d 0),(7,pP f 0),(23,sl q a0.Nodes t),(24,lV a0.Nodes),(25,nV c.2)]∧s l [bK d #[iV 0,nS] 28,bK f #[iV n,sl i c.1 k] 28,rowo i c.1.length k 71 4 p]) ?_ ?_
  ·exact n6 71 4 fun a w ha hs=>⟨none,0,[],F,(l0 _),(show Cat KDNode _ [] [] from z),r8,cv ha,(am [2,2,0] hs z)⟩
  rintro c e2 e3 hm S a w ⟨i,k,p,l,L,U,b5,ha,hs⟩
  refine us ha hs<|ssr<|yv (r2 z z) z<|snn<|x1<|cP hm z (fun b6 hm=>?_) fun e4 hm=>?_
  ·refine skn<|x1<|t1<|ssr<|oS hm fun b b7 hm=>?_
   obtain⟨e5,e6,b8,b9,cs⟩:=(x0 L N).nidx b7
   obtain⟨V,W,rfl,X⟩:=DNode.opn b9
   refine yv (t2 b8 bz z z) z<|yv (v1 z (k3 cs ak)) z<|aa cR z fun e7=>sN ak z z<|snn<|ssr<|fa v5 z<|ld 0 r6 z<|fa u6 z<|ld 0 r9 z<|fa w8 z<|ld 0 r6 z<|yv (v2 (v:=(.agg #[iV b.Op,sV b.Name,iV b.N,nS])) (A2 z) (fun _=>by kernel_rfl)) z<|aa cR z fun y=>sN ak z z<|snn<|oC hm (fun o h s=>∃C D M,Cat (Kind.int .i64) l M o∧Bnd 8 o∧h [(1,iV a1),(2,iV a2),(6,pP d 0),(7,pP f 0),(10,pP y 0),(23,sl q a0.Nodes t),(24,lV a0.Nodes),(25,nV c.2)]∧s l [bK d #[iV 0,nS] 28,bK f #[iV n,sl i c.1 k] 28,bK y #[iV b.Op,sV b.Name,iV b.N,sl C o D] 71,rowo i c.1.length k 71 4 p,rowo C o.length D 3 1 M]) (fun o hm=>?_) fun o hm a w=>?_
   ·refine ssr<|fa r5 z<|ld 1 n9 z<|yv (u0 aE z) z<|mv z<|snn<|t1<|lM hm (fun m h s=>∃A B E,Cat (Kind.int .i64) l E m.1∧Bnd 8 m.1∧h [(1,iV a1),(2,iV a2),(6,pP d 0),(7,pP f 0),(10,pP y 0),(23,sl q a0.Nodes t),(24,lV a0.Nodes),(25,nV c.2),(37,sl V b.Kids W),(38,lV b.Kids),(39,nV m.2)]∧s l [bK d #[iV 0,nS] 28,bK f #[iV n,sl i c.1 k] 28,bK y #[iV b.Op,sV b.Name,iV b.N,sl A m.1 B] 71,rowo i c.1.length k 71 4 p,rowo A m.1.length B 3 1 E]) ?_ ?_
    ·exact n6 3 1 fun a w ha hs=>⟨none,0,[],(show Cat (Kind.int .i64) _ [] [] from z),r8,cv ha,(am [3,3,1,2,0] hs z)⟩
    rintro m e8 e9 hm Y a w ⟨A,B,E,Z,cu,ha,hs⟩
    refine us ha hs<|ssr<|yv (r2 z z) z<|snn<|x1<|cP hm z (fun c0 hm=>?_) fun fo hm=>?_
    ·refine skn<|x1<|t1<|ssr<|oS hm fun f0 c1 hm=>?_
     obtain⟨gP,gQ,c2,c3,c4⟩:=X.nidx c1
     obtain rfl:=c3
     refine yv (t2 c2 y9 z z) z<|yv (v1 z (k5 c4 r6 z)) z<|sg z<|snn<|oC hm (fun G h s=>h [(1,iV a1),(2,iV a2),(6,pP d 0),(7,pP f 0),(10,pP y 0),(12,iV G),(23,sl q a0.Nodes t),(24,lV a0.Nodes),(25,nV c.2),(37,sl V b.Kids W),(38,lV b.Kids),(39,nV m.2)]∧s l [bK d #[iV 0,nS] 28,bK f #[iV n,sl i c.1 k] 28,bK y #[iV b.Op,sV b.Name,iV b.N,sl A m.1 B] 71,rowo i c.1.length k 71 4 p,rowo A m.1.length B 3 1 E]) (fun G hm=>?_) fun G hm a w=>?_
     ·refine ssr<|mv z<|mv z<|yv (w1 z z) z<|snn<|cP hm z (fun gR hm=>?_) fun gS hm=>?_
      ·cases hm
       exact q0<|mv z<|sg z<|u1<|eN [0,0,0,0,0] z
      cases hm
      exact k4 fun a w ha hs=>⟨cv ha,(am [0,0,0,0,0] hs z)⟩
     rintro⟨ha,hs⟩
     refine us ha hs<|q0<|fa r5 z<|ld 2 n9 z<|mv z<|v3 (e:=3) (cells:=#[iV G]) (A2 z) (fun _=>by kernel_rfl) z p1 fun gT=>oS hm fun a3 a4 hm=>?_
     cases hm
     exact pk5<|pL a4 y9 z z z z z Z ⟨[iV G],_,z,z,z⟩ z fun a5 a6 c5 c6=>fa r5 z<|pk3<|sO n9 z z z z (cs':=#[iV b.Op,sV b.Name,iV b.N,sl a5 a3 a6]) z<|u1<|f2<|s4<|q0<|yv (s3 (j:=1) z z z (by have q_0:=c0;have q_1:=X.bnd.2;omega)) z<|mv z<|snn fun a w ha hs=>⟨(a3,m.2+1),aL Y,a5,a6,c5,c6,(f4 a4),cv ha,(am [2,2,0,1,0] hs z)⟩
    cases hm
    obtain rfl:=aR Y
    exact u4<|p0<|p0<|u3 fun a w ha hs=>⟨A,B,E,Z,cu,cv ha,(am [0,0,0,0,0] hs z)⟩
   rintro⟨C,D,M,c7,c8,ha,hs⟩
   refine us ha hs<|q0<|fa v4 z<|ld 1 m8 z<|lk 2 ak z z<|pk4<|fz z c7 c8 fun c9 a7 d1=>v3 (e:=71) (cells:=#[iV b.Op,sV b.Name,iV b.N,sl C o D]) (A2 z) (fun _=>by kernel_rfl) z p1 fun gU=>oS hm fun a8 a9 hm=>?_
   cases hm
   exact pk4<|pL a9 bz z z z z z (g4 a7 U) ⟨[iV b.Op,sV b.Name,iV b.N,sl C o D],_,z,(DNode.shut d1),z⟩ z fun b0 b1 d2 d3=>fa v4 z<|pk2<|sO m8 z z z z (cs':=#[iV n,sl b0 a8 b1]) z<|u1<|f2<|s4<|q0<|yv (s3 (j:=1) z z z (by have q_0:=b6;have q_1:=N.bnd.2;omega)) z<|mv z<|snn fun a w ha hs=>⟨(a8,c.2+1),aL S,b0,b1,d2,c9,(s0 L a7),d3,(f4 a9),cv ha,(am [2,0,0] hs z)⟩
  cases hm
  obtain rfl:=aR S
  exact u4<|p0<|p0<|u3 fun a w ha hs=>⟨i,k,p,l,L,U,b5,cv ha,(am [0,0,0] hs z)⟩
 rintro⟨H,I,K,J,gV,d4,d5,ha,hs⟩
 cases hm
 exact us ha hs<|ssr<|lk 1 s5 z z<|sN s5 z z<|snn<|u2<|pk2<|fz z d4 d5 fun gW gX d6=>k0 z (m4 z (w5 0 s5 z)) ⟨H,I,z,d6,z⟩ (aF [] z)
theorem aZ {a0:DGraph}(c:Fsl 56 KDNode F d e a0.Nodes) (hm:m_graph_Fresh g a0=some r):
    CallSp Tryz.prog 29 #[.agg #[iV a0.Root,sl d a0.Nodes e]] F [] (fun u F' H'=>∃a b,u=(.agg #[iV r.Root,sl a r.Nodes b])∧Fsl 56 KDNode F' a b r.Nodes∧H'=[]):=by
 unfold m_graph_Fresh at hm
 refine f1 Tryz.func29 z z fun k l m=>ssr<|ba z fun n=>aa ab z fun o=>snn<|ssr<|lk 1 s5 z z<|oS hm fun p f hm=>cl (bE (a0:=a0) c f) z z<|?_
 rintro _ q _ ⟨h,i,rfl,j,rfl⟩ s
 cases hm
 exact sN s5 z z<|snn<|u2<|k0 z (m4 z (w5 0 s5 z)) ⟨h,i,z,j,z⟩ (aF [] z)
theorem ey {a0:DGraph}(N:Fsl 56 KDNode F q t a0.Nodes) (hm:m_graph_Put_2 g a0 a1 a2=some r):
    CallSp Tryz.prog 31 #[.agg #[iV a0.Root,sl q a0.Nodes t],iV a1,iV a2] F [] (fun u F' H'=>∃P Q R,u=(.agg #[iV r.1,sl P r.2 Q])∧Cat KDNode F' R r.2∧Bnd 56 r.2∧H'=[rowo P r.2.length Q 71 4 R]):=by
 unfold m_graph_Put_2 at hm
 refine f1 Tryz.func31 z z fun d8 d9 e0=>ssr<|ba z fun S=>aa ab z fun d=>snn<|ssr<|fa y8 z<|ld 1 r6 z<|yv (v2 (v:=(.agg #[iV a0.Root,nS])) (A2 z) (fun _=>by kernel_rfl)) z<|aa ab z fun f=>sN s5 z z<|snn<|oC hm (fun n h s=>h [(1,iV a1),(2,iV a2),(3,pP S 0),(6,pP d 0),(7,pP f 0)]∧s F [bK S #[iV a0.Root,sl q a0.Nodes t] 28,bK d #[iV 0,nS] 28,bK f #[iV n,nS] 28]) (fun n hm=>?_) fun n hm a w=>?_
 ·refine ssr<|fa y8 z<|ld 0 r6 z<|mv z<|yv (w1 z z) z<|snn<|cP hm z (fun e1 hm=>?_) fun e2 hm=>?_
  ·cases hm
   exact q0<|mv z<|fa y8 z<|sO r6 z z z z (cs':=#[iV a2,nS]) z<|u1<|eN [2,1,0] z
  cases hm
  exact k4 fun a w ha hs=>⟨cv ha,(am [2,1,0] hs z)⟩
 rintro⟨ha,hs⟩
 refine us ha hs<|oC hm (fun x h s=>∃H I J K,m3 F K∧Cat KDNode K J x∧Bnd 56 x∧h [(6,pP d 0),(7,pP f 0)]∧s K [bK d #[iV 0,nS] 28,bK f #[iV n,sl H x I] 28,rowo H x.length I 71 4 J]) (fun x hm=>?_) fun x hm a w=>?_
 ·refine ssr<|fa v4 z<|ld 0 m8 z<|yv (u0 be z) z<|mv z<|snn<|t1<|lM hm (fun c h s=>∃i k p l,m3 F l∧Cat KDNode l p c.1∧Bnd 56 c.1∧h [(1,iV a1),(2,iV a2),(6,pP d 0),(7,pP f 0),(23,sl q a0.Nodes t),(24,lV a0.Nodes),(25,nV c.2)]∧s l [bK d #[iV 0,nS] 28,bK f #[iV n,sl i c.1 k] 28,rowo i c.1.length k 71 4 p]) ?_ ?_
  ·exact n6 71 4 fun a w ha hs=>⟨none,0,[],F,(l0 _),(show Cat KDNode _ [] [] from z),r8,cv ha,(am [2,2,0] hs z)⟩
  rintro c e3 e4 hm U a w ⟨i,k,p,l,L,V,b6,ha,hs⟩
  refine us ha hs<|ssr<|yv (r2 z z) z<|snn<|x1<|cP hm z (fun b7 hm=>?_) fun e5 hm=>?_
  ·refine skn<|x1<|t1<|ssr<|oS hm fun b b8 hm=>?_
   obtain⟨e6,e7,b9,cs,cu⟩:=(x0 L N).nidx b8
   obtain⟨W,X,rfl,Y⟩:=DNode.opn cs
   refine yv (t2 b9 bz z z) z<|yv (v1 z (k3 cu ak)) z<|aa cR z fun e8=>sN ak z z<|snn<|ssr<|fa v5 z<|ld 0 r6 z<|fa u6 z<|ld 0 r9 z<|fa w8 z<|ld 0 r6 z<|yv (v2 (v:=(.agg #[iV b.Op,sV b.Name,iV b.N,nS])) (A2 z) (fun _=>by kernel_rfl)) z<|aa cR z fun y=>sN ak z z<|snn<|oC hm (fun o h s=>∃C D M,Cat (Kind.int .i64) l M o∧Bnd 8 o∧h [(1,iV a1),(2,iV a2),(6,pP d 0),(7,pP f 0),(10,pP y 0),(23,sl q a0.Nodes t),(24,lV a0.Nodes),(25,nV c.2)]∧s l [bK d #[iV 0,nS] 28,bK f #[iV n,sl i c.1 k] 28,bK y #[iV b.Op,sV b.Name,iV b.N,sl C o D] 71,rowo i c.1.length k 71 4 p,rowo C o.length D 3 1 M]) (fun o hm=>?_) fun o hm a w=>?_
   ·refine ssr<|fa r5 z<|ld 1 n9 z<|yv (u0 aE z) z<|mv z<|snn<|t1<|lM hm (fun m h s=>∃A B E,Cat (Kind.int .i64) l E m.1∧Bnd 8 m.1∧h [(1,iV a1),(2,iV a2),(6,pP d 0),(7,pP f 0),(10,pP y 0),(23,sl q a0.Nodes t),(24,lV a0.Nodes),(25,nV c.2),(37,sl W b.Kids X),(38,lV b.Kids),(39,nV m.2)]∧s l [bK d #[iV 0,nS] 28,bK f #[iV n,sl i c.1 k] 28,bK y #[iV b.Op,sV b.Name,iV b.N,sl A m.1 B] 71,rowo i c.1.length k 71 4 p,rowo A m.1.length B 3 1 E]) ?_ ?_
    ·exact n6 3 1 fun a w ha hs=>⟨none,0,[],(show Cat (Kind.int .i64) _ [] [] from z),r8,cv ha,(am [3,3,1,2,0] hs z)⟩
    rintro m e9 fo hm Z a w ⟨A,B,E,a3,c0,ha,hs⟩
    refine us ha hs<|ssr<|yv (r2 z z) z<|snn<|x1<|cP hm z (fun c1 hm=>?_) fun f0 hm=>?_
    ·refine skn<|x1<|t1<|ssr<|oS hm fun gP c2 hm=>?_
     obtain⟨gQ,gR,c3,c4,c5⟩:=Y.nidx c2
     obtain rfl:=c4
     refine yv (t2 c3 y9 z z) z<|yv (v1 z (k5 c5 r6 z)) z<|sg z<|snn<|oC hm (fun G h s=>h [(1,iV a1),(2,iV a2),(6,pP d 0),(7,pP f 0),(10,pP y 0),(12,iV G),(23,sl q a0.Nodes t),(24,lV a0.Nodes),(25,nV c.2),(37,sl W b.Kids X),(38,lV b.Kids),(39,nV m.2)]∧s l [bK d #[iV 0,nS] 28,bK f #[iV n,sl i c.1 k] 28,bK y #[iV b.Op,sV b.Name,iV b.N,sl A m.1 B] 71,rowo i c.1.length k 71 4 p,rowo A m.1.length B 3 1 E]) (fun G hm=>?_) fun G hm a w=>?_
     ·refine ssr<|mv z<|mv z<|yv (w1 z z) z<|snn<|cP hm z (fun gS hm=>?_) fun gT hm=>?_
      ·cases hm
       exact q0<|mv z<|sg z<|u1<|eN [0,0,0,0,0] z
      cases hm
      exact k4 fun a w ha hs=>⟨cv ha,(am [0,0,0,0,0] hs z)⟩
     rintro⟨ha,hs⟩
     refine us ha hs<|q0<|fa r5 z<|ld 2 n9 z<|mv z<|v3 (e:=3) (cells:=#[iV G]) (A2 z) (fun _=>by kernel_rfl) z p1 fun gU=>oS hm fun a4 a5 hm=>?_
     cases hm
     exact pk5<|pL a5 y9 z z z z z a3 ⟨[iV G],_,z,z,z⟩ z fun a6 a7 c6 c7=>fa r5 z<|pk3<|sO n9 z z z z (cs':=#[iV b.Op,sV b.Name,iV b.N,sl a6 a4 a7]) z<|u1<|f2<|s4<|q0<|yv (s3 (j:=1) z z z (by have q_0:=c1;have q_1:=Y.bnd.2;omega)) z<|mv z<|snn fun a w ha hs=>⟨(a4,m.2+1),aL Z,a6,a7,c6,c7,(f4 a5),cv ha,(am [2,2,0,1,0] hs z)⟩
    cases hm
    obtain rfl:=aR Z
    exact u4<|p0<|p0<|u3 fun a w ha hs=>⟨A,B,E,a3,c0,cv ha,(am [0,0,0,0,0] hs z)⟩
   rintro⟨C,D,M,c8,c9,ha,hs⟩
   refine us ha hs<|q0<|fa v4 z<|ld 1 m8 z<|lk 2 ak z z<|pk4<|fz z c8 c9 fun d2 a8 d3=>v3 (e:=71) (cells:=#[iV b.Op,sV b.Name,iV b.N,sl C o D]) (A2 z) (fun _=>by kernel_rfl) z p1 fun gV=>oS hm fun a9 b0 hm=>?_
   cases hm
   exact pk4<|pL b0 bz z z z z z (g4 a8 V) ⟨[iV b.Op,sV b.Name,iV b.N,sl C o D],_,z,(DNode.shut d3),z⟩ z fun b1 b5 d4 d5=>fa v4 z<|pk2<|sO m8 z z z z (cs':=#[iV n,sl b1 a9 b5]) z<|u1<|f2<|s4<|q0<|yv (s3 (j:=1) z z z (by have q_0:=b7;have q_1:=N.bnd.2;omega)) z<|mv z<|snn fun a w ha hs=>⟨(a9,c.2+1),aL U,b1,b5,d4,d2,(s0 L a8),d5,(f4 b0),cv ha,(am [2,0,0] hs z)⟩
  cases hm
  obtain rfl:=aR U
  exact u4<|p0<|p0<|u3 fun a w ha hs=>⟨i,k,p,l,L,V,b6,cv ha,(am [0,0,0] hs z)⟩
 rintro⟨H,I,J,K,gW,d6,d7,ha,hs⟩
 cases hm
 exact us ha hs<|ssr<|lk 1 s5 z z<|sN s5 z z<|snn<|u2<|k0 z (m4 z (w5 0 s5 z)) ⟨H,I,J,z,d6,d7,z⟩ (aF [2] z)
theorem ct {a0:DGraph}(d:Fsl 56 KDNode F e f a0.Nodes) (hm:m_graph_Fresh_2 g a0=some r):
    CallSp Tryz.prog 29 #[.agg #[iV a0.Root,sl e a0.Nodes f]] F [] (fun u F' H'=>∃a b c,u=(.agg #[iV r.1,sl a r.2 b])∧Cat KDNode F' c r.2∧Bnd 56 r.2∧H'=[rowo a r.2.length b 71 4 c]):=by
 unfold m_graph_Fresh_2 at hm
 refine f1 Tryz.func29 z z fun n o p=>ssr<|ba z fun q=>aa ab z fun s=>snn<|ssr<|lk 1 s5 z z<|oS hm fun t h hm=>cl (ey (a0:=a0) d h) z z<|?_
 rintro _ v _ ⟨i,j,k,rfl,l,m,rfl⟩ w
 cases hm
 exact pk1<|sN s5 z z<|snn<|u2<|k0 z (m4 z (w5 0 s5 z)) ⟨i,j,k,z,l,m,z⟩ (aF [1] z)
theorem dm {a0:DGraph}(I:Fsl 56 KDNode F J K a0.Nodes) (b9:Fsl 16 Kind.str F j k a5) (cs:Fsl 104 KDExpr F l m a6) (cu:Fsl 160 KDAlt F n o a7) (c0:Fsl 160 KDAlt F L M a10) (hm:m_graph_Done g a0 a1 a2 a3 a4 a5 a6 a7 a8 a9 a10 a11=some r):
    CallSp Tryz.prog 30 #[.agg #[iV a0.Root,sl J a0.Nodes K],iV a1,.agg #[iV a2,sV a3,iV a4,sl j a5 k,sl l a6 m,sl n a7 o,.map none,iV a8,.bool a9,sl L a10 M,.bool a11]] F [] (fun u F' H'=>∃p q,u=(.agg #[iV r.Root,sl p r.Nodes q])∧Fsl 56 KDNode F' p q r.Nodes∧H'=[]):=by
 unfold m_graph_Done at hm
 refine f1 Tryz.func30 z z fun c1 c2 c3=>ssr<|ba z fun c4=>ba z fun c5=>aa ab z fun t=>snn<|ssr<|lk 2 s5 z z<|oS hm fun c N hm=>cl (ct (a0:=a0) I N) z z<|?_
 rintro _ x _ ⟨c6,c7,c8,rfl,P,c9,rfl⟩ d1
 refine aa ab z fun y=>sN s5 z z<|snn<|ssr<|fa v4 z<|ld 0 m8 z<|yv (u0 be z) z<|sg z<|snn<|x1<|ssr<|fa eG z<|ld 3 dr z<|snn<|cB hm z (fun d2 hm=>?_) fun d3 hm=>?_
 ·refine q0<|fa v4 z<|ld 0 m8 z<|yv (v2 (v:=(.agg #[iV 7,sV [],iV 0,nS])) (A2 z) (fun _=>by kernel_rfl)) z<|v3 (e:=71) (cells:=#[iV 7,sV [],iV 0,nS]) (A2 z) (fun _=>by kernel_rfl) z p1 fun d4=>oS hm fun Q A hm=>pk2<|pL A bz z z z z z P ⟨[iV 7,sV [],iV 0,nS],_,z,(DNode.shut r3),z⟩ z fun B C R D=>fa v4 z<|pk1<|sO m8 z z z z (cs':=#[iV c.1,sl B Q C]) z<|snn<|oC hm (fun b h s=>∃d f i,Cat KDNode x i b.1∧Bnd 56 b.1∧h [(1,iV a1),(6,pP t 0),(7,pP y 0),(8,nV b.2)]∧s x [bK t #[iV 0,nS] 28,bK y #[iV c.1,sl d b.1 f] 28,rowo d b.1.length f 71 4 i]) (fun b hm=>?_) fun b hm a w=>?_
  ·refine ssr<|mv z<|mv z<|yv (w1 z z) z<|snn<|cP hm z (fun d5 hm=>?_) fun d6 hm=>?_
   ·refine ssr<|fa v4 z<|ld 0 m8 z<|yv (u0 be z) z<|sg z<|snn<|q0<|fa v4 z<|ld 0 m8 z<|yv (v2 (v:=(.agg #[iV 7,sV [],iV 0,nS])) (A2 z) (fun _=>by kernel_rfl)) z<|v3 (e:=71) (cells:=#[iV 7,sV [],iV 0,nS]) (A2 z) (fun _=>by kernel_rfl) z p1 fun d7=>oS hm fun S E hm=>?_
    cases hm
    exact pk2<|pL E bz z z z z z D ⟨[iV 7,sV [],iV 0,nS],_,z,(DNode.shut r3),z⟩ z fun G H U V=>fa v4 z<|pk1<|sO m8 z z z z (cs':=#[iV c.1,sl G S H]) z<|u1 fun a w ha hs=>⟨G,H,U,V,(f4 E),cv ha,(am [2,0,0] hs z)⟩
   cases hm
   exact k4 fun a w ha hs=>⟨B,C,R,D,(f4 A),cv ha,(am [2,0,0] hs z)⟩
  rintro⟨d,f,i,W,X,ha,hs⟩
  refine us ha hs<|ssr<|lk 1 s5 z z<|mv z<|mv z<|pk2<|fz z W X fun d8 d9 Y=>oS hm fun Z b0 hm=>cl (bE (a0:=(DGraph.mk c.1 b.1)) Y b0) z z<|?_
  rintro _ e0 _ ⟨e1,e2,rfl,b1,rfl⟩ e3
  refine oS hm fun e4 b2 hm=>cl (ac (a0:=Z) b1 r3 b2) z z<|?_
  rintro _ e5 _ ⟨b3,b4,e6,e7,rfl,b5,e8,rfl⟩ e9
  cases hm
  exact mv z<|yv (r0 z z) z<|yv (r0 z z) z<|aa ab z fun fo=>sN s5 z z<|sg z<|snn<|ssr<|lk 0 s5 z z<|pk1<|sN s5 z z<|snn<|u2<|k0 z (m4 z (w5 0 s5 z)) ⟨b3,b4,z,b5,z⟩ (aF [] z)
 exact q0<|fa fl z<|yv (v1 z (n7 (vs:=[iV a2,sV a3,iV a4,sl j a5 k,sl l a6 m,sl n a7 o]) 3 z m7 z z)) z<|fa fk z<|ld 3 cj z<|nomatch (show(none:Option _)=some _ from hm)
theorem cH {a0:DGraph}(S:Fsl 56 KDNode F U V a0.Nodes) (W:Fsl 16 Kind.str F y A a5) (X:Fsl 104 KDExpr F B C a6) (Y:Fsl 160 KDAlt F D E a7) (e1:Fsl 160 KDAlt F Z b0 a10) (b1:Mrel (Kind.int .i64) false F i a12) (hm:m_graph_Done_2 g a0 a1 a2 a3 a4 a5 a6 a7 a8 a9 a10 a11 a12=some r):
    CallSp Tryz.prog 30 #[.agg #[iV a0.Root,sl U a0.Nodes V],iV a1,.agg #[iV a2,sV a3,iV a4,sl y a5 A,sl B a6 C,sl D a7 E,.map (some j),iV a8,.bool a9,sl Z a10 b0,.bool a11]] F [mapv t0 j i] (fun u F' H'=>∃G H,u=(.agg #[iV r.Root,sl G r.Nodes H])∧Fsl 56 KDNode F' G H r.Nodes∧H'=[mapv t0 j i]):=by
 unfold m_graph_Done_2 at hm
 refine f1 Tryz.func30 z z fun e2 e3 e4=>ssr<|ba z fun e5=>ba z fun e6=>aa ab z fun k=>snn<|ssr<|lk 2 s5 z z<|oS hm fun f b2 hm=>cl (ct (a0:=a0) S b2) z z<|?_
 rintro _ I _ ⟨e7,e8,e9,rfl,J,b3,rfl⟩ l
 refine aa ab z fun m=>sN s5 z z<|snn<|ssr<|fa v4 z<|ld 0 m8 z<|yv (u0 be z) z<|sg z<|snn<|oC hm (fun c h s=>∃n o p d,m3 I d∧Cat KDNode d p c.1∧Bnd 56 c.1∧h [(1,iV a1),(6,pP k 0),(7,pP m 0),(8,iV c.2)]∧s d [mapv t0 j i,bK k #[iV 0,nS] 28,bK m #[iV f.1,sl n c.1 o] 28,rowo n c.1.length o 71 4 p]) (fun c hm=>?_) fun c hm a w=>?_
 ·refine ssr<|fa eG z<|ld 3 dr z<|snn<|cB hm z (fun fo hm=>?_) fun f0 hm=>?_
  ·refine q0<|fa v4 z<|ld 0 m8 z<|yv (v2 (v:=(.agg #[iV 7,sV [],iV 0,nS])) (A2 z) (fun _=>by kernel_rfl)) z<|v3 (e:=71) (cells:=#[iV 7,sV [],iV 0,nS]) (A2 z) (fun _=>by kernel_rfl) z p1 fun gP=>oS hm fun b4 K hm=>?_
   cases hm
   exact pk2<|pL K bz z z z z z J ⟨[iV 7,sV [],iV 0,nS],_,z,(DNode.shut r3),z⟩ z fun L M b5 b6=>fa v4 z<|pk1<|sO m8 z z z z (cs':=#[iV f.1,sl L b4 M]) z<|u1 fun a w ha hs=>⟨L,M,b5,I,(l0 _),b6,(f4 K),cv ha,(am [5,2,0,0] hs z)⟩
  refine q0<|fa fl z<|yv (v1 z (n7 (vs:=[iV a2,sV a3,iV a4,sl y a5 A,sl B a6 C,sl D a7 E]) 3 z m7 z z)) z<|fa fk z<|ld 3 cj z<|pk1<|pk5<|pk2<|oS hm fun gQ cs hm=>cl (cd (a0:=(DExpr.mk a2 a3 a4 a5 a6 a7)) (x0 l W) (x0 l X) (x0 l Y) J b3 (p2 l b1) cs) z z<|?_
  rintro _ cu _ ⟨c0,c1,c2,rfl,c3,c4,rfl⟩ c5
  cases hm
  exact sg z<|u1 fun a w ha hs=>⟨c0,c1,c2,cu,c5,c3,c4,cv ha,(am [1,2,0,0] hs z)⟩
 rintro⟨n,o,p,d,gR,N,c6,ha,hs⟩
 refine us ha hs<|oC hm (fun b h s=>∃q t x,Cat KDNode d x b.1∧Bnd 56 b.1∧h [(1,iV a1),(6,pP k 0),(7,pP m 0),(8,iV b.2)]∧s d [mapv t0 j i,bK k #[iV 0,nS] 28,bK m #[iV f.1,sl q b.1 t] 28,rowo q b.1.length t 71 4 x]) (fun b hm=>?_) fun b hm a w=>?_
 ·refine ssr<|mv z<|mv z<|yv (w1 z z) z<|snn<|cP hm z (fun gS hm=>?_) fun gT hm=>?_
  ·refine ssr<|fa v4 z<|ld 2 m8 z<|yv (u0 be z) z<|sg z<|snn<|q0<|fa v4 z<|ld 2 m8 z<|yv (v2 (v:=(.agg #[iV 7,sV [],iV 0,nS])) (A2 z) (fun _=>by kernel_rfl)) z<|v3 (e:=71) (cells:=#[iV 7,sV [],iV 0,nS]) (A2 z) (fun _=>by kernel_rfl) z p1 fun gU=>oS hm fun c7 P hm=>?_
   cases hm
   exact pk4<|pL P bz z z z z z N ⟨[iV 7,sV [],iV 0,nS],_,z,(DNode.shut r3),z⟩ z fun Q R c8 c9=>fa v4 z<|pk3<|sO m8 z z z z (cs':=#[iV f.1,sl Q c7 R]) z<|u1 fun a w ha hs=>⟨Q,R,c8,c9,(f4 P),cv ha,(am [2,2,0,0] hs z)⟩
  cases hm
  exact k4 fun a w ha hs=>⟨n,o,p,N,c6,cv ha,(am [0,0,0,0] hs z)⟩
 rintro⟨q,t,x,d1,d2,ha,hs⟩
 refine us ha hs<|ssr<|lk 2 s5 z z<|mv z<|mv z<|pk3<|fz z d1 d2 fun gV gW d3=>oS hm fun d4 d5 hm=>cl (bE (a0:=(DGraph.mk f.1 b.1)) d3 d5) z z<|?_
 rintro _ gX _ ⟨gY,gZ,rfl,d6,rfl⟩ g0
 refine oS hm fun g1 d7 hm=>cl (ac (a0:=d4) d6 r3 d7) z z<|?_
 rintro _ g2 _ ⟨d8,d9,g3,g7,rfl,e0,hb,rfl⟩ hc
 cases hm
 exact mv z<|yv (r0 z z) z<|yv (r0 z z) z<|aa ab z fun hd=>sN s5 z z<|sg z<|snn<|ssr<|lk 0 s5 z z<|pk2<|sN s5 z z<|snn<|u2<|k0 z (m4 z (w5 0 s5 z)) ⟨d8,d9,z,e0,z⟩ (aF [2] z)
theorem bC {a0:DCore}{a1:DGraph}(d1:Fsl 64 KDData F C D a0.Datas) (a7:Fsl 144 KDFun F E G a0.Funs) (f:Fsl 56 KDNode F H I a1.Nodes) (hm:m_graph_Unfold g a0 a1 a2=some r):
    CallSp Tryz.prog 15 #[.agg #[sl C a0.Datas D,sl E a0.Funs G],.agg #[iV a1.Root,sl H a1.Nodes I],iV a2] F [] (fun u F' H'=>∃d2 d3,u=(.tuple #[.agg #[iV r.1.Root,sl d2 r.1.Nodes d3],iV r.2.1,iV r.2.2])∧Fsl 56 KDNode F' d2 d3 r.1.Nodes∧H'=[]):=by
 unfold m_graph_Unfold at hm
 refine f1 Tryz.func15 z z fun iZ i0 i1=>ssr<|ba z fun y=>ba z fun A=>aa ab z fun a8=>sg z<|sg z<|snn<|x1<|ssr<|lk 2 aX z z<|lk 1 s5 z z<|oS hm fun d4 e7 hm=>cl (r7 (a0:=a0) (a1:=a1) d1 a7 f e7) z z<|?_
 rintro _ i2 _ ⟨rfl,rfl⟩ b
 refine sg z<|snn<|ssr<|mv z<|yv (p4 z z) z<|snn<|?_
 refine m5 z ?_ ?_
 ·intro c3
  replace c3:¬(d4=0):=nd_t c3
  replace hm:=iF hm c3
  cases hm
  exact ssr<|yv (v2 (v:=(.agg #[iV 0,nS])) (vs:=#[]) (fun a _=>by simp) (fun _=>by kernel_rfl)) z<|mv z<|sN s5 z z<|sg z<|sg z<|snn<|u2<|v0<|k6 z (m4 z (w5 0 s5 z)) z z ⟨none,0,z,r3,z⟩ (aF [] z)
 intro c4
 replace c4:d4=0:=nd_f c4
 replace hm:=iT hm c4
 refine skn<|ssr<|lk 2 aX z z<|oS hm fun e e9 hm=>cl (f9 (a0:=a0) (x0 b d1) (x0 b a7) e9) z z<|?_
 rintro _ d5 _ ⟨B,l,m,n,o,J,L,M,N,P,Q,R,S,U,V,rfl,a9,b0,b1,W,b2,b3,b7,rfl⟩ c
 refine sg z<|snn<|x1<|oC hm (fun c5 h s=>h [(2,iV a2),(3,pP y 0),(4,pP A 0),(6,pP a8 0),(10,pP B 0),(33,.bool c5)]∧s d5 [bK y #[sl C a0.Datas D,sl E a0.Funs G] 25,bK A #[iV a1.Root,sl H a1.Nodes I] 28,bK a8 #[iV 0,nS] 28,mapv t0 l R,mapv t0 m S,mapv t0 n U,mapv t0 o V,bK B #[.map (some l),.map (some m),.map (some n),sl J e.1 L,sl M e.2.1 N,sl P e.2.2.1 Q,.map (some o)] 81]) (fun c5 hm=>?_) fun c5 hm a w=>?_
 ·refine q0<|mv z<|?_
  rcases iS hm with⟨c6,hm⟩|⟨c6,hm⟩
  ·cases hm
   exact yv (t3 c6 (r2 z z)) z<|mv z<|un z z<|un z z<|un z z<|un z z<|un z z<|pt z<|u1<|eN [7,6,5,1,1,1,1,0] z
  cases hm
  exact yv (s2 c6 (r2 z z)) z<|mv z<|mw z z<|fw v4 z z<|lw 6 m8 z z<|yw (u0 be z) z z<|yw (u5 z z) z z<|pf z<|u1<|eN [7,6,5,1,1,1,1,0] z
 rintro⟨ha,hs⟩
 refine us ha hs<|cB hm z (fun i3 hm=>?_) fun i4 hm=>?_
 ·cases hm
  exact ssr<|yv (v2 (v:=(.agg #[iV 0,nS])) (vs:=#[]) (fun a _=>by simp) (fun _=>by kernel_rfl)) z<|pk2<|sN s5 z z<|sg z<|sg z<|snn<|u2<|v0<|k6 z (m4 z (w5 0 s5 z)) z z ⟨none,0,z,r3,z⟩ (aF [] z)
 refine skn<|ssr<|fa v4 z<|ld 1 m8 z<|mv z<|oS hm fun d fo hm=>?_
 obtain⟨i5,i6,f0,gP,gQ⟩:=(x0 (s0 b c) f).idx fo
 obtain⟨a3,a4,rfl,b8⟩:=DNode.opn gP
 refine yv (t2 f0 bz z z) z<|yv (v1 z (k3 gQ ak)) z<|aa cR z fun X=>sN ak z z<|snn<|x1<|ds [] hmix<|tp 0 z (fun _=>x2 z) z z<|tp 1 z (fun _=>t4 z) z z<|tp 2 z (fun _=>w3 df z) z z<|tk [0,1,2,4,7,8,9,10,11] 3 z (p3 8 cj z) z z k1<|tp 4 z (fun _=>w3 u6 z) z z<|tk [0,1,2,4,7,8,9,10,11] 5 z (p3 0 r9 z) z z k1<|oS hm fun gR gS hm=>?_
 obtain⟨i7,gT,i8,d6,gU⟩:=p6 (k:=d.Name) W (show Mval (Kind.int .i64) false _ (iV 0) 0 from⟨[iV 0],z,z⟩)
 rw [Mir.getD_some gS] at d6
 obtain rfl:=d6
 obtain rfl:=(List.cons.inj (if_neg (show¬(false=true) by decide)▸gU)).1
 refine tk [0,1,2,4,7,8,9,10,11] 6 z (bw z z 4 z aj aq eL gT (Mrel.look (k:=d.Name) (K:=(Kind.int .i64)) (agg:=false) (z0:=(iV 0)) (zd:=0) ⟨[iV 0],z,z⟩ W).2) z z k1<|tp 7 z (fun _=>x2 z) z z<|tp 8 z (fun _=>r0 z z) z z<|tp 9 z (fun _=>r0 z z) z z<|tp 10 z (fun _=>w4 z) z z<|tp 11 z (fun _=>w4 z) z z<|dn<|s4<|x1<|oC hm (fun c7 h s=>h [(2,iV a2),(3,pP y 0),(4,pP A 0),(6,pP a8 0),(10,pP B 0),(11,pP X 0),(12,iV gR),(69,.bool c7)]∧s d5 [bK y #[sl C a0.Datas D,sl E a0.Funs G] 25,bK A #[iV a1.Root,sl H a1.Nodes I] 28,bK a8 #[iV 0,nS] 28,mapv t0 l R,mapv t0 m S,mapv t0 n U,mapv t0 o V,bK B #[.map (some l),.map (some m),.map (some n),sl J e.1 L,sl M e.2.1 N,sl P e.2.2.1 Q,.map (some o)] 81,bK X #[iV d.Op,sV d.Name,iV d.N,sl a3 d.Kids a4] 71]) (fun c7 hm=>?_) fun c7 hm a w=>?_
 ·refine ds [] hmix<|tp 0 z (fun _=>w3 v5 z) z z<|tk [0,2,3,4,5,6,7,8,10,11,13,14,15,17,18,19] 1 z (p3 0 r6 z) z z k1<|?_
  rcases iS hm with⟨c8,hm⟩|⟨c8,hm⟩
  ·refine tp 2 z (fun _=>g6 c8 (p4 z z)) z z<|tp 3 z (fun _=>x2 z) z z<|?_
   rcases iS hm with⟨c9,hm⟩|⟨c9,hm⟩
   ·have gV:((Mir.assoc e.2.2.2.1 d.Name).isSome)=true:=c9
    try rw [gV]
    refine tq 4 z (fun _=>x2 z) z z z<|tq 5 z (fun _=>v7 z) z z z<|tp 6 z (fun _=>n3 z z) z z<|tp 7 z (fun _=>x2 z) z z<|tq 8 z (fun _=>w3 r5 z) z z z<|tv [0,2,3,4,5,6,7,8,10,11,13,14,15,17,18,19] 9 z (p3 0 n9 z) z z z k1<|tq 10 z (fun _=>u0 aE z) z z z<|tq 11 z (fun _=>w3 aA z) z z z<|tv [0,2,3,4,5,6,7,8,10,11,13,14,15,17,18,19] 12 z (p3 1 fs z) z z z k1<|tq 13 z (fun _=>x2 z) z z z<|oS hm fun i9 gW hm=>?_
    obtain⟨gX,ja,gY,gZ,g0⟩:=(x0 (s0 b c) a7).idx gW
    obtain⟨jb,jc,jd,je,jf,jg,jh,ji,rfl,jj,jk,jl,jm⟩:=DFun.opn gZ
    cases hm
    exact tq 14 z (fun _=>t2 gY fF z z) z z z<|tq 15 z (fun _=>bg (v:=(.pointer (some (gX.add 1)))) z (fun _=>by kernel_rfl)) z z z<|tv [0,2,3,4,5,6,7,8,10,11,13,14,15,17,18,19] 16 z (v1 z (Loads.Fatk 1 g0 aJ z)) z z z k1<|tq 17 z (fun _=>u0 bj z) z z z<|tq 18 z (fun _=>p4 z z) z z z<|tp 19 z (fun _=>n3 z z) z z<|dn fun a w ha hs=>⟨cv ha,(am [1,1,1,1,1,1,1,1,0] hs z)⟩
   have g1:((Mir.assoc e.2.2.2.1 d.Name).isSome)=false:=w2 c9
   try rw [g1]
   cases hm
   exact tq 4 z (fun _=>x2 z) z z z<|tq 5 z (fun _=>an z) z z z<|tp 6 z (fun _=>n3 z z) z z<|tp 7 z (fun _=>x2 z) z z<|tn 8 z z z<|tn 9 z z z<|tn 10 z z z<|tn 11 z z z<|tn 12 z z z<|tn 13 z z z<|tn 14 z z z<|tn 15 z z z<|tn 16 z z z<|tn 17 z z z<|tn 18 z z z<|tp 19 z (fun _=>f3 z z) z z<|dn fun a w ha hs=>⟨cv ha,(am [1,1,1,1,1,1,1,1,0] hs z)⟩
  cases hm
  exact tp 2 z (fun _=>t6 c8 (p4 z z)) z z<|tp 3 z (fun _=>x2 z) z z<|tn 4 z z z<|tn 5 z z z<|tp 6 z (fun _=>f3 z z) z z<|tp 7 z (fun _=>x2 z) z z<|tn 8 z z z<|tn 9 z z z<|tn 10 z z z<|tn 11 z z z<|tn 12 z z z<|tn 13 z z z<|tn 14 z z z<|tn 15 z z z<|tn 16 z z z<|tn 17 z z z<|tn 18 z z z<|tp 19 z (fun _=>f3 z z) z z<|dn fun a w ha hs=>⟨cv ha,(am [1,1,1,1,1,1,1,1,0] hs z)⟩
 rintro⟨ha,hs⟩
 refine us ha hs<|cB hm z (fun jn hm=>?_) fun jo hm=>?_
 ·cases hm
  exact ssr<|yv (v2 (v:=(.agg #[iV 0,nS])) (vs:=#[]) (fun a _=>by simp) (fun _=>by kernel_rfl)) z<|pk2<|sN s5 z z<|sg z<|sg z<|snn<|u2<|v0<|k6 z (m4 z (w5 0 s5 z)) z z ⟨none,0,z,r3,z⟩ (aF [] z)
 refine skn<|x1<|ds [11] hmix<|tp 0 z (fun _=>x2 z) z z<|tp 1 z (fun _=>w3 aA z) z z<|tk [0,1,3,4,7] 2 z (p3 0 fs z) z z k1<|tp 3 z (fun _=>x2 z) z z<|oS hm fun b9 g2 hm=>?_
 obtain⟨jp,jq,g3,g7,hb⟩:=(x0 (s0 b c) a7).idx g2
 obtain⟨jr,js,jt,ju,jv,jw,jy,jz,rfl,cs,cu,c0,c1⟩:=DFun.opn g7
 refine tp 4 z (fun _=>t2 g3 fF z z) z z<|tk [0,1,3,4,7] 5 z (v1 z (k3 hb eo)) z z k1<|tk [0,1,3,4,7] 6 z (g5 1 s5 z) z z k1<|tp 7 z (fun _=>w3 r5 z) z z<|tk [0,1,3,4,7] 8 z (p3 8 n9 z) z z k1<|oS hm fun d7 c2 hm=>?_
 refine aW (i:=9) (j:=10) z z (by kernel_rfl) (l1:=#[T,T,T,T,T,T,T,T,T,T,O,O]) (l2:=#[T,T,T,T,T,T,T,T,T,O,T,O]) z z ?_ ?_
 ·intro d8
  refine pk6<|pk6<|pk6<|pk6<|pk7<|?_
  rcases d7 with p|q
  ·replace hm:=sumX hm
   refine cl (bi (a0:=b9) (a1:=a1) cs cu c0 c1 (x0 (s0 b c) f) b8 a9 b0 b1 W b2 b3 b7 c2) z z<|?_
   rintro _ jA _ ⟨hc,hd,he,hf,hg,hh,hi,hj,rfl,hk,hl,hn,ho,rfl⟩ Y
   refine m1 d8 (fun _=>(aG [5,5,5,1,1,1,1,0,0] Y (s0 b c) z))<|oN 10 z z fun hp=>aa gn z fun hq=>m1 hp (fun _=>(aG [6,6,6,2,2,2,2,1,1] Y (s0 b c) z))<|oN 11 z z fun hr=>sN dt z z<|m1 hr (fun h=>by cases h)<|dn<|s4<|x1<|ssr<|fa aP z<|ld 0 r6 z<|yv (u5 z z) z<|snn<|cP hm z (fun jB hm=>?_) fun jC hm=>?_
   ·refine x1<|StD.start [] [bK hq #[iV p.1,sV p.2.1,iV p.2.2.1,sl hc p.2.2.2.1 hd,sl he p.2.2.2.2.1 hf,sl hg p.2.2.2.2.2.1 hh,.map none,iV p.2.2.2.2.2.2.1,.bool p.2.2.2.2.2.2.2.1,sl hi p.2.2.2.2.2.2.2.2.1 hj,.bool p.2.2.2.2.2.2.2.2.2] 83,bK B #[.map (some l),.map (some m),.map (some n),sl J e.1 L,sl M e.2.1 N,sl P e.2.2.1 Q,.map (some o)] 81,mapv t0 l R,mapv t0 m S,mapv t0 n U,mapv t0 o V,bK y #[sl C a0.Datas D,sl E a0.Funs G] 25,bK A #[iV a1.Root,sl H a1.Nodes I] 28,bK X #[iV d.Op,sV d.Name,iV d.N,sl a3 d.Kids a4] 71] hmix<|tk [2,5,6] 0 z (g5 7 s5 z) z z (p9 (r1 0 z z (r1 0 z z (r1 0 z z (r1 0 z z (r1 0 z z (r1 0 z z (r1 0 z z (r1 0 z z (r1 1 z z t7))))))))))<|tp 2 z (fun _=>w3 aP z) z z<|tk [2,5,6] 3 z (p3 0 r6 z) z z (p9 (r1 0 z z (r1 0 z z (r1 0 z z (r1 0 z z (r1 0 z z (r1 0 z z (r1 0 z z (r1 0 z z (r1 1 z z t7))))))))))<|oN 1 z z fun ht=>oS hm fun jD hu hm=>cl (aZ (a0:=a1) (x0 (s0 b (s0 c Y)) f) hu) z z<|?_
    rintro _ jE _ ⟨hv,hw,rfl,hx,rfl⟩ d9
    cases hm
    exact m1 ht (fun _=>(aG [0,0,0,0,0,0,0,0,1] d9 (s0 b (s0 c Y)) z))<|oN 4 z z fun hy=>pk8<|sN s5 z z<|m1 hy (fun _=>(aG [1,1,1,1,1,1,1,1,1] d9 (s0 b (s0 c Y)) z))<|tp 5 z (fun _=>w4 z) z z<|tp 6 z (fun _=>w4 z) z z<|dn<|s4<|u2<|v0<|k6 z (m4 z (w5 0 s5 z)) z z ⟨hv,hw,z,hx,z⟩ (aF [] z)
   refine skn<|ssr<|lk 7 s5 z z<|mv z<|lk 0 dt z z<|oS hm fun jF hz hm=>cl (dm (a0:=a1) (x0 (s0 b (s0 c Y)) f) hk hl hn ho hz) z z<|?_
   rintro _ jG _ ⟨hA,hB,rfl,hC,rfl⟩ jH
   refine aa ab z fun jI=>sN s5 z z<|snn<|x1<|ssr<|fa v4 z<|ld 0 m8 z<|yv (u0 be z) z<|yv (t5 z z) z<|snn<|cP hm z (fun jJ hm=>?_) fun jK hm=>?_
   ·cases hm
    exact ssr<|yv (v2 (v:=(.agg #[iV 0,nS])) (vs:=#[]) (fun a _=>by simp) (fun _=>by kernel_rfl)) z<|pk9<|sN s5 z z<|sg z<|sg z<|snn<|u2<|v0<|k6 z (m4 z (w5 0 s5 z)) z z ⟨none,0,z,r3,z⟩ (aF [] z)
   cases hm
   exact skn<|ssr<|lk 0 s5 z z<|pk9<|sN s5 z z<|sg z<|sg z<|snn<|u2<|k6 z (m4 z (w5 0 s5 z)) z z ⟨hA,hB,z,hC,z⟩ (aF [] z)
  replace hm:=sumY hm
  refine cl (bi (a0:=b9) (a1:=a1) cs cu c0 c1 (x0 (s0 b c) f) b8 a9 b0 b1 W b2 b3 b7 c2) z z<|?_
  rintro _ jL _ ⟨e0,hD,hE,hF,hG,hH,hI,hJ,hK,hL,rfl,hM,hN,hO,hP,hQ,rfl⟩ Z
  refine m1 d8 (fun _=>(aG [6,6,6,2,2,2,2,1,1] Z (s0 b c) z))<|oN 10 z z fun hR=>aa gn z fun hS=>m1 hR (fun _=>(aG [7,7,7,3,3,3,3,2,2] Z (s0 b c) z))<|oN 11 z z fun hT=>sN dt z z<|m1 hT (fun h=>by cases h)<|dn<|s4<|x1<|ssr<|fa aP z<|ld 0 r6 z<|yv (u5 z z) z<|snn<|cP hm z (fun jM hm=>?_) fun jN hm=>?_
  ·refine x1<|StD.start [] [bK hS #[iV q.1,sV q.2.1,iV q.2.2.1,sl hD q.2.2.2.1 hE,sl hF q.2.2.2.2.1 hG,sl hH q.2.2.2.2.2.1 hI,.map (some e0),iV q.2.2.2.2.2.2.1,.bool q.2.2.2.2.2.2.2.1,sl hJ q.2.2.2.2.2.2.2.2.1 hK,.bool q.2.2.2.2.2.2.2.2.2.1] 83,mapv t0 e0 hL,bK B #[.map (some l),.map (some m),.map (some n),sl J e.1 L,sl M e.2.1 N,sl P e.2.2.1 Q,.map (some o)] 81,mapv t0 l R,mapv t0 m S,mapv t0 n U,mapv t0 o V,bK y #[sl C a0.Datas D,sl E a0.Funs G] 25,bK A #[iV a1.Root,sl H a1.Nodes I] 28,bK X #[iV d.Op,sV d.Name,iV d.N,sl a3 d.Kids a4] 71] hmix<|tk [2,5,6] 0 z (g5 8 s5 z) z z (p9 (r1 0 z z (r1 0 z z (r1 0 z z (r1 0 z z (r1 0 z z (r1 0 z z (r1 0 z z (r1 0 z z (r1 0 z z (r1 1 z z t7)))))))))))<|tp 2 z (fun _=>w3 aP z) z z<|tk [2,5,6] 3 z (p3 0 r6 z) z z (p9 (r1 0 z z (r1 0 z z (r1 0 z z (r1 0 z z (r1 0 z z (r1 0 z z (r1 0 z z (r1 0 z z (r1 0 z z (r1 1 z z t7)))))))))))<|oN 1 z z fun hU=>oS hm fun jO hV hm=>cl (aZ (a0:=a1) (x0 (s0 b (s0 c Z)) f) hV) z z<|?_
   rintro _ jP _ ⟨hW,hX,rfl,hY,rfl⟩ e1
   cases hm
   exact m1 hU (fun _=>(aG [0,0,0,0,0,0,0,0,0,1] e1 (s0 b (s0 c Z)) z))<|oN 4 z z fun hZ=>pk9<|sN s5 z z<|m1 hZ (fun _=>(aG [1,1,1,1,1,1,1,1,1,1] e1 (s0 b (s0 c Z)) z))<|tp 5 z (fun _=>w4 z) z z<|tp 6 z (fun _=>w4 z) z z<|dn<|s4<|u2<|v0<|k6 z (m4 z (w5 0 s5 z)) z z ⟨hW,hX,z,hY,z⟩ (aF [] z)
  refine skn<|ssr<|lk 8 s5 z z<|mv z<|lk 0 dt z z<|pk1<|oS hm fun jQ h0 hm=>cl (cH (a0:=a1) (x0 (s0 b (s0 c Z)) f) hM hN hO hP hQ h0) z z<|?_
  rintro _ jR _ ⟨h1,h2,rfl,h3,rfl⟩ jT
  refine aa ab z fun jU=>sN s5 z z<|snn<|x1<|ssr<|fa v4 z<|ld 0 m8 z<|yv (u0 be z) z<|yv (t5 z z) z<|snn<|cP hm z (fun jV hm=>?_) fun jW hm=>?_
  ·cases hm
   exact ssr<|yv (v2 (v:=(.agg #[iV 0,nS])) (vs:=#[]) (fun a _=>by simp) (fun _=>by kernel_rfl)) z<|pk10<|sN s5 z z<|sg z<|sg z<|snn<|u2<|v0<|k6 z (m4 z (w5 0 s5 z)) z z ⟨none,0,z,r3,z⟩ (aF [] z)
  cases hm
  exact skn<|ssr<|lk 0 s5 z z<|pk10<|sN s5 z z<|sg z<|sg z<|snn<|u2<|k6 z (m4 z (w5 0 s5 z)) z z ⟨h1,h2,z,h3,z⟩ (aF [] z)
 intro h4
 refine aa gn z fun e2=>m1 h4 (fun _=>(aF [1,1,1,1,1,1,1,1,1] z))<|oN 9 z z fun e3=>pk7<|pk7<|pk7<|pk7<|pk8<|?_
 rcases d7 with t|x
 ·replace hm:=sumX hm
  refine cl (bi (a0:=b9) (a1:=a1) cs cu c0 c1 (x0 (s0 b c) f) b8 a9 b0 b1 W b2 b3 b7 c2) z z<|?_
  rintro _ jX _ ⟨h5,h6,h7,h8,h9,ia,ib,ic,rfl,ie,ig,ih,ii,rfl⟩ a5
  refine m1 e3 (fun _=>(aG [6,6,6,1,1,1,1,0,1] a5 (s0 b c) z))<|oN 11 z z fun ij=>pk5<|sN dt z z<|m1 ij (fun h=>by cases h)<|dn<|s4<|x1<|ssr<|fa aP z<|ld 0 r6 z<|yv (u5 z z) z<|snn<|cP hm z (fun jY hm=>?_) fun jZ hm=>?_
  ·refine x1<|StD.start [] [bK e2 #[iV t.1,sV t.2.1,iV t.2.2.1,sl h5 t.2.2.2.1 h6,sl h7 t.2.2.2.2.1 h8,sl h9 t.2.2.2.2.2.1 ia,.map none,iV t.2.2.2.2.2.2.1,.bool t.2.2.2.2.2.2.2.1,sl ib t.2.2.2.2.2.2.2.2.1 ic,.bool t.2.2.2.2.2.2.2.2.2] 83,bK B #[.map (some l),.map (some m),.map (some n),sl J e.1 L,sl M e.2.1 N,sl P e.2.2.1 Q,.map (some o)] 81,mapv t0 l R,mapv t0 m S,mapv t0 n U,mapv t0 o V,bK y #[sl C a0.Datas D,sl E a0.Funs G] 25,bK A #[iV a1.Root,sl H a1.Nodes I] 28,bK X #[iV d.Op,sV d.Name,iV d.N,sl a3 d.Kids a4] 71] hmix<|tk [2,5,6] 0 z (g5 7 s5 z) z z (p9 (r1 0 z z (r1 0 z z (r1 0 z z (r1 0 z z (r1 0 z z (r1 0 z z (r1 0 z z (r1 0 z z (r1 1 z z t7))))))))))<|tp 2 z (fun _=>w3 aP z) z z<|tk [2,5,6] 3 z (p3 0 r6 z) z z (p9 (r1 0 z z (r1 0 z z (r1 0 z z (r1 0 z z (r1 0 z z (r1 0 z z (r1 0 z z (r1 0 z z (r1 1 z z t7))))))))))<|oN 1 z z fun ik=>oS hm fun j0 il hm=>cl (aZ (a0:=a1) (x0 (s0 b (s0 c a5)) f) il) z z<|?_
   rintro _ j1 _ ⟨im,io,rfl,ip,rfl⟩ e4
   cases hm
   exact m1 ik (fun _=>(aG [0,0,0,0,0,0,0,0,1] e4 (s0 b (s0 c a5)) z))<|oN 4 z z fun iq=>pk8<|sN s5 z z<|m1 iq (fun _=>(aG [1,1,1,1,1,1,1,1,1] e4 (s0 b (s0 c a5)) z))<|tp 5 z (fun _=>w4 z) z z<|tp 6 z (fun _=>w4 z) z z<|dn<|s4<|u2<|v0<|k6 z (m4 z (w5 0 s5 z)) z z ⟨im,io,z,ip,z⟩ (aF [] z)
  refine skn<|ssr<|lk 7 s5 z z<|mv z<|lk 0 dt z z<|oS hm fun j2 ir hm=>cl (dm (a0:=a1) (x0 (s0 b (s0 c a5)) f) ie ig ih ii ir) z z<|?_
  rintro _ j3 _ ⟨it,iu,rfl,iv,rfl⟩ j4
  refine aa ab z fun j5=>sN s5 z z<|snn<|x1<|ssr<|fa v4 z<|ld 0 m8 z<|yv (u0 be z) z<|yv (t5 z z) z<|snn<|cP hm z (fun j6 hm=>?_) fun j7 hm=>?_
  ·cases hm
   exact ssr<|yv (v2 (v:=(.agg #[iV 0,nS])) (vs:=#[]) (fun a _=>by simp) (fun _=>by kernel_rfl)) z<|pk9<|sN s5 z z<|sg z<|sg z<|snn<|u2<|v0<|k6 z (m4 z (w5 0 s5 z)) z z ⟨none,0,z,r3,z⟩ (aF [] z)
  cases hm
  exact skn<|ssr<|lk 0 s5 z z<|pk9<|sN s5 z z<|sg z<|sg z<|snn<|u2<|k6 z (m4 z (w5 0 s5 z)) z z ⟨it,iu,z,iv,z⟩ (aF [] z)
 replace hm:=sumY hm
 refine cl (bi (a0:=b9) (a1:=a1) cs cu c0 c1 (x0 (s0 b c) f) b8 a9 b0 b1 W b2 b3 b7 c2) z z<|?_
 rintro _ j8 _ ⟨e5,iw,ix,iy,iz,iA,iB,iC,iD,iE,rfl,iG,iH,iI,iJ,iK,rfl⟩ a6
 refine m1 e3 (fun _=>(aG [7,7,7,2,2,2,2,1,2] a6 (s0 b c) z))<|oN 11 z z fun iL=>pk6<|sN dt z z<|m1 iL (fun h=>by cases h)<|dn<|s4<|x1<|ssr<|fa aP z<|ld 0 r6 z<|yv (u5 z z) z<|snn<|cP hm z (fun j9 hm=>?_) fun ka hm=>?_
 ·refine x1<|StD.start [] [bK e2 #[iV x.1,sV x.2.1,iV x.2.2.1,sl iw x.2.2.2.1 ix,sl iy x.2.2.2.2.1 iz,sl iA x.2.2.2.2.2.1 iB,.map (some e5),iV x.2.2.2.2.2.2.1,.bool x.2.2.2.2.2.2.2.1,sl iC x.2.2.2.2.2.2.2.2.1 iD,.bool x.2.2.2.2.2.2.2.2.2.1] 83,mapv t0 e5 iE,bK B #[.map (some l),.map (some m),.map (some n),sl J e.1 L,sl M e.2.1 N,sl P e.2.2.1 Q,.map (some o)] 81,mapv t0 l R,mapv t0 m S,mapv t0 n U,mapv t0 o V,bK y #[sl C a0.Datas D,sl E a0.Funs G] 25,bK A #[iV a1.Root,sl H a1.Nodes I] 28,bK X #[iV d.Op,sV d.Name,iV d.N,sl a3 d.Kids a4] 71] hmix<|tk [2,5,6] 0 z (g5 8 s5 z) z z (p9 (r1 0 z z (r1 0 z z (r1 0 z z (r1 0 z z (r1 0 z z (r1 0 z z (r1 0 z z (r1 0 z z (r1 0 z z (r1 1 z z t7)))))))))))<|tp 2 z (fun _=>w3 aP z) z z<|tk [2,5,6] 3 z (p3 0 r6 z) z z (p9 (r1 0 z z (r1 0 z z (r1 0 z z (r1 0 z z (r1 0 z z (r1 0 z z (r1 0 z z (r1 0 z z (r1 0 z z (r1 1 z z t7)))))))))))<|oN 1 z z fun iM=>oS hm fun kb iN hm=>cl (aZ (a0:=a1) (x0 (s0 b (s0 c a6)) f) iN) z z<|?_
  rintro _ kc _ ⟨iO,iP,rfl,iQ,rfl⟩ e6
  cases hm
  exact m1 iM (fun _=>(aG [0,0,0,0,0,0,0,0,0,1] e6 (s0 b (s0 c a6)) z))<|oN 4 z z fun iR=>pk9<|sN s5 z z<|m1 iR (fun _=>(aG [1,1,1,1,1,1,1,1,1,1] e6 (s0 b (s0 c a6)) z))<|tp 5 z (fun _=>w4 z) z z<|tp 6 z (fun _=>w4 z) z z<|dn<|s4<|u2<|v0<|k6 z (m4 z (w5 0 s5 z)) z z ⟨iO,iP,z,iQ,z⟩ (aF [] z)
 refine skn<|ssr<|lk 8 s5 z z<|mv z<|lk 0 dt z z<|pk1<|oS hm fun kd iU hm=>cl (cH (a0:=a1) (x0 (s0 b (s0 c a6)) f) iG iH iI iJ iK iU) z z<|?_
 rintro _ ke _ ⟨iW,iX,rfl,iY,rfl⟩ kf
 refine aa ab z fun kg=>sN s5 z z<|snn<|x1<|ssr<|fa v4 z<|ld 0 m8 z<|yv (u0 be z) z<|yv (t5 z z) z<|snn<|cP hm z (fun kh hm=>?_) fun ki hm=>?_
 ·cases hm
  exact ssr<|yv (v2 (v:=(.agg #[iV 0,nS])) (vs:=#[]) (fun a _=>by simp) (fun _=>by kernel_rfl)) z<|pk10<|sN s5 z z<|sg z<|sg z<|snn<|u2<|v0<|k6 z (m4 z (w5 0 s5 z)) z z ⟨none,0,z,r3,z⟩ (aF [] z)
 cases hm
 exact skn<|ssr<|lk 0 s5 z z<|pk10<|sN s5 z z<|sg z<|sg z<|snn<|u2<|k6 z (m4 z (w5 0 s5 z)) z z ⟨iW,iX,z,iY,z⟩ (aF [] z)
theorem bp {a0:DCore}{a1:DGraph}(x:Fsl 64 KDData F y A a0.Datas) (B:Fsl 144 KDFun F C D a0.Funs) (k:Fsl 56 KDNode F l m a1.Nodes) (hm:m_graph_Replace g a0 a1 a2 a3=some r):
    CallSp Tryz.prog 16 #[.agg #[sl y a0.Datas A,sl C a0.Funs D],.agg #[iV a1.Root,sl l a1.Nodes m],iV a2,iV a3] F [] (fun u F' H'=>∃n o,u=(.tuple #[.agg #[iV r.1.Root,sl n r.1.Nodes o],iV r.2])∧Fsl 56 KDNode F' n o r.1.Nodes∧H'=[]):=by
 unfold m_graph_Replace at hm
 refine f1 Tryz.func16 z z fun Q R S=>ssr<|ba z fun U=>ba z fun p=>aa ab z fun q=>sg z<|snn<|x1<|ssr<|lk 2 aX z z<|lk 1 s5 z z<|oS hm fun t E hm=>cl (r7 (a0:=a0) (a1:=a1) x B k E) z z<|?_
 rintro _ G _ ⟨rfl,rfl⟩ H
 refine sg z<|snn<|ssr<|mv z<|yv (p4 z z) z<|snn<|?_
 refine m5 z ?_ ?_
 ·intro b
  replace b:¬(t=0):=nd_t b
  replace hm:=iF hm b
  cases hm
  exact ssr<|yv (v2 (v:=(.agg #[iV 0,nS])) (vs:=#[]) (fun a _=>by simp) (fun _=>by kernel_rfl)) z<|mv z<|sN s5 z z<|sg z<|snn<|u2<|v0<|x9 z (m4 z (w5 0 s5 z)) z ⟨none,0,z,r3,z⟩ (aF [] z)
 intro c
 replace c:t=0:=nd_f c
 replace hm:=iT hm c
 refine skn<|ssr<|fa v4 z<|ld 1 m8 z<|yv (u0 be z) z<|sg z<|snn<|x1<|oC hm (fun d h s=>h [(2,iV a2),(3,iV a3),(5,pP p 0),(8,pP q 0),(44,.bool d)]∧s G [bK p #[iV a1.Root,sl l a1.Nodes m] 28,bK q #[iV 0,nS] 28]) (fun d hm=>?_) fun d hm a w=>?_
 ·refine q0<|mv z<|?_
  rcases iS hm with⟨e,hm⟩|⟨e,hm⟩
  ·cases hm
   exact yv (t3 e (r2 z z)) z<|mv z<|un z z<|un z z<|un z z<|pt z<|mv z<|un z z<|un z z<|pt z<|mv z<|un z z<|un z z<|un z z<|pt z<|mv z<|un z z<|un z z<|un z z<|pt z<|u1<|eN [1,0] z
  refine yv (s2 e (r2 z z)) z<|mv z<|mw z z<|mw z z<|?_
  rcases iS hm with⟨f,hm⟩|⟨f,hm⟩
  ·cases hm
   exact yw (t3 f (u5 z z)) z z<|pf z<|mv z<|un z z<|un z z<|pt z<|mv z<|un z z<|un z z<|un z z<|pt z<|mv z<|un z z<|un z z<|un z z<|pt z<|u1<|eN [1,0] z
  refine yw (s2 f (u5 z z)) z z<|pf z<|mv z<|mw z z<|?_
  rcases iS hm with⟨i,hm⟩|⟨i,hm⟩
  ·cases hm
   exact yw (t3 i (r2 z z)) z z<|pf z<|mv z<|un z z<|un z z<|un z z<|pt z<|mv z<|un z z<|un z z<|un z z<|pt z<|u1<|eN [1,0] z
  refine yw (s2 i (r2 z z)) z z<|pf z<|mv z<|mw z z<|mw z z<|?_
  rcases iS hm with⟨j,hm⟩|⟨j,hm⟩
  ·cases hm
   exact yw (t3 j (u5 z z)) z z<|pf z<|mv z<|un z z<|un z z<|un z z<|pt z<|u1<|eN [1,0] z
  cases hm
  exact yw (s2 j (u5 z z)) z z<|pf z<|mv z<|mw z z<|mw z z<|yw (w1 z z) z z<|pf z<|u1<|eN [1,0] z
 rintro⟨ha,hs⟩
 refine us ha hs<|cB hm z (fun V hm=>?_) fun W hm=>?_
 ·cases hm
  exact ssr<|yv (v2 (v:=(.agg #[iV 0,nS])) (vs:=#[]) (fun a _=>by simp) (fun _=>by kernel_rfl)) z<|pk1<|sN s5 z z<|sg z<|snn<|u2<|v0<|x9 z (m4 z (w5 0 s5 z)) z ⟨none,0,z,r3,z⟩ (aF [] z)
 refine skn<|ssr<|lk 0 s5 z z<|mv z<|mv z<|oS hm fun I J hm=>cl (bE (a0:=a1) (x0 H k) J) z z<|?_
 rintro _ X _ ⟨Y,Z,rfl,K,rfl⟩ a4
 refine oS hm fun a5 L hm=>cl (ac (a0:=I) K r3 L) z z<|?_
 rintro _ a6 _ ⟨M,N,a7,a8,rfl,P,a9,rfl⟩ b0
 cases hm
 exact mv z<|yv (r0 z z) z<|yv (r0 z z) z<|aa ab z fun b1=>sN s5 z z<|sg z<|snn<|ssr<|lk 0 s5 z z<|pk2<|sN s5 z z<|sg z<|snn<|u2<|x9 z (m4 z (w5 0 s5 z)) z ⟨M,N,z,P,z⟩ (aF [] z)
theorem eu {a0:DCore}{a1:DGraph}(hT:Tab F) (t:Fsl 64 KDData F C D a0.Datas) (v:Fsl 144 KDFun F E G a0.Funs) (L:Fsl 56 KDNode F H I a1.Nodes) (e7:Fsl 8 (Kind.int .i64) F d4 d5 a4) (hm:m_law09_steps g a0 a1 a2 a3 a4=some r):
    CallSp Tryz.prog 5 #[.agg #[sl C a0.Datas D,sl E a0.Funs G],.agg #[iV a1.Root,sl H a1.Nodes I],iV a2,iV a3,sl d4 a4 d5] F [] (fun u F' H'=>u=(.bool r)∧H'=[]):=by
 unfold m_law09_steps at hm
 refine f1 Tryz.func5 z z fun h9 ia ib=>ssr<|ba z fun o=>ba z fun p=>sg z<|snn<|x1<|oC hm (fun S h s=>∃U,m3 F U∧h [(2,iV a2),(3,iV a3),(4,sl d4 a4 d5),(5,pP o 0),(6,pP p 0),(54,.bool S)]∧s U [bK o #[sl C a0.Datas D,sl E a0.Funs G] 25,bK p #[iV a1.Root,sl H a1.Nodes I] 28]) (fun S hm=>?_) fun S hm a w=>?_
 ·refine q0<|lk 1 aX z z<|lk 0 s5 z z<|oS hm fun ic e8 hm=>cl (r7 (a0:=a0) (a1:=a1) t v L e8) z z<|?_
  rintro _ y _ ⟨rfl,rfl⟩ A
  rcases iS hm with⟨V,hm⟩|⟨V,hm⟩
  ·refine yv (g6 V (p4 z z)) z<|mv z<|fw v4 z z<|lw 0 m8 z z<|yw (u0 be z) z z<|?_
   rcases iS hm with⟨W,hm⟩|⟨W,hm⟩
   ·cases hm
    exact yw (t3 W (u5 z z)) z z<|pf z<|mv z<|un z z<|un z z<|pt z<|mv z<|un z z<|un z z<|un z z<|un z z<|un z z<|pt z<|mv z<|un z z<|un z z<|pt z<|mv z<|un z z<|un z z<|un z z<|un z z<|un z z<|pt z<|u1 fun a w ha hs=>⟨y,A,cv ha,(am [1,0] hs z)⟩
   refine yw (s2 W (u5 z z)) z z<|pf z<|mv z<|mw z z<|?_
   rcases iS hm with⟨X,hm⟩|⟨X,hm⟩
   ·cases hm
    exact yw (t3 X (r2 z z)) z z<|pf z<|mv z<|un z z<|un z z<|un z z<|un z z<|un z z<|pt z<|mv z<|un z z<|un z z<|pt z<|mv z<|un z z<|un z z<|un z z<|un z z<|un z z<|pt z<|u1 fun a w ha hs=>⟨y,A,cv ha,(am [1,0] hs z)⟩
   refine yw (s2 X (r2 z z)) z z<|pf z<|mv z<|mw z z<|fw v4 z z<|lw 0 m8 z z<|yw (u0 be z) z z<|?_
   rcases iS hm with⟨Y,hm⟩|⟨Y,hm⟩
   ·cases hm
    exact yw (t3 Y (u5 z z)) z z<|pf z<|mv z<|un z z<|un z z<|pt z<|mv z<|un z z<|un z z<|un z z<|un z z<|un z z<|pt z<|u1 fun a w ha hs=>⟨y,A,cv ha,(am [1,0] hs z)⟩
   refine yw (s2 Y (u5 z z)) z z<|pf z<|mv z<|mw z z<|?_
   rcases iS hm with⟨Z,hm⟩|⟨Z,hm⟩
   ·cases hm
    exact yw (t3 Z (r2 z z)) z z<|pf z<|mv z<|un z z<|un z z<|un z z<|un z z<|un z z<|pt z<|u1 fun a w ha hs=>⟨y,A,cv ha,(am [1,0] hs z)⟩
   cases hm
   exact yw (s2 Z (r2 z z)) z z<|pf z<|mv z<|mw z z<|fw v4 z z<|lw 0 m8 z z<|yw (u0 be z) z z<|yw (u5 z z) z z<|pf z<|u1 fun a w ha hs=>⟨y,A,cv ha,(am [1,0] hs z)⟩
  cases hm
  exact yv (t6 V (p4 z z)) z<|mv z<|un z z<|un z z<|un z z<|un z z<|pt z<|mv z<|un z z<|un z z<|pt z<|mv z<|un z z<|un z z<|un z z<|un z z<|un z z<|pt z<|mv z<|un z z<|un z z<|pt z<|mv z<|un z z<|un z z<|un z z<|un z z<|un z z<|pt z<|u1 fun a w ha hs=>⟨y,A,cv ha,(am [1,0] hs z)⟩
 rintro⟨U,c,ha,hs⟩
 refine us ha hs<|cB hm z (fun ie hm=>?_) fun ig hm=>?_
 ·refine ssr<|oS hm fun ih e9 hm=>cl (ah (Tab.mono c hT) e9) z z<|?_
  rintro _ ii _ ⟨rfl,rfl⟩ ij
  cases hm
  exact sg z<|snn<|u2<|v0<|k0 z z ⟨z,z⟩ (aF [] z)
 refine skn<|ssr<|lk 1 s5 z z<|mv z<|oS hm fun k fo hm=>cl (cV (a0:=a1) (x0 c L) (x0 c e7) fo) z z<|?_
 rintro _ ik _ ⟨a5,a6,a7,a8,rfl,M,J,rfl⟩ d
 refine mv z<|yv (r0 z z) z<|yv (r0 z z) z<|aa ab z fun B=>sN s5 z z<|sg z<|snn<|ssr<|lk 1 aX z z<|lk 2 s5 z z<|mv z<|oS hm fun x f0 hm=>cl (bC (a0:=a0) (a1:=a1) (x0 (s0 c d) t) (x0 (s0 c d) v) (x0 (s0 c d) L) f0) z z<|?_
 rintro _ gP _ ⟨gQ,gR,rfl,gS,rfl⟩ b
 refine mv z<|yv (r0 z z) z<|yv (r0 z z) z<|yv (r0 z z) z<|aa ab z fun d6=>sN s5 z z<|sg z<|sg z<|snn<|oC hm (fun m h s=>∃a9 b0 b1 n,m3 gP n∧Fsl 56 KDNode n b0 b1 m.2.1∧h [(2,iV a2),(3,iV a3),(5,pP o 0),(6,pP p 0),(11,pP B 0),(12,sl a7 k.2 a8),(13,pP d6 0),(14,iV x.2.1),(15,iV x.2.2),(16,pP a9 0),(17,iV m.2.2.1),(18,iV m.2.2.2)]∧s n [bK o #[sl C a0.Datas D,sl E a0.Funs G] 25,bK p #[iV a1.Root,sl H a1.Nodes I] 28,bK B #[iV k.1.Root,sl a5 k.1.Nodes a6] 28,bK d6 #[iV x.1.Root,sl gQ x.1.Nodes gR] 28,bK a9 #[iV m.1,sl b0 m.2.1 b1] 28]) (fun m hm=>?_) fun m hm a w=>?_
 ·refine ds [12] hmix<|tk [2,3,4,7,8,9,10,13,14] 0 z (g5 2 aX z) z z k1<|tk [2,3,4,7,8,9,10,13,14] 1 z (g5 1 s5 z) z z k1<|tp 2 z (fun _=>x2 z) z z<|tp 3 z (fun _=>x2 z) z z<|oS hm fun il gT hm=>?_
  obtain⟨im,io,gU,gV,gW⟩:=(x0 b J).idx gT
  obtain rfl:=gV
  refine tp 4 z (fun _=>t2 gU y9 z z) z z<|tk [2,3,4,7,8,9,10,13,14] 5 z (v1 z (k5 gW r6 z)) z z k1<|oS hm fun ip d7 hm=>?_
  refine aW (i:=6) (j:=11) z z (by kernel_rfl) (l1:=#[T,T,T,T,T,T,T,O,O,O,O,O,O,O,O]) (l2:=#[T,T,T,T,T,T,O,O,O,O,O,T,O,O,O]) z z ?_ ?_
  ·intro gX
   refine cl (bC (a0:=a0) (a1:=k.1) (x0 (s0 c (s0 d b)) t) (x0 (s0 c (s0 d b)) v) (x0 b M) d7) z z<|?_
   rintro _ gY _ ⟨gZ,g0,rfl,g1,rfl⟩ b2
   cases hm
   exact m1 gX (fun _=>(aG [0,0,0,0] b2 (s0 c (s0 d b)) z))<|tp 7 z (fun _=>x2 z) z z<|tp 8 z (fun _=>r0 z z) z z<|tp 9 z (fun _=>r0 z z) z z<|tp 10 z (fun _=>r0 z z) z z<|oN 11 z z fun g2=>aa ab z fun g3=>m1 g2 (fun _=>(aG [1,1,1,1] b2 (s0 c (s0 d b)) z))<|oN 12 z z fun g7=>sN s5 z z<|m1 g7 (fun h=>by cases h)<|tp 13 z (fun _=>w4 z) z z<|tp 14 z (fun _=>w4 z) z z<|dn fun a w ha hs=>⟨g3,gZ,g0,gY,b2,g1,cv ha,(am [3,3,2,1,0] hs z)⟩
  intro hb
  refine aa ab z fun hc=>m1 hb (fun _=>(aF [1,1,1,1] z))<|oN 6 z z fun hd=>cl (bC (a0:=a0) (a1:=k.1) (x0 (s0 c (s0 d b)) t) (x0 (s0 c (s0 d b)) v) (x0 b M) d7) z z<|?_
  rintro _ he _ ⟨hf,hg,rfl,hh,rfl⟩ d8
  cases hm
  exact m1 hd (fun _=>(aG [1,1,1,1] d8 (s0 c (s0 d b)) z))<|tp 7 z (fun _=>x2 z) z z<|tp 8 z (fun _=>r0 z z) z z<|tp 9 z (fun _=>r0 z z) z z<|tp 10 z (fun _=>r0 z z) z z<|oN 12 z z fun hi=>sN s5 z z<|m1 hi (fun h=>by cases h)<|tp 13 z (fun _=>w4 z) z z<|tp 14 z (fun _=>w4 z) z z<|dn fun a w ha hs=>⟨hc,hf,hg,he,d8,hh,cv ha,(am [3,3,2,1,0] hs z)⟩
 rintro⟨a9,b0,b1,n,e,hj,ha,hs⟩
 refine us ha hs<|x1<|ssr<|mv z<|mv z<|yv (p4 z z) z<|snn<|?_
 refine m5 z ?_ ?_
 ·intro b3
  replace b3:¬(x.2.2=m.2.2.2):=nd_t b3
  replace hm:=iF hm b3
  cases hm
  exact ssr<|sg z<|snn<|u2<|v0<|k0 z z ⟨z,z⟩ (aF [] z)
 intro b4
 replace b4:x.2.2=m.2.2.2:=nd_f b4
 replace hm:=iT hm b4
 refine skn<|oD hm (fun b7 h s=>∃d9:Unit,b7=.inl d9∧∃b8,m3 n b8∧h [(2,iV a2),(3,iV a3),(5,pP o 0),(6,pP p 0),(11,pP B 0),(12,sl a7 k.2 a8)]∧s b8 [bK o #[sl C a0.Datas D,sl E a0.Funs G] 25,bK p #[iV a1.Root,sl H a1.Nodes I] 28,bK B #[iV k.1.Root,sl a5 k.1.Nodes a6] 28]) (fun b7 hm b9=>?_) fun b7 b9 a w=>?_
 ·refine ssr<|mv z<|yv (w1 z z) z<|snn<|cP hm z (fun iq hm=>?_) fun ir hm=>?_
  ·refine oC hm (fun cs h s=>∃N,m3 n N∧h [(2,iV a2),(3,iV a3),(5,pP o 0),(6,pP p 0),(11,pP B 0),(12,sl a7 k.2 a8),(109,.bool cs)]∧s N [bK o #[sl C a0.Datas D,sl E a0.Funs G] 25,bK p #[iV a1.Root,sl H a1.Nodes I] 28,bK B #[iV k.1.Root,sl a5 k.1.Nodes a6] 28]) (fun cs hm=>?_) fun cs hm a w=>?_
   ·refine q0<|mv z<|?_
    rcases iS hm with⟨cu,hm⟩|⟨cu,hm⟩
    ·refine yv (t3 cu (r2 z z)) z<|mv z<|mw z z<|?_
     rcases iS hm with⟨c0,hm⟩|⟨c0,hm⟩
     ·cases hm
      exact yw (t3 c0 (u5 z z)) z z<|mw z z<|un z z<|un z z<|un z z<|un z z<|yw (f3 z z) z z<|pt z<|mv z<|un z z<|un z z<|un z z<|k2 p1 z z<|k2 p1 z z<|k2 p1 z z<|k2 p1 z z<|k2 p1 z z<|k2 p1 z z<|un z z<|pt z<|u1 fun a w ha hs=>⟨n,(l0 _),cv ha,(am [0,0,0] hs z)⟩
     refine yw (s2 c0 (u5 z z)) z z<|mw z z<|yw (g5 3 s5 z) z z<|yw (g5 4 s5 z) z z<|oS hm fun e0 hk hm=>f5 _ (bh (a0:=x.1) (a1:=(DGraph.mk m.1 m.2.1)) (x0 e gS) hj hk) z (A1 z) z en13.out z z z<|?_
     rintro _ c1 _ ⟨rfl,rfl⟩ P
     rcases iS hm with⟨c2,hm⟩|⟨c2,hm⟩
     ·have hl:(e0)=true:=c2
      try rw [hl]
      refine yw (v7 z) z z<|yw (n3 z z) z z<|pt z<|mv z<|mw z z<|?_
      rcases iS hm with⟨c3,hm⟩|⟨c3,hm⟩
      ·refine yw (t3 c3 (u5 z z)) z z<|mw z z<|mw z z<|mw z z<|mw z z<|oS hm fun it hn hm=>?_
       obtain⟨iu,iv,ho,hp,hq⟩:=(x0 (s0 b (s0 e P)) J).idx hn
       obtain rfl:=hp
       cases hm
       exact yw (t2 ho y9 z z) z z<|yw (v1 z (k5 hq r6 z)) z z<|yw (p4 z z) z z<|yw (f3 z z) z z<|pf z<|u1 fun a w ha hs=>⟨c1,P,cv ha,(am [0,0,0] hs z)⟩
      cases hm
      exact yw (s2 c3 (u5 z z)) z z<|mw z z<|un z z<|un z z<|un z z<|un z z<|un z z<|un z z<|yw (n3 z z) z z<|pf z<|u1 fun a w ha hs=>⟨c1,P,cv ha,(am [0,0,0] hs z)⟩
     have hr:(e0)=false:=w2 c2
     try rw [hr]
     cases hm
     exact yw (an z) z z<|yw (n3 z z) z z<|pt z<|mv z<|un z z<|un z z<|un z z<|k2 p1 z z<|k2 p1 z z<|k2 p1 z z<|k2 p1 z z<|k2 p1 z z<|k2 p1 z z<|un z z<|pt z<|u1 fun a w ha hs=>⟨c1,P,cv ha,(am [0,0,0] hs z)⟩
    refine yv (s2 cu (r2 z z)) z<|mv z<|un z z<|un z z<|un z z<|k2 p1 z z<|k2 p1 z z<|k2 p1 z z<|k2 p1 z z<|un z z<|pf z<|mv z<|mw z z<|?_
    rcases iS hm with⟨c4,hm⟩|⟨c4,hm⟩
    ·refine yw (t3 c4 (u5 z z)) z z<|mw z z<|mw z z<|mw z z<|mw z z<|oS hm fun iw ht hm=>?_
     obtain⟨ix,iy,hu,hv,hw⟩:=(x0 (s0 b e) J).idx ht
     obtain rfl:=hv
     cases hm
     exact yw (t2 hu y9 z z) z z<|yw (v1 z (k5 hw r6 z)) z z<|yw (p4 z z) z z<|yw (f3 z z) z z<|pf z<|u1 fun a w ha hs=>⟨n,(l0 _),cv ha,(am [0,0,0] hs z)⟩
    cases hm
    exact yw (s2 c4 (u5 z z)) z z<|mw z z<|un z z<|un z z<|un z z<|un z z<|un z z<|un z z<|yw (n3 z z) z z<|pf z<|u1 fun a w ha hs=>⟨n,(l0 _),cv ha,(am [0,0,0] hs z)⟩
   rintro⟨N,hx,ha,hs⟩
   refine us ha hs<|cB hm z (fun iz hm=>?_) fun iA hm=>?_
   ·cases hm
    obtain rfl:=aR b9
    exact ssr<|sg z<|snn<|u2<|v0<|k0 z z ⟨z,z⟩ (aF [] z)
   cases hm
   exact k4 fun a w ha hs=>⟨(),z,N,hx,cv ha,(am [0,0,0] hs z)⟩
  cases hm
  exact k4 fun a w ha hs=>⟨(),z,n,(l0 _),cv ha,(am [0,0,0] hs z)⟩
 rintro⟨d9,rfl,b8,f,ha,hs⟩
 replace hm:=aL b9
 refine us ha hs<|ssr<|lk 0 aX z z<|lk 1 s5 z z<|mv z<|mv z<|oS hm fun Q hy hm=>cl (bp (a0:=a0) (a1:=a1) (x0 (s0 c (s0 d (s0 b (s0 e f)))) t) (x0 (s0 c (s0 d (s0 b (s0 e f)))) v) (x0 (s0 c (s0 d (s0 b (s0 e f)))) L) hy) z z<|?_
 rintro _ hz _ ⟨hA,hB,rfl,hC,rfl⟩ l
 refine mv z<|yv (r0 z z) z<|yv (r0 z z) z<|aa ab z fun e1=>sN s5 z z<|sg z<|snn<|oC hm (fun q h s=>∃c5 c6 c7 K,m3 hz K∧Fsl 56 KDNode K c6 c7 q.2.1∧h [(19,pP e1 0),(20,iV Q.2),(21,pP c5 0),(22,iV q.2.2)]∧s K [bK e1 #[iV Q.1.Root,sl hA Q.1.Nodes hB] 28,bK c5 #[iV q.1,sl c6 q.2.1 c7] 28]) (fun q hm=>?_) fun q hm a w=>?_
 ·refine ds [15] hmix<|tk [2,3,4,6,7,8,11,12,13,16] 0 z (g5 1 aX z) z z k1<|tk [2,3,4,6,7,8,11,12,13,16] 1 z (g5 3 s5 z) z z k1<|tp 2 z (fun _=>x2 z) z z<|tp 3 z (fun _=>x2 z) z z<|oS hm fun iB hD hm=>?_
  obtain⟨iC,iD,hE,hF,hG⟩:=(x0 (s0 b (s0 e (s0 f l))) J).idx hD
  obtain rfl:=hF
  refine tp 4 z (fun _=>t2 hE y9 z z) z z<|tk [2,3,4,6,7,8,11,12,13,16] 5 z (v1 z (k5 hG r6 z)) z z k1<|tp 6 z (fun _=>x2 z) z z<|tp 7 z (fun _=>x2 z) z z<|oS hm fun iE hH hm=>?_
  obtain⟨iG,iH,hI,hJ,hK⟩:=(x0 (s0 b (s0 e (s0 f l))) J).idx hH
  obtain rfl:=hJ
  refine tp 8 z (fun _=>t2 hI y9 z z) z z<|tk [2,3,4,6,7,8,11,12,13,16] 9 z (v1 z (k5 hK r6 z)) z z k1<|oS hm fun iI e2 hm=>?_
  refine aW (i:=10) (j:=14) z z (by kernel_rfl) (l1:=#[T,T,T,T,T,T,T,T,T,T,T,O,O,O,O,O,O]) (l2:=#[T,T,T,T,T,T,T,T,T,T,O,O,O,O,T,O,O]) z z ?_ ?_
  ·intro hL
   refine cl (bp (a0:=a0) (a1:=k.1) (x0 (s0 c (s0 d (s0 b (s0 e (s0 f l))))) t) (x0 (s0 c (s0 d (s0 b (s0 e (s0 f l))))) v) (x0 (s0 b (s0 e (s0 f l))) M) e2) z z<|?_
   rintro _ hM _ ⟨hN,hO,rfl,hP,rfl⟩ c8
   cases hm
   exact m1 hL (fun _=>(aG [0,0,0,0] c8 (s0 c (s0 d (s0 b (s0 e (s0 f l))))) z))<|tp 11 z (fun _=>x2 z) z z<|tp 12 z (fun _=>r0 z z) z z<|tp 13 z (fun _=>r0 z z) z z<|oN 14 z z fun hQ=>aa ab z fun hR=>m1 hQ (fun _=>(aG [1,1,1,1] c8 (s0 c (s0 d (s0 b (s0 e (s0 f l))))) z))<|oN 15 z z fun hS=>sN s5 z z<|m1 hS (fun h=>by cases h)<|tp 16 z (fun _=>w4 z) z z<|dn fun a w ha hs=>⟨hR,hN,hO,hM,c8,hP,cv ha,(am [1,0] hs z)⟩
  intro hU
  refine aa ab z fun hV=>m1 hU (fun _=>(aF [1,1,1,1] z))<|oN 10 z z fun hW=>cl (bp (a0:=a0) (a1:=k.1) (x0 (s0 c (s0 d (s0 b (s0 e (s0 f l))))) t) (x0 (s0 c (s0 d (s0 b (s0 e (s0 f l))))) v) (x0 (s0 b (s0 e (s0 f l))) M) e2) z z<|?_
  rintro _ hX _ ⟨hY,hZ,rfl,h0,rfl⟩ e3
  cases hm
  exact m1 hW (fun _=>(aG [1,1,1,1] e3 (s0 c (s0 d (s0 b (s0 e (s0 f l))))) z))<|tp 11 z (fun _=>x2 z) z z<|tp 12 z (fun _=>r0 z z) z z<|tp 13 z (fun _=>r0 z z) z z<|oN 15 z z fun h1=>sN s5 z z<|m1 h1 (fun h=>by cases h)<|tp 16 z (fun _=>w4 z) z z<|dn fun a w ha hs=>⟨hV,hY,hZ,hX,e3,h0,cv ha,(am [1,0] hs z)⟩
 rintro⟨c5,c6,c7,K,e4,h2,ha,hs⟩
 refine us ha hs<|oC hm (fun c9 h s=>∃d1,m3 K d1∧h [(10,.bool c9)]∧s d1 []) (fun c9 hm=>?_) fun c9 hm a w=>?_
 ·refine q0<|lk 0 s5 z z<|lk 1 s5 z z<|oS hm fun e5 h3 hm=>cl (bh (a0:=Q.1) (a1:=(DGraph.mk q.1 q.2.1)) (x0 e4 hC) h2 h3) z z<|?_
  rintro _ e6 _ ⟨rfl,rfl⟩ R
  rcases iS hm with⟨d2,hm⟩|⟨d2,hm⟩
  ·have h4:(e5)=true:=d2
   try rw [h4]
   refine mv z<|mw z z<|mw z z<|?_
   rcases iS hm with⟨d3,hm⟩|⟨d3,hm⟩
   ·refine yw (t3 d3 (w1 z z)) z z<|pt z<|mv z<|oS hm fun iJ h5 hm=>f5 _ (ah (Tab.mono (s0 c (s0 d (s0 b (s0 e (s0 f (s0 l (s0 e4 R))))))) hT) h5) z (A1 z) z en7.out z z z<|?_
    rintro _ h6 _ ⟨rfl,rfl⟩ h7
    cases hm
    exact pt z<|sg z<|u1 fun a w ha hs=>⟨h6,(s0 R h7),cv ha,(am [] hs z)⟩
   cases hm
   exact yw (s2 d3 (w1 z z)) z z<|pt z<|mv z<|un z z<|pf z<|sg z<|u1 fun a w ha hs=>⟨e6,R,cv ha,(am [] hs z)⟩
  have h8:(e5)=false:=w2 d2
  try rw [h8]
  cases hm
  exact mv z<|un z z<|un z z<|un z z<|pf z<|mv z<|un z z<|pf z<|sg z<|u1 fun a w ha hs=>⟨e6,R,cv ha,(am [] hs z)⟩
 rintro⟨d1,iK,ha,hs⟩
 cases hm
 exact us ha hs<|u2<|k0 z z ⟨z,z⟩ (aF [] z)
theorem m_law09_GraphMoves_sp {a0:DCore}{a1:DGraph}(hT:Tab F) (f:Fsl 64 KDData F m n a0.Datas) (i:Fsl 144 KDFun F o p a0.Funs) (j:Fsl 56 KDNode F q t a1.Nodes) (k:Fsl 8 (Kind.int .i64) F v x a4) (hm:m_law09_GraphMoves g a0 a1 a2 a3 a4=some r):
    CallSp Tryz.prog 3 #[.agg #[sl m a0.Datas n,sl o a0.Funs p],.agg #[iV a1.Root,sl q a1.Nodes t],iV a2,iV a3,sl v a4 x] F [] (fun u F' H'=>u=(.bool r)∧H'=[]):=by
 unfold m_law09_GraphMoves at hm
 refine f1 Tryz.func3 z z fun H I J=>ssr<|ba z fun K=>ba z fun L=>sg z<|snn<|oC hm (fun c h s=>∃d,m3 F d∧h [(10,.bool c)]∧s d []) (fun c hm=>?_) fun c hm a w=>?_
 ·refine q0<|lk 1 aX z z<|lk 0 s5 z z<|mv z<|oS hm fun l y hm=>cl (ew (a0:=a0) (a1:=a1) hT f i j k y) z z<|?_
  rintro _ A _ ⟨rfl,rfl⟩ b
  rcases iS hm with⟨e,hm⟩|⟨e,hm⟩
  ·have B:(l)=true:=e
   try rw [B]
   refine mv z<|yw (g5 1 aX z) z z<|yw (g5 0 s5 z) z z<|mw z z<|mw z z<|mw z z<|oS hm fun M C hm=>f5 _ (eu (a0:=a0) (a1:=a1) (Tab.mono b hT) (x0 b f) (x0 b i) (x0 b j) (x0 b k) C) z (A1 z) z en5.out z z z<|?_
   rintro _ D _ ⟨rfl,rfl⟩ E
   cases hm
   exact pt z<|sg z<|u1 fun a w ha hs=>⟨D,(s0 b E),cv ha,(am [] hs z)⟩
  have G:(l)=false:=w2 e
  try rw [G]
  cases hm
  exact mv z<|un z z<|un z z<|un z z<|un z z<|un z z<|un z z<|pf z<|sg z<|u1 fun a w ha hs=>⟨A,b,cv ha,(am [] hs z)⟩
 rintro⟨d,N,ha,hs⟩
 cases hm
 exact us ha hs<|u2<|k0 z z ⟨z,z⟩ (aF [] z)
end Go.Proofs.YtjkcinpmbgcgpaaGreatDoor
