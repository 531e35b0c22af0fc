/-
  Several texts in one, for one claim (printed by pack.py).
-/
import Derived.Test.YtdokipdchlcmeaaGreatPh9
import Derived.RegionTactic
set_option linter.all false
set_option maxRecDepth 100000
set_option maxHeartbeats 12800000
open And renaming intro→kX
open Array renaming getElem?_eq_some_iff→fX
open Bool renaming true→aO,false→aP,and_eq_true→je
open Go renaming World→aJ,Value→aN,Calls→aQ,Addr→aj,cell_of_row→bH,maxLen→bM,TypeId→bY,heap_alloc_new→cO,info_parts→dJ,Ending→dU,wpList_append_own→iZ,frozen_of_row→Jy
open Go.Calls renaming mono→tz
open Go.Ending renaming returned→aT
open Go.IntKind renaming i64→aF,wrap_i64→fg,u64→mN,wrap_u64→vB,bits→a0C
open Go.Obj renaming cells→aK
open Go.Proofs renaming intOf→af
open Go.Proofs.Tryz renaming prog→aM
open Go.RowKit renaming Below→aY,wrap64→fW
open Go.RowKit.Below renaming refl→aX,size→gV,trans→jy,alloc→rF
open Go.Value renaming int→aG,slice→aH,tuple→bB,pointer→bF,bool→bJ,agg→bQ,ownBlock→dy
open Go.World renaming ownsRow_nil→fh,frozen?→iK
open Int renaming le_refl→dM,le_trans→jz,le_of_eq→rU,mul_le_mul_of_nonneg_right→Lb
open List renaming length→aA,getElem_mem→cH,length_append→cN,take_length→cT,range→dR,mem_map→df,mem_cons_of_mem→dh,mem_cons→fE,take_succ_eq_append_getElem→fF,mem_append→gL,replicate→gR,getElem?_eq_getElem→iE,length_map→iV,mem_filter→jD,any_eq_true→kA,length_filter_le→qg,getD_eq_getElem?_getD→tA,mem_iff_getElem→tB,length_cons→uL,length_take→vD,mem_append_left→vE,pairwise_iff_getElem→vF,length_set→yL,map_cons→yM,getElem?_eq_some_iff→zR,mem_of_getElem?→zS,pairwise_map→BK,foldl_cons→Cr,length_replicate→Cs,getElem_modify→GM,mem_append_right→GN,pairwise_append→Lf,getElem_set→UF,getElem?_of_mem→a9v,getElem_cons_succ→a9w
open List.Pairwise renaming imp_of_mem→Oz,nil→U7
open Nat renaming le_refl→aa,zero_le→bK,le_trans→bz,lt_of_lt_of_le→cP,mul_le_mul→vG,mul_le_mul_right→Ec,add_mul→GX,add_zero→GY,div_add_mod→Li,mul_assoc→P4,pow_succ→P5,mul_right_comm→aAC,mul_zero→aAD
open Option renaming none→aB,some→aC,getD_some→P7
open Or renaming inl→aS
namespace Go.Proofs.YtdokipdchlcmeaaGreat
open Go.Proofs.Tryz Go.RowKit
structure a9e(C:Int)(g:Nat)(E:Dk)(n:Nat):Prop where
 jI:aw C (g+32*n) (hands E n)
 sm:Sm E (hands E n)
 keep:∀k m b,k≠1->k≠7->B (hands E n) k m b=B E k m b
 lk:∀y∈iX E n,yK E.x y/\aL y.n
 ll:aA (iX E n)<=16*n
 gs:∀N,∀G∈rq E N n,(∀y∈G,1<=y.n)/\aA G<=16
theorem aw.Vi {C:Int} {g:Nat} {E:Dk}(H:aw C g E)(hg:g+32*8<=90000):∀n,n<=aA E.x.ss->a9e C g E n/\∀k,k<n->Ov (hands E k) ((k:Int)+1)
 |0,_=>by refine⟨⟨H,Sm.refl E,λ_ _ _ _ _=>rfl,by simp [iX],by simp [iX],λN G hG=> ?_⟩,λk hk=>absurd hk (Nat.not_lt_zero _)⟩;have:G= []:=List.eq_of_mem_replicate hG;grind
 |n+1,hn=>by
  have jK:=H.hs.sl;obtain⟨A,O⟩:=aw.Vi H hg n (by omega);have hx:=A.sm.x;obtain⟨h1,h2,h3,h4,h5,h6,h7,h8⟩:=aG7 A.jI (s:=(n:Int)+1) (by rw [hx];omega) (by omega);refine⟨⟨?_,A.sm.trans h3,λk m b e1 e7=>(h4 k m b e1 e7).trans (A.keep k m b e1 e7), ?_, ?_, ?_⟩, ?_⟩
  ·rw [show g+32*(n+1)=g+32*n+32 by omega];exact h2
  ·intro y hy;have hy':=hy;rcases gL.1 hy' with h|h
   ·exact A.lk y h
   grind
  ·show aA (iX E n++oI (hands E n) ((n:Int)+1))<=_;rw [cN];have:=A.ll;omega
  ·intro N G hG;have hG':=hG;rcases List.mem_or_eq_of_mem_set hG' with h|h
   ·exact A.gs N G h
   grind
  grind
theorem aJ7 {D:Dk} {K:List Lg} {y:Lg}(h:y∈gg D K):y.a=0/\((∃z∈di D 0,z.m=y.m)\/∃z∈K,z.m=y.m):=by
 unfold gg Dn at h;split at h
 ·obtain⟨k,hk,rfl⟩:=df.1 h;refine⟨rfl, ?_⟩;obtain⟨z,hz,e⟩:=(RJ _ k).1 hk;rcases gL.1 hz with hz|hz
  ·grind
  right;unfold oV at hz;split at hz
  ·unfold rj at hz;split at hz
   ·obtain⟨q,hq,rfl⟩:=df.1 hz;grind [RJ]
   cases hz
  cases hz
 cases h
theorem a6t {D E:Dk}(hx:E.x=D.x)(hw:E.who=D.who)(h8:∀m,B E 8 m 0=B D 8 m 0)(h9:∀m,B E 9 m 0=B D 9 m 0)(h3:B E 3 0 0=B D 3 0 0)(h4:B E 4 0 0=B D 4 0 0):mE E=mE D:=by
 have e:ju E=ju D:=by
  have e1:iA E (aA E.x.ms)=iA D (aA D.x.ms):=by show (dR (aA E.x.ms)).map (λ(i:Nat)=>B E 8 ((i:Int)+1) 0)=(dR (aA D.x.ms)).map (λ(i:Nat)=>B D 8 ((i:Int)+1) 0);grind
  have e2:iG E (aA E.x.ms)=iG D (aA D.x.ms):=by show (dR (aA E.x.ms)).map (λ(i:Nat)=>B E 9 ((i:Int)+1) 0)=(dR (aA D.x.ms)).map (λ(i:Nat)=>B D 9 ((i:Int)+1) 0);grind
  show (⟨iA E (aA E.x.ms),aB,0,iG E (aA E.x.ms),aB,0,B E 3 0 0,B E 4 0 0⟩:cB)=⟨iA D (aA D.x.ms),aB,0,iG D (aA D.x.ms),aB,0,B D 3 0 0,B D 4 0 0⟩;rw [e1,e2,h3,h4]
 unfold mE;rw [e,hw]
structure aAL(C:Int)(g:Nat)(D:Dk)(K:List Lg):Prop where
 ok:P8 D K
 jI:aw (C+140737488355328) (g+400) (Ie D K)
 sm:Sm D (iz (dg D K) (j8 D K))
 aHi:mY D K≠ []->mE (Ie D K)=0
 g:(∀y∈j8 D K,1<=y.n)/\aA (j8 D K)<=144
 k:(∀y∈mY D K,1<=y.n)/\aA (mY D K)<=144
theorem aw.paid {C:Int} {g:Nat} {D:Dk}(H:aw C g D)(hh:D.h= []) {K:List Lg}(hK:∀y∈K,yK D.x y/\aL y.n)(hKl:aA K<=128)(hC:C+140737488355328<=4611686018427387904+1125899906842624)(hg:g+400<=90000):aAL C g D K:=by
 have G0:=H.DT 0;have ir:=H.hs.ml;have jK:=H.hs.sl;have zx:=H.house 0;have hB0:B D 1 0 0=balA (aA D.x.ms) (aA D.x.ss+1) D.l 1 0 0:=rfl;have ky:aA (gg D K)<=144:=by have h1:=a4w (di D 0) (oV D.x K);have h2:=Ya D.x K;have h3:=G0.len;show aA (Dn (di D 0) (oV D.x K))<=144;omega
 have Qg:∀y∈gg D K,(1<=y.m/\y.m<=(aA D.x.ms:Int))/\y.a=0:=λy hy=>by
  obtain⟨e,h⟩:=aJ7 hy;rcases h with⟨z,hz,e2⟩|⟨z,hz,e2⟩
  ·have:=(G0.each z hz).1.1;rw [e2] at this;exact⟨this,e⟩
  have:=(hK z hz).1.1;rw [e2] at this;exact⟨this,e⟩
 have N2:aL (iY (gg D K)):=SE _;have hs0:0<=iY (gg D K):=by
  unfold iY;split
  ·rename_i hc;have hW:=a8P (cE:=0) 0 (show jM 0 (gg D K)=0 by grind [jM]);have:=YI (λ_=>aO) (gg D K) hW.n0;grind [Kj]
  omega
 have hN:wA D K=max (iY (gg D K)-B D 1 0 0) 0:=Xa hs0 zx.1 N2;have tT:aL (wA D K):=by grind [aL]
 have W:=H.drawn hh tT hC;have MV:=W.steps _ (aa _);rw [cT] at MV;have K5:aw (C+140737488355328) (g+50) (dg D K):=MV.wide (dM _) hC (by have:=W.len;omega);have hx1:(dg D K).x=D.x:=W.sm.x;have aMh:=K5.house 0;have Va:B (dg D K) 1 0 0=balA (dg D K).x.ms.length ((dg D K).x.ss.length+1) (dg D K).l 1 0 0:=rfl;have hG:(∀y∈j8 D K,yK D.x y/\y.a=0)/\aA (j8 D K)<=144/\(∀a,oB a (j8 D K)<=B (dg D K) 1 0 a)/\(∀y∈mY D K,yK D.x y)/\aA (mY D K)<=144/\(mY D K≠ []->B (dg D K) 1 0 0<iY (gg D K)):=by
  by_cases hc:yS (B (dg D K) 1 0 0) (gg D K)=0
  ·have eg:j8 D K=jl (B (dg D K) 1 0 0) (gg D K):=by show zk (B (dg D K) 1 0 0) (gg D K)=_;unfold zk;rw [ifP hc]
   have ek:mY D K=js (B (dg D K) 1 0 0) (gg D K):=by show zl (B (dg D K) 1 0 0) (gg D K)=_;unfold zl;rw [ifP hc]
   have jY:dD (gg D K)=0:=by grind [yS]
   have s8:jM (B (dg D K) 1 0 0) (gg D K)=0:=by grind [jM]
   have P:=a7b s8 (λy hy=>(Qg y hy).2);rw [eg,ek];refine⟨λy hy=> ?_,bz P.gl ky,λa=> ?_,λy hy=> ?_,bz P.kl ky,λhne=> ?_⟩
   ·obtain⟨h1,h2,z,hz,e⟩:=P.g y hy;exact⟨⟨by grind,by rw [h2];omega,h1⟩,h2⟩
   ·rw [P.sum a];split
    ·grind
    exact(K5.house a).1
   ·obtain⟨h1,h2,z,hz,e⟩:=P.k y hy;exact⟨by grind,by rw [h2];omega,h1⟩
   have h:=λh'=>hne (P.em.2 h')
   grind [iY]
  have eg:j8 D K= []:=by show zk (B (dg D K) 1 0 0) (gg D K)=_;unfold zk;rw [ifN hc]
  have ek:mY D K= []:=by show zl (B (dg D K) 1 0 0) (gg D K)=_;unfold zl;rw [ifN hc]
  rw [eg,ek];exact⟨by simp,by simp,λa=>by simp only [oB];exact(K5.house a).1,by simp,by simp,λh=>absurd rfl h⟩
 obtain⟨g1,g2,g3,g4,g5,g6⟩:=hG;obtain⟨G1,S1,K1,_⟩:=aw.gives (j8 D K) K5 (λx hx=>by grind) g3;have vY:=G1 _ (aa _);rw [cT] at vY;have Mo:aw (C+140737488355328) (g+194) (iz (dg D K) (j8 D K)):=vY.wide (dM _) hC (by omega);have hsm:Sm D (iz (dg D K) (j8 D K)):=W.sm.trans S1;have hE:=aw.Pz (kd:=15) (.inr (.inr rfl)) (mY D K) Mo (λx hx=>by rw [hsm.x];exact⟨(g4 x hx).2.1,.inl (g4 x hx).2.2⟩);have KC:∀y∈j8 D K,y.n<=B (dg D K) 1 0 0:=λy hy=>by
  have h0:=g3 0;have:∀ {L:List Lg},(∀y∈L,1<=y.n/\y.a=0)->y∈L->y.n<=oB 0 L:=by
   intro L;induction L with
   |nil=>intro _ h;cases h
   |cons x L ih=>
    intro hh hx;have h0:=PZ (a:=0) (L:=L) (λz hz=>(hh z (dh _ hz)).1);have h1:=hh x (by simp);simp only [oB];rw [ifP h1.2];rcases fE.1 hx with rfl|hx
    ·omega
    have:=ih (λz hz=>hh z (dh _ hz)) hx;omega
  have:=this (λz hz=>⟨(g1 z hz).1.2.2,(g1 z hz).2⟩) hy;omega
 refine⟨⟨H.ok (by omega),by unfold aL;omega,by omega,λy hy=> ?_,λi=> ?_,by have:=G0.len;omega,λy hy=> ?_,by omega,λm hm=> ?_,tT,λk hk=>(W.steps k hk).ok (by have:=W.len;omega),W.dI,by have:=W.len;omega,by unfold aL;omega,λk hk=>(G1 k hk).ok (by omega),λy hy=> ?_,by omega,by have:=Mo.gl;omega,by omega⟩,hE.wide (dM _) hC (by omega),hsm,λhne=> ?_,⟨λy hy=>(g1 y hy).1.2.2,g2⟩,λy hy=>(g4 y hy).2.2,g5⟩
 ·have h:=hK y hy;have h1:=h.1.1;have h2:=h.1.2.1;grind [aL]
 ·unfold dX;split
  ·rename_i hs;have hs':1<=i/\i<=aA D.x.ss:=hs;have hl:(i-1).toNat<aA D.x.ss:=by omega
   have h1:=H.hs.sI _ (cH hl);rw [tA,iE hl];grind [aL]
  show aL 0;decide
 ·have:=(G0.each y hy).1.1;unfold aL;omega
 ·have:=H.who.pP m hm;unfold aL;omega
 ·have h:=(g1 y hy).1;have h1:=h.1;have h2:=h.2.1;have h3:=h.2.2;grind [aL]
 have hlt:=g6 hne;have e:mE (Ie D K)=mE (dg D K):=a6t (S1.x) (S1.who) (λm=>K1 8 m 0 (by decide) (by decide)) (λm=>K1 9 m 0 (by decide) (by decide)) (K1 3 0 0 (by decide) (by decide)) (K1 4 0 0 (by decide) (by decide));have e2:mE (dg D K)=mE D-min (max (wA D K) 0) (mE D):=W.room;have e3:B (dg D K) 1 0 0=B D 1 0 0+min (max (wA D K) 0) (mE D):=W.house;omega
theorem NU(f:Ob->Int)(g:Ob->Ob):∀(L:List Ob) (i:Nat) (x:Ob),L[i]? =aC x->dV f (L.modify i g)=dV f L-f x+f (g x)
 | [],i,x,h=>by simp at h
 |y::L,0,x,h=>by grind [dV]
 |y::L,i+1,x,h=>by have ih:=NU f g L i x (by simpa using h);grind [dV]
theorem mem_modify {L:List Ob} {i:Nat} {g:Ob->Ob} {y:Ob}(h:y∈L.modify i g):(∃k,k≠i/\L[k]? =aC y)\/∃x,L[i]? =aC x/\y=g x:=by
 obtain⟨k,hk,rfl⟩:=tB.1 h;have lz:k<aA L:=by simpa using hk
 rw [GM];split
 ·grind
 rename_i e;exact .inl ⟨k,λe'=>e e'.symm,iE lz⟩
theorem kg.uniq {M S:Nat} {ai:Int} {who:List Int} {L:List Ob}(h:kg M S ai who L) {i j:Nat} {x y:Ob}(hi:L[i]? =aC x)(hj:L[j]? =aC y)(ox:eZ x=aO)(oy:eZ y=aO)(hm:x.m=y.m)(ha:x.a=y.a):i=j:=by
 obtain⟨qL,rfl⟩:=zR.1 hi;obtain⟨WJ,rfl⟩:=zR.1 hj;have ho:=vF.1 h.ord;rcases Nat.lt_trichotomy i j with hlt|he|hlt
 ·have:=ho i j qL WJ hlt ox oy;omega
 ·exact he
 have:=ho j i WJ qL hlt oy ox;omega
theorem kg.a8I {M S:Nat} {ai:Int} {who:List Int} {L:List Ob}(h:kg M S ai who L) {x y:Ob}(hx:x∈L)(hy:y∈L)(ox:eZ x=aO)(oy:eZ y=aO)(hm:x.m=y.m)(ha:x.a=y.a):x=y:=by obtain⟨i,hi⟩:=a9v hx;obtain⟨j,hj⟩:=a9v hy;have:=h.uniq hi hj ox oy hm ha;grind
theorem kg.mod {M S:Nat} {ai:Int} {who:List Int} {L:List Ob}(h:kg M S ai who L) {i:Nat} {x:Ob} {g:Ob->Ob}(hx:L[i]? =aC x)(hm:(g x).m=x.m)(ha:(g x).a=x.a)(ho:eZ (g x)=aO->eZ x=aO)(FD:Lk M S ai who (g x))(dS:(g x).ok)(hc:∀a,qH a (g x)<=qH a x)(hd:∀a,vN a (g x)<=vN a x):kg M S ai who (L.modify i g):=by
 refine⟨λy hy=> ?_,λy hy=> ?_, ?_,λa=> ?_,λa=> ?_,by have:=h.len;simpa using this⟩
 ·rcases mem_modify hy with⟨k,_,hk⟩|⟨z,hz,rfl⟩
  ·exact h.each y (zS hk)
  grind
 ·rcases mem_modify hy with⟨k,_,hk⟩|⟨z,hz,rfl⟩
  ·exact h.ok y (zS hk)
  grind
 ·rw [vF];intro j k hj hk hjk o1 o2;have hj':j<aA L:=by simpa using hj
  have lz:k<aA L:=by simpa using hk
  obtain⟨hi',mV⟩:=zR.1 hx;rw [GM] at o1;rw [GM] at o2;rw [GM,GM];have fact:∀(q:Nat) (hq:q<aA L),(eZ (if i=q then g L[q] else L[q])=aO->eZ L[q]=aO)/\(if i=q then g L[q] else L[q]).m=L[q].m/\(if i=q then g L[q] else L[q]).a=L[q].a:=by grind
  rw [(fact j hj').2.1,(fact j hj').2.2,(fact k lz).2.1,(fact k lz).2.2];exact vF.1 h.ord j k hj' lz hjk ((fact j hj').1 o1) ((fact k lz).1 o2)
 ·rw [NU _ _ _ _ _ hx];have:=h.cl a;have:=hc a;omega
 rw [NU _ _ _ _ _ hx];have:=h.db a;have:=hd a;omega
theorem uh {x:Ob}:eZ x=aO↔x.st=1:=by grind [eZ]
theorem a2I {a:Int} {x:Ob}(h:x.st≠1):qH a x=0:=by grind [qH]
theorem a2d {a:Int} {x:Ob}(h:x.st≠1):vN a x=0:=by grind [vN]
theorem a2H(a:Int)(x:Ob):0<=qH a x:=by grind [qH]
theorem a2c(a:Int)(x:Ob):0<=vN a x:=by grind [vN]
theorem aFb {m a:Int} {L:List Ob}(h:L[dT m a L]? =aB):∀y∈L,eZ y=aO->¬(y.m=m/\y.a=a):=by grind [dT,yi,uh]
theorem kg.mark {M S:Nat} {ai:Int} {who:List Int} {L:List Ob}(h:kg M S ai who L) {m a s n:Int}(hs:2<=s/\s<=5)
 (hx:∀x∈L,eZ x=aO->x.m=m->x.a=a->0<=n/\n<=x.size/\(s=2->n=x.size)/\(s=3->hasB who m=aO/\(x.az<0->n=0)/\(0<x.az->n<x.az))/\((s=4\/s=5)->x.az<0/\n< -x.az/\(s=4->a≠0))):
 kg M S ai who (lW m a s n L)/\∀y∈lW m a s n L,eZ y=aO->y∈L/\¬(y.m=m/\y.a=a):=by
 cases hf:L[dT m a L]? with
 |none=>
  have e:lW m a s n L=L:=by unfold lW vw;rw [hf];rfl
  rw [e];exact⟨h,λy hy ho=>⟨hy,aFb hf y hy ho⟩⟩
 |some x=>
  obtain⟨ho,hm,ha⟩:=ML hf;have KN:=zS hf;obtain⟨h1,h2,h3,h4,h5⟩:=hx x KN ho hm ha;have e0:vw m a s n L=0:=by unfold vw;rw [hf];simp only;rw [ifN];omega
  have e:lW m a s n L=L.modify (dT m a L) (λx=> {x with st:=s,done:=n}):=by unfold lW;rw [ifP e0]
  have E:=h.each x KN;have K:=h.ok x KN;rw [e];refine⟨h.mod hf rfl rfl (λKG=>ho) ?_ ?_ (λb=> ?_) (λb=> ?_),λy hy oy=> ?_⟩
  ·refine⟨E.m,E.a,E.big,E.c,by grind,h3,λhs3=> ?_,λj6=> ?_⟩
   ·grind
   grind
  ·exact⟨K.lo,K.hi,K.ne,h1,h2⟩
  ·rw [a2I (show s≠1 by omega)];exact a2H b x
  ·rw [a2d (show s≠1 by omega)];exact a2c b x
  rcases mem_modify hy with⟨k,hk,hk2⟩|⟨z,hz,rfl⟩
  ·refine⟨zS hk2,λhma=>hk (h.uniq hk2 hf oy ho (hma.1.trans hm.symm) (hma.2.trans ha.symm))⟩
  rw [uh] at oy;grind
theorem a5w {m:Int}:∀ {L:List Lg},(∀y∈L,1<=y.n)->0<=ofV m L
 | [],_=>dM 0
 |y::L,h=>by have h1:=h y (by simp);have:=a5w (m:=m) (L:=L) (λz hz=>h z (dh _ hz));grind [ofV]
theorem aI4(a n dn:Int)(lost:Bool):2<=sL a n dn lost/\sL a n dn lost<=5:=by grind [sL]
theorem aw.obs {C:Int} {g:Nat} {D:Dk}(H:aw C g D) {cR:List Ob}(h:kg (aA D.x.ms) (aA D.x.ss) D.ai D.who cR):aw C g {D with ob:=cR}:=
 ⟨H.hs,H.bD,H.h8,H.hl,H.fl,H.lg,H.gl,H.who,h,H.bx,H.bl,H.st,H.ai⟩
theorem XL(GS:List (List Lg))(lost:List Lg):∀(L:List Ob) (E:Dk),sK GS lost E L= {E with ob:=(sK GS lost E L).ob}
 | [],E=>rfl
 |x::L,E=>by have ih:=XL GS lost L (FY GS lost E x);grind [sK,FY]
theorem a5V {GS:List (List Lg)} {lost:List Lg} {M S:Nat} {ai:Int} {who:List Int}(hG:∀G∈GS,∀y∈G,1<=y.n):∀(L:List Ob) (E:Dk),kg M S ai who E.ob->(∀x∈L,x.az<0/\∀y∈E.ob,eZ y=aO->y.m=x.m->y.a=x.a->y.az=x.az)->
 (∀k,k<=aA L->kg M S ai who (sK GS lost E (L.take k)).ob)/\∀y∈(sK GS lost E L).ob,eZ y=aO->y∈E.ob/\∀x∈L,¬(y.m=x.m/\y.a=x.a)
 | [],E,h,_=>⟨λk hk=>by have:k=0:=by simpa using hk
                        subst this;exact h,λy hy _=>⟨hy,by simp⟩⟩
 |x::L,E,h,hx=>by
  obtain⟨x1,x2⟩:=hx x (by simp);have Hw:0<=ofV x.m (GS.getD x.a.toNat []):=by refine a5w ?_;grind
  obtain⟨A1,A2⟩:=h.mark (m:=x.m) (a:=x.a) (s:=sL x.a (-x.az) (ofV x.m (GS.getD x.a.toNat [])) (decide (ofV x.m lost>0))) (n:=Bp (-x.az) (ofV x.m (GS.getD x.a.toNat []))) (aI4 _ _ _ _) (λy hy oy hm ha=>by grind [Ob.size,sL,Bp]);have ih:=a5V (lost:=lost) hG L (FY GS lost E x) A1 (λz hz=>⟨(hx z (dh _ hz)).1,λy hy oy hm ha=>(hx z (dh _ hz)).2 y (A2 y hy oy).1 oy hm ha⟩);refine⟨λk hk=> ?_,λy hy oy=> ?_⟩
  ·cases k with
   |zero=>exact h
   |succ k=>exact ih.1 k (by simpa using hk)
  obtain⟨b1,b2⟩:=ih.2 y hy oy;obtain⟨c1,c2⟩:=A2 y b1 oy;grind
theorem aD2 {M A:Nat} {l:List Int} {k m a:Int}(h:a<0):balA M A l k m a=0:=by grind [Gq,plcA]
theorem aw.leaves {C:Int} {g:Nat} {D:Dk}(H:aw C g D):∀k:Nat,k<=aA D.x.ss+1->aw C (g+k) (leaveD D k)/\Sm D (leaveD D k)/\(∀q m b,q≠1->q≠2->B (leaveD D k) q m b=B D q m b)/\(∀b:Int,b<(k:Int)->B (leaveD D k) 1 0 b=0)
 |0,_=>⟨H,Sm.refl D,λ_ _ _ _ _=>rfl,λb hb=>aD2 (by omega)⟩
 |k+1,hk=>by
  obtain⟨G,S,K,Z⟩:=aw.leaves H k (by omega);have hx:=S.x;have e:leaveD D (k+1)=leave1 (leaveD D k) (k:Int):=rfl;rw [e];by_cases h0:0<balA (leaveD D k).x.ms.length ((leaveD D k).x.ss.length+1) (leaveD D k).l 1 0 (k:Int)
  ·have e1:leave1 (leaveD D k) (k:Int)= {leaveD D k with l:=bj (leaveD D k) 1 0 2 0 (k:Int) (balA (leaveD D k).x.ms.length ((leaveD D k).x.ss.length+1) (leaveD D k).l 1 0 (k:Int)),log:=(leaveD D k).log++ [⟨16,0,(k:Int),balA (leaveD D k).x.ms.length ((leaveD D k).x.ss.length+1) (leaveD D k).l 1 0 (k:Int),0⟩]}:=by
    grind [leave1]
   obtain⟨_,G2,hd⟩:=G.goes (tk:=2) (tm:=0) (a:=(k:Int)) (n:=balA (leaveD D k).x.ms.length ((leaveD D k).x.ss.length+1) (leaveD D k).l 1 0 (k:Int)) (e:=⟨16,0,(k:Int),balA (leaveD D k).x.ms.length ((leaveD D k).x.ss.length+1) (leaveD D k).l 1 0 (k:Int),0⟩) (.inr ⟨rfl,rfl⟩) (by rw [hx];omega) (by omega) (dM _) ⟨rfl,rfl,rfl⟩;rw [e1];refine⟨G2,S.trans ⟨rfl,rfl,rfl,rfl,rfl,rfl,rfl,rfl,_,rfl,by simp⟩,λq m b h1 h2=> ?_,λb hb=> ?_⟩
   ·grind
   grind
  have e1:leave1 (leaveD D k) (k:Int)=leaveD D k:=by grind [leave1]
  rw [e1];refine⟨G.wide (dM _) H.bD.big (by omega),S,K,λb hb=> ?_⟩;by_cases hbk:b=(k:Int)
  ·subst hbk;have:=(G.house (k:Int)).1;grind
  exact Z b (by omega)
structure aAT(C:Int)(g:Nat)(D D':Dk):Prop where
 jI:aw (C+8*jc+140737488355328) (g+1700) D'
 x:D'.x=D.x
 who:D'.who=D.who
 ai:D'.ai=D.ai
 en:D'.en=D.en
 h:D'.h= []
 op:∀x∈D'.ob,eZ x=aO->False
 hz:∀a,a<=(aA D.x.ss:Int)->B D' 1 0 a=0
 bx:D'.bx= []
 st:D'.st=0
 lg:∃t,D'.log=D.log++t/\((∃e∈t,e.k=15)->mE D'=0)
theorem aw.done {C:Int} {g:Nat} {V:Dk}(h:aw C g V):aw C g {V with bx:= [],st:=0}:=
 ⟨h.hs,h.bD,h.h8,h.hl,h.fl,h.lg,h.gl,h.who,h.ob,by simp,by simp,by simp,h.ai⟩
theorem aw.rest {C:Int} {g:Nat} {D E:Dk}(H:aw C g E)(hS:Sm D E)(hh:D.h= [])(hst:∀x∈D.ob,eZ x=aO->x.az<0)(hC:C+140737488355328<=4611686018427387904+1125899906842624)(hg:g+700<=90000):
 a0Q E/\aw (C+140737488355328) (g+700) (pU E)/\(pU E).x=D.x/\(pU E).who=D.who/\(pU E).ai=D.ai/\(pU E).en=D.en/\(pU E).h= []/\(∀x∈(pU E).ob,eZ x=aO->False)/\(∀a,a<=(aA D.x.ss:Int)->B (pU E) 1 0 a=0)/\∃t,(pU E).log=D.log++t/\((∃e∈t,e.k=15)->mE (pU E)=0):=by
 have ir:=H.hs.ml;have jK:=H.hs.sl;obtain⟨A,O⟩:=H.Vi (by omega) (aA E.x.ss) (aa _);have MT:aw C (g+256) (nu E):=A.jI.wide (dM _) H.bD.big (by omega);have hAx:(nu E).x=E.x:=A.sm.x;have hAh:(nu E).h= []:=A.sm.h.trans (hS.h.trans hh);have P:=MT.paid hAh (K:=pV E) (λy hy=>by rw [hAx];exact A.lk y hy) (by have:=A.ll;show aA (iX E (aA E.x.ss))<=128;omega) hC (by omega);have Vh:(eV E).x=E.x:=P.sm.x.trans hAx;have a3t:(eV E).ob=D.ob:=P.sm.ob.trans (A.sm.ob.trans hS.ob);have aG5:(eV E).who=D.who:=P.sm.who.trans (A.sm.who.trans hS.who);have aG3:(eV E).ai=D.ai:=P.sm.ai.trans (A.sm.ai.trans hS.ai);have aG4:(eV E).en=D.en:=P.sm.en.trans (A.sm.en.trans hS.en);have hPh:(eV E).h= []:=P.sm.h.trans hAh;have aMW:(eV E).bx=D.bx:=P.sm.bx.trans (A.sm.bx.trans hS.bx);have hPc:aw (C+140737488355328) (g+656) (eV E):=P.jI.wide (dM _) hC (by omega);have QI:kg (eV E).x.ms.length (eV E).x.ss.length (eV E).ai (eV E).who (eV E).ob:=hPc.ob;have jY:∀x∈tM (eV E),x∈(eV E).ob/\eZ x=aO/\x.az<0:=λx hx=>by obtain⟨h1,h2⟩:=jD.1 hx;simp only [je,beq_iff_eq,decide_eq_true_eq] at h2;exact⟨h1,uh.2 h2.1,h2.2⟩
 have hGS:∀G∈tq E,(∀y∈G,1<=y.n)/\aA G<=144:=λG hG=>by
  rcases List.mem_or_eq_of_mem_set hG with h|h
  ·have:=A.gs _ G h;exact⟨this.1,by omega⟩
  subst h;exact P.g
 obtain⟨M1,M2⟩:=a5V (GS:=tq E) (lost:=CC E) (λG hG=>(hGS G hG).1) (tM (eV E)) (eV E) QI (λx hx=>by obtain⟨h1,h2,h3⟩:=jY x hx;exact⟨h3,λy hy oy hm ha=>by rw [QI.a8I hy h1 oy h2 hm ha]⟩);have hMk:∀k,k<=aA (tM (eV E))->aw (C+140737488355328) (g+656) (sK (tq E) (CC E) (eV E) ((tM (eV E)).take k)):=λk hk=>by rw [XL];exact hPc.obs (M1 k hk)
 have DX:iu E= {eV E with ob:=(iu E).ob}:=XL _ _ _ _;have hMc:aw (C+140737488355328) (g+656) (iu E):=by have:=hMk _ (aa _);rw [cT] at this;exact this
 have Ma:(iu E).x=E.x:=by rw [DX];exact Vh
 have hop:∀x∈(iu E).ob,eZ x=aO->False:=λy hy oy=>by
  obtain⟨h1,h2⟩:=M2 y hy oy;have hn:y.az<0:=by rw [a3t] at h1;exact hst y h1 oy
  refine h2 y (jD.2 ⟨h1, ?_⟩) ⟨rfl,rfl⟩;simp only [je,beq_iff_eq,decide_eq_true_eq];exact⟨uh.1 oy,hn⟩
 have L:=λk hk=>hMc.leaves k hk
 obtain⟨V1,V2,V3,V4⟩:=L ((iu E).x.ss.length+1) (aa _);obtain⟨V,hV⟩:∃V,V=leaveD (iu E) ((iu E).x.ss.length+1):=⟨_,rfl⟩;have hDV:pU E= {V with bx:= [],st:=0}:=by rw [hV];rfl
 rw [<-hV] at V1 V2 V3 V4;have hVc:aw (C+140737488355328) (g+700) V:=V1.wide (dM _) hC (by rw [Ma];omega);have hVx:V.x=E.x:=V2.x.trans Ma;rw [hDV];have hMl:(iu E).l=(eV E).l:=by rw [DX]
 have QB:∀k m b,B (iu E) k m b=B (eV E) k m b:=λk m b=>by rw [DX]
 have eG:aA (tq E)=aA (tq E):=rfl;refine⟨⟨by omega,O,λk hk=> ?_,P.ok, ?_,λx hx=> ?_,λk hk=>(hMk k hk).ok (by omega),λG hG=>by have:=(hGS G hG).2;omega,by have:=P.k.2;show aA (mY (nu E) (pV E))<=_;omega,λk hk=>(L k hk).1.ok (by rw [Ma] at hk;omega),λk hk=> ?_,by rw [Ma];omega⟩, ?_, ?_, ?_, ?_, ?_, ?_, ?_, ?_, ?_⟩
 ·have lz:=(H.Vi (by omega) k hk).1.ll;omega
 ·rw [a3t,<-hS.ob];exact(H.ob.fine H.ai.2).len
 ·obtain⟨h1,_,_⟩:=jY x hx;have h2:=(QI.each x h1).a;have h3:=QI.ok x h1;have h4:((eV E).x.ss.length:Int)=(aA E.x.ss:Int):=by rw [Vh]
  have h5:=h3.lo;have h6:=h3.hi;exact⟨h2.1,by omega,by unfold fw at h5;unfold aL;omega,h5⟩
 ·have G:=(L k (by omega)).1;have h1:=G.house (k:Int);have h2:=G.bD.big;have hx2:(leaveD (iu E) k).x=(iu E).x:=(L k (by omega)).2.1.x;have h3:B (leaveD (iu E) k) 1 0 (k:Int)=balA (iu E).x.ms.length ((iu E).x.ss.length+1) (leaveD (iu E) k).l 1 0 (k:Int):=by rw [<-hx2]
  have h4:0<=B (leaveD (iu E) k) 1 0 (k:Int)/\B (leaveD (iu E) k) 1 0 (k:Int)<=C+140737488355328:=h1;rw [<-h3];unfold aL;omega
 ·exact hVc.done
 ·exact hVx.trans hS.x
 ·show V.who=_;rw [V2.who,DX];exact aG5
 ·show V.ai=_;rw [V2.ai,DX];exact aG3
 ·show V.en=_;rw [V2.en,DX];exact aG4
 ·show V.h=_;rw [V2.h,DX];exact hPh
 ·intro x hx;have mV:x∈V.ob:=hx;rw [V2.ob] at mV;exact hop x mV
 ·intro a ha;exact V4 a (by rw [Ma,hS.x];omega)
 obtain⟨t1,e1,n1⟩:=hS.lg;obtain⟨t2,e2,n2⟩:=A.sm.lg;obtain⟨t3,e3,n3⟩:=P.sm.lg;obtain⟨t4,e4,n4⟩:=V2.lg;have eP:(eV E).log=(iz (dg (nu E) (pV E)) (j8 (nu E) (pV E))).log++(mY (nu E) (pV E)).map λx=>(⟨15,x.m,x.a,x.n,0⟩:Ev):=rfl
 have eM:(iu E).log=(eV E).log:=by rw [DX]
 refine⟨t1++t2++t3++((mY (nu E) (pV E)).map λx=>(⟨15,x.m,x.a,x.n,0⟩:Ev))++t4, ?_, ?_⟩
 ·show V.log=_;rw [show V.log=(iu E).log++t4 from e4,eM,eP,e3,show (nu E).log=E.log++t2 from e2,e1];simp only [List.append_assoc]
 rintro⟨e,he,hk⟩;have hne:mY (nu E) (pV E)≠ []:=by
  intro h0;rw [h0] at he;simp only [List.map_nil,List.append_nil,gL] at he;rcases he with ((he|he)|he)|he
  ·exact n1 e he hk
  ·exact n2 e he hk
  ·exact n3 e he hk
  exact n4 e he hk
 have h0:mE (eV E)=0:=P.aHi hne;rw [<-h0];have hw:V.who=(eV E).who:=by rw [V2.who,DX]
 refine a6t (hVx.trans Vh.symm) hw (λm=> ?_) (λm=> ?_) ?_ ?_
 ·exact(V3 8 m 0 (by decide) (by decide)).trans (QB 8 m 0)
 ·exact(V3 9 m 0 (by decide) (by decide)).trans (QB 9 m 0)
 ·exact(V3 3 0 0 (by decide) (by decide)).trans (QB 3 0 0)
 exact(V3 4 0 0 (by decide) (by decide)).trans (QB 4 0 0)
theorem aw.settled {C:Int} {g:Nat} {D:Dk}(H:aw C g D)(hh:D.h= [])(hst:∀x∈D.ob,eZ x=aO->x.az<0)(hC:C+8*jc+140737488355328<=4611686018427387904+1125899906842624)(hg:g+1700<=90000):
 UL D/\∀E,wH D (aA D.x.ss) E->aAT C g D (pU E):=by
 have jK:=H.hs.sl;have a4V:jc=140737488355328+549755813888:=rfl;have key:∀n E,n<=aA D.x.ss->wH D n E->aw (C+8*jc) (g+912) E/\Sm D E:=λn E hn hB=>by obtain⟨G,S⟩:=H.Pf hh (by omega) (by omega) hB hn;refine⟨G.wide ?_ (by omega) (by omega),S⟩;have:(n:Int)*jc<=8*jc:=Lb (by omega) (by omega);omega
 refine⟨⟨by omega,λn E hn hB=> ?_,λE hB=> ?_⟩,λE hB=> ?_⟩
 ·obtain⟨G,S⟩:=H.Pf hh (by omega) (by omega) hB (by omega);have h1:(n:Int)*jc+jc<=8*jc:=by
   have:((n:Int)+1)*jc<=8*jc:=Lb (by omega) (by omega);rw [Int.add_mul,Int.one_mul] at this;exact this
  exact G.aDI (S.h.trans hh) (s:=(n:Int)+1) (by rw [S.x];omega) (by omega) (by omega)
 ·obtain⟨G,S⟩:=key _ E (aa _) hB;exact(G.rest S hh hst (by omega) (by omega)).1
 obtain⟨G,S⟩:=key _ E (aa _) hB;obtain⟨_,h1,h2,h3,h4,h5,h6,h7,h8,h9⟩:=G.rest S hh hst (by omega) (by omega);exact⟨h1.wide (dM _) (by omega) (by omega),h2,h3,h4,h5,h6,h7,h8,rfl,rfl,h9⟩
theorem aw.tell {C:Int} {g:Nat} {D:Dk}(H:aw C g D) {e:Ev}(he:MH (aA D.x.ss) e)(hf:yT e=0):aw C (g+1) {D with log:=D.log++ [e]}:=by
 have gW:∀a,my (D.log++ [e]) a=B D 1 0 a:=λa=>by rw [DO,DR,H.fl a,hf];split<;>simp
 exact⟨H.hs,H.bD,H.h8,H.hl,gW,H.lg.snoc he (λa=>by rw [gW];have h5:=H.house a;have h6:=H.bD.big;exact⟨h5.1,by grind⟩),by show aA (D.log++ [_])<=g+1;rw [cN];have:=H.gl;simp;omega,H.who,H.ob,H.bx,H.bl,H.st,H.ai⟩
theorem aw.tells {C:Int}:∀(L:List Ev) {g:Nat} {D:Dk},aw C g D->(∀e∈L,MH (aA D.x.ss) e/\yT e=0)->aw C (g+aA L) {D with log:=D.log++L}
 | [],g,D,H,_=>by rw [List.append_nil];exact H
 |e::L,g,D,H,h=>by have ih:=aw.tells L (H.tell (h e (by simp)).1 (h e (by simp)).2) (λy hy=>h y (dh _ hy));grind
structure Sq(D D':Dk):Prop where
 x:D'.x=D.x
 l:D'.l=D.l
 h:D'.h=D.h
 bx:D'.bx=D.bx
 who:D'.who=D.who
 ai:D'.ai=D.ai
 st:D'.st=D.st
 en:D'.en=D.en
 lg:∃t,D'.log=D.log++t/\∀e∈t,e.k≠15
theorem Sq.refl(D:Dk):Sq D D:=⟨rfl,rfl,rfl,rfl,rfl,rfl,rfl,rfl,[],by simp,by simp⟩
theorem Sq.trans {D E F:Dk}(h:Sq D E)(h':Sq E F):Sq D F:=by obtain⟨t,e,ht⟩:=h.lg;obtain⟨t',e',AH⟩:=h'.lg;exact⟨h'.x.trans h.x,h'.l.trans h.l,h'.h.trans h.h,h'.bx.trans h.bx,h'.who.trans h.who,h'.ai.trans h.ai,h'.st.trans h.st,h'.en.trans h.en,t++t',by grind,λx hx=>(gL.1 hx).elim (ht x) (AH x)⟩
theorem aFR {x:Ob} {who:List Int}(h1:x.st=1)(h2:nV x who≠1):(nV x who=2/\0<x.az/\x.done=x.az/\vQ x who=x.done)\/(nV x who=3/\0<x.az/\x.done≠x.az/\vQ x who=x.done)\/(nV x who=3/\x.az<0/\hasB who x.m=aO/\vQ x who=0):=by grind [nV,vQ]
theorem a2O {E:Dk} {x:Ob}(h:x.st≠1\/nV x E.who=1):yR E x=E:=by grind [yR]
theorem aE9 {E:Dk} {x:Ob}:Sq E (yR E x):=by
 unfold yR;repeat' split
 ·exact Sq.refl E
 ·exact Sq.refl E
 ·exact⟨rfl,rfl,rfl,rfl,rfl,rfl,rfl,rfl,_,rfl,by simp⟩
 exact⟨rfl,rfl,rfl,rfl,rfl,rfl,rfl,rfl,[],by simp,by simp⟩
theorem aw.closes {C:Int}:∀(L:List Ob) {g:Nat} {E:Dk},aw C g E->
 (∀x∈L,x.ok/\(0<=x.a/\x.a<=(aA E.x.ss:Int))/\(x.st=1->(∀y∈E.ob,eZ y=aO->y.m=x.m->y.a=x.a->y=x)/\(0<x.az->x.done≠x.az->hasB E.who x.m=aO)))->
 (∀k,k<=aA L->aw C (g+k) (uR E (L.take k)))/\Sq E (uR E L)/\∀y∈(uR E L).ob,eZ y=aO->y∈E.ob/\∀x∈L,x.st=1->x.m=y.m->x.a=y.a->nV x E.who=1
 | [],g,E,H,_=>⟨λk hk=>by have:k=0:=by simpa using hk
                          subst this;exact H,Sq.refl E,λy hy _=>⟨hy,by simp⟩⟩
 |x::L,g,E,H,hx=>by
  have e:∀L',uR E (x::L')=uR (yR E x) L':=λ_=>rfl
  have hr:∀z∈L,z.ok/\(0<=z.a/\z.a<=(aA E.x.ss:Int))/\(z.st=1->(∀y∈E.ob,eZ y=aO->y.m=z.m->y.a=z.a->y=z)/\(0<z.az->z.done≠z.az->hasB E.who z.m=aO)):=λz hz=>hx z (dh _ hz)
  obtain⟨xo,xa,xu⟩:=hx x (by simp);by_cases hid:x.st≠1\/nV x E.who=1
  ·rw [e,a2O hid];obtain⟨I1,I2,I3⟩:=aw.closes L H hr;refine⟨λk hk=> ?_,I2,λy hy oy=> ?_⟩
   ·cases k with
    |zero=>exact H
    |succ k=>
     have:=I1 k (by simpa using hk);rw [List.take_succ_cons,e,a2O hid];exact this.wide (dM _) H.bD.big (by omega)
   grind
  have h1:x.st=1:=by omega
  have h2:nV x E.who≠1:=λh=>hid (.inr h)
  obtain⟨xu1,xu2⟩:=xu h1;have F:=aFR h1 h2;obtain⟨A1,A2⟩:=H.ob.mark (m:=x.m) (a:=x.a) (s:=nV x E.who) (n:=vQ x E.who) (by omega) (λy hy oy hm ha=>by
   have:=xu1 y hy oy hm ha;subst this;have d0:=xo.d0;have d1:=xo.d1;have hsz:0<y.az->y.size=y.az:=λh=>by unfold Ob.size;rw [ifN (by omega)]
   grind)
  have FD:(yR E x).ob=lW x.m x.a (nV x E.who) (vQ x E.who) E.ob:=by grind [yR]
  have G:aw C (g+1) (yR E x):=by
   have h3:=H.obs A1;unfold yR;rw [ifN (by omega),ifN h2];split
   ·exact h3.tell (e:=⟨9,x.m,x.a,-x.az,0⟩) ⟨xa.1,xa.2,.inl (by grind)⟩ rfl
   exact h3.wide (dM _) H.bD.big (by omega)
  have S:=aE9 (E:=E) (x:=x);obtain⟨I1,I2,I3⟩:=aw.closes L G (λz hz=>by obtain⟨z1,z2,z3⟩:=hr z hz;refine⟨z1,by rw [S.x];exact z2,λzs=> ?_⟩;obtain⟨z4,z5⟩:=z3 zs;rw [S.who];grind);rw [e];refine⟨λk hk=> ?_,S.trans I2,λy hy oy=> ?_⟩
  ·cases k with
   |zero=>exact H
   |succ k=>
    grind
  obtain⟨b1,b2⟩:=I3 y hy oy;rw [FD] at b1;obtain⟨c1,c2⟩:=A2 y b1 oy;refine⟨c1,λz hz hz1 hm ha=> ?_⟩;rcases fE.1 hz with rfl|hz
  ·omega
  have:=b2 z hz hz1 hm ha;rw [S.who] at this;exact this
theorem Vj {zs:List Int} {m:Int}:hasB zs m=aO↔m∈zs:=by grind [hasB]
theorem Lk.who {M S:Nat} {ai:Int} {w w':List Int} {x:Ob}(h:Lk M S ai w x)(hw:∀m∈w,m∈w'):Lk M S ai w' x:=
 ⟨h.m,h.a,h.big,h.c,h.st,h.a7K,λe=>⟨Vj.2 (hw _ (Vj.1 (h.o e).1)),(h.o e).2⟩,h.cmp⟩
theorem a3H {D:Dk} {m:Int}:m∈tO D↔∃x∈D.ob,x.st=1/\0<x.az/\x.done<x.az/\x.m=m:=by grind [tO,RY,BV]
structure a8d(C:Int)(g:Nat)(D:Dk):Prop where
 ok:Sh D
 jI:aw C (g+500) (qj D)
 x:(qj D).x=D.x
 l:(qj D).l=D.l
 h:(qj D).h=D.h
 bx:(qj D).bx=D.bx
 ai:(qj D).ai=D.ai
 st:(qj D).st=D.st
 en:(qj D).en=D.en
 lg:∃t,(qj D).log=D.log++t/\∀e∈t,e.k≠15
 op:∀y∈(qj D).ob,eZ y=aO->y.az<0
theorem aw.closed {C:Int} {g:Nat} {D:Dk}(H:aw C g D)(hg:g+500<=90000):a8d C g D:=by
 have ir:=H.hs.ml;have ky:=H.ob.len;have hcy:=H.ai;have hfw:Lv (aA D.x.ms) (tO D):=⟨a6A _,λm hm=>by obtain⟨x,hx,_,_,_,rfl⟩:=a3H.1 hm;exact(H.ob.each x hx).m⟩;have gW:=hfw.len;have hww:Lv (aA D.x.ms) (r9 (D.who++tO D)):=⟨a6A _,λm hm=>by
  rw [RY] at hm;rcases gL.1 hm with h|h
  ·exact H.who.pP m h
  exact hfw.pP m h⟩
 have Wu:∀m∈D.who,m∈r9 (D.who++tO D):=λm hm=>(RY _ _).2 (vE _ hm)
 have hoE:aA (sN D (tO D))<=16:=by grind [sN]
 have h0:aw C (g+16) (vz D):=by have h1:=(H.tells (sN D (tO D)) (λe he=>by obtain⟨m,_,rfl⟩:=df.1 he;exact⟨⟨dM _,by grind,.inr (.inr rfl)⟩,rfl⟩)).wide (dM _) H.bD.big (g':=g+16) (by omega);exact⟨h1.hs,h1.bD,h1.h8,h1.hl,h1.fl,h1.lg,h1.gl,hww,⟨λx hx=>(H.ob.each x hx).who Wu,H.ob.ok,H.ob.ord,H.ob.cl,H.ob.db,H.ob.len⟩,h1.bx,h1.bl,h1.st,h1.ai⟩
 have hL:∀x∈D.ob,x.ok/\(0<=x.a/\x.a<=((vz D).x.ss.length:Int))/\(x.st=1->(∀y∈(vz D).ob,eZ y=aO->y.m=x.m->y.a=x.a->y=x)/\(0<x.az->x.done≠x.az->hasB (vz D).who x.m=aO)):=λx hx=>by
  refine⟨H.ob.ok x hx,(H.ob.each x hx).a,λh1=>⟨λy hy oy hm ha=>H.ob.a8I hy hx oy (uh.2 h1) hm ha,λh2 h3=> ?_⟩⟩;have d1:=(H.ob.ok x hx).d1;have hsz:x.size=x.az:=by grind [Ob.size]
  exact Vj.2 ((RY _ _).2 (GN _ (a3H.2 ⟨x,hx,h1,h2,by omega,rfl⟩)))
 obtain⟨I1,I2,I3⟩:=h0.closes D.ob hL;have vY:=I1 _ (aa _);rw [cT] at vY;obtain⟨t,et,ht⟩:=I2.lg;refine⟨⟨H.ok (by omega),by omega,λk hk=>(I1 k hk).ok (by omega)⟩,vY.wide (dM _) H.bD.big (by omega),I2.x,I2.l,I2.h,I2.bx,I2.ai,I2.st,I2.en,⟨sN D (tO D)++t, ?_, ?_⟩,λy hy oy=> ?_⟩
 ·refine et.trans ?_;show D.log++sN D (tO D)++t=_;grind
 ·intro e he;rcases gL.1 he with h|h
  ·obtain⟨m,_,rfl⟩:=df.1 h;simp
  exact ht e h
 obtain⟨b1,b2⟩:=I3 y hy oy;have b1':=b1;have h1:=uh.1 oy;have hf:=b2 y b1' h1 rfl rfl;have hne:=(H.ob.ok y b1').ne;grind [nV]
structure a8h(C:Int)(g:Nat)(D D':Dk):Prop where
 jI:aw (C+140737488355328) (g+600) D'
 x:D'.x=D.x
 ai:D'.ai=D.ai
 en:D'.en=D.en
 h:D'.h= []
 op:∀y∈D'.ob,eZ y=aO->y.az<0
 bx:D'.bx=D.bx
 st:D'.st=2
 lg:∃t,D'.log=D.log++t/\∀e∈t,e.k≠15
theorem aw.aLV {C:Int} {g:Nat} {V:Dk}(h:aw C g V):aw C g {V with h:= []}:=
 ⟨h.hs,h.bD,by simp,by simp,h.fl,h.lg,h.gl,h.who,h.ob,h.bx,h.bl,h.st,h.ai⟩
theorem aw.state {C:Int} {g:Nat} {V:Dk}(h:aw C g V) {s:Int}(hs:0<=s/\s<=2):aw C g {V with st:=s}:=
 ⟨h.hs,h.bD,h.h8,h.hl,h.fl,h.lg,h.gl,h.who,h.ob,h.bx,h.bl,hs,h.ai⟩
theorem aw.due {C:Int} {g:Nat} {D:Dk}(H:aw C g D)(vk:qC D.h)(hC:C+140737488355328<=4611686018427387904+1125899906842624)(hg:g+600<=90000):Si D/\a8h C g D (oH D):=by
 have K:=H.closed (by omega);have h2:aw C (g+500) (gT D):=K.jI.aLV;have ir:=h2.hs.ml;have jK:=h2.hs.sl;have hg0:=(h2.DT 0).bd;have dF:=xY 0;have zx:=h2.house 0;have hdN:uT D=max (vS (gT D) 0-B (gT D) 1 0 0) 0:=by show pS (iY (di (gT D) 0)) (B (gT D) 1 0 0)=_;rw [h2.a7h 0];grind [Xa,aL]
 have tT:aL (uT D):=by grind [aL]
 have W:=h2.drawn rfl tT hC;have h3:=W.steps _ (aa _);rw [cT] at h3;have Hm:aw (C+140737488355328) (g+600) (ly (gT D) (uT D)):=h3.wide (dM _) hC (by have:=W.len;omega);have h4:aw (C+140737488355328) (g+600) (oH D):=Hm.state (by omega);have X2:(oH D).x=(gT D).x:=W.sm.x;refine⟨⟨K.ok,by rw [K.h];exact vk,h2.ok (by omega),by unfold aL;omega,by omega,λm hm=> ?_,tT,λk hk=>(W.steps k hk).ok (by have:=W.len;omega),W.dI,by have:=W.len;omega,h4.ok (by omega),by rw [X2];omega,λs hs=> ?_⟩,⟨h4,W.sm.x.trans K.x,W.sm.ai.trans K.ai,W.sm.en.trans K.en,W.sm.h,λy hy oy=> ?_,W.sm.bx.trans K.bx,rfl, ?_⟩⟩
 ·have:=h2.who.pP m hm;unfold aL;omega
 ·have:=h4.house ((s:Int)+1);unfold aL;omega
 ·have hy':y∈(ly (gT D) (uT D)).ob:=hy;rw [W.sm.ob] at hy';exact K.op y hy' oy
 obtain⟨t1,e1,n1⟩:=K.lg;obtain⟨t2,e2,n2⟩:=W.sm.lg;refine⟨t1++t2, ?_,λe he=>(gL.1 he).elim (n1 e) (n2 e)⟩;show (ly (gT D) (uT D)).log=_;grind [gT]
theorem aw.swap {C:Int} {g:Nat} {D:Dk}(H:aw C g D) {fk tk m n:Int} {e:Ev}(hk:(fk=7/\tk=8)\/(fk=8/\tk=7))(hm:1<=m/\m<=(aA D.x.ms:Int))(h1:1<=n)(h0:ug D fk m tk m 0 n=0)(hc:tk=8->B D 8 m 0+n<=1099511627776)(he:MH (aA D.x.ss) e)(hf:yT e=0):
 aw C (g+1) {D with l:=bj D fk m tk m 0 n,log:=D.log++ [e]}/\∀k q b,balA (aA D.x.ms) (aA D.x.ss+1) (bj D fk m tk m 0 n) k q b=balA (aA D.x.ms) (aA D.x.ss+1) D.l k q b+((if k=fk/\q=m/\b=0 then-n else 0)+(if k=tk/\q=m/\b=0 then n else 0)):=by
 have hi:∃i,plcA (aA D.x.ms) (aA D.x.ss+1) fk m 0=aC i:=Bx (by omega) hm (by omega) (by omega);have hj:∃i,plcA (aA D.x.ms) (aA D.x.ss+1) tk m 0=aC i:=Bx (by omega) hm (by omega) (by omega);obtain⟨i,hi⟩:=hi;obtain⟨j,hj⟩:=hj;have hd:=RT h0 H.bD.ok.len hi hj;have dS:nN (aA D.x.ms) (aA D.x.ss+1) (bj D fk m tk m 0 n):=nN.mv H.bD.ok H.hs.sl.2;have k1:∀b,balA (aA D.x.ms) (aA D.x.ss+1) (bj D fk m tk m 0 n) 1 0 b=balA (aA D.x.ms) (aA D.x.ss+1) D.l 1 0 b:=λb=>by grind
 have k2:∀b,balA (aA D.x.ms) (aA D.x.ss+1) (bj D fk m tk m 0 n) 2 0 b=balA (aA D.x.ms) (aA D.x.ss+1) D.l 2 0 b:=λb=>by grind
 have NI:∀q b,balA (aA D.x.ms) (aA D.x.ss+1) (bj D fk m tk m 0 n) 7 q b+balA (aA D.x.ms) (aA D.x.ss+1) (bj D fk m tk m 0 n) 8 q b=balA (aA D.x.ms) (aA D.x.ss+1) D.l 7 q b+balA (aA D.x.ms) (aA D.x.ss+1) D.l 8 q b:=λq b=>by grind
 have gW:∀b,my (D.log++ [e]) b=balA (aA D.x.ms) (aA D.x.ss+1) (bj D fk m tk m 0 n) 1 0 b:=λb=>by rw [DO,DR,H.fl b,hf,k1];split<;>omega
 refine⟨⟨H.hs,⟨dS, ?_, ?_, ?_, ?_, ?_, ?_, ?_,H.bD.big,H.bD.F0⟩,H.h8,H.hl,gW,H.lg.snoc he (λb=>by rw [gW];refine⟨dS.nn rfl 0 b, ?_⟩;rw [k1];have:=(H.house b).2;have:=H.bD.big;omega), ?_,H.who,H.ob,H.bx,H.bl,H.st,H.ai⟩,hd⟩
 ·intro q b;show balA (aA D.x.ms) (aA D.x.ss+1) (bj D fk m tk m 0 n) 8 q b<=_;rw [hd];have h8:=H.bD.tN q b;grind
 ·intro q b;show balA (aA D.x.ms) (aA D.x.ss+1) (bj D fk m tk m 0 n) 9 q b<=_;rw [hd,ifN (by omega),ifN (by omega)];have:=H.bD.zo q b;grind
 ·intro b;show balA (aA D.x.ms) (aA D.x.ss+1) (bj D fk m tk m 0 n) 3 0 b<=_;rw [hd,ifN (by omega),ifN (by omega)];have:=H.bD.AL b;grind
 ·intro b;show balA (aA D.x.ms) (aA D.x.ss+1) (bj D fk m tk m 0 n) 4 0 b<=_;rw [hd,ifN (by omega),ifN (by omega)];have:=H.bD.cap b;grind
 ·intro q b;show _<=balA (aA D.x.ms) (aA D.x.ss+1) (bj D fk m tk m 0 n) 7 q b+balA (aA D.x.ms) (aA D.x.ss+1) (bj D fk m tk m 0 n) 8 q b-balA (aA D.x.ms) (aA D.x.ss+1) (bj D fk m tk m 0 n) 1 0 b;rw [NI,k1];exact H.bD.lo q b
 ·intro q b;show balA (aA D.x.ms) (aA D.x.ss+1) (bj D fk m tk m 0 n) 7 q b+balA (aA D.x.ms) (aA D.x.ss+1) (bj D fk m tk m 0 n) 8 q b+balA (aA D.x.ms) (aA D.x.ss+1) (bj D fk m tk m 0 n) 1 0 b<=_;rw [NI,k1];exact H.bD.hi q b
 ·intro b;show balA (aA D.x.ms) (aA D.x.ss+1) (bj D fk m tk m 0 n) 2 0 b+balA (aA D.x.ms) (aA D.x.ss+1) (bj D fk m tk m 0 n) 1 0 b<=_;rw [k2,k1];exact H.bD.es b
 show aA (D.log++ [e])<=g+1;rw [cN];have:=H.gl;simp;omega
theorem RP {x:ak} {m:Int}(h:jb x m=0):1<=m/\m<=(aA x.ms:Int):=by
 unfold jb at h;split at h
 ·rename_i h';exact h'
 cases h
theorem Ry {x:ak} {a:Int}(h:jL x a=0):1<=a/\a<=(aA x.ss:Int):=by
 unfold jL at h;split at h
 ·rename_i h';exact h'
 cases h
theorem a5g {D:Dk} {m n:Int}(h:nk D m n=0):(1<=m/\m<=(aA D.x.ms:Int))/\1<=n:=by
 refine⟨?_,a5d h⟩;unfold nk at h;by_cases h0:jb D.x m=0
 ·exact RP h0
 omega
structure Cx(D D':Dk):Prop where
 x:D'.x=D.x
 h:D'.h=D.h
 ob:D'.ob=D.ob
 bx:D'.bx=D.bx
 ai:D'.ai=D.ai
 st:D'.st=D.st
 en:D'.en=D.en
 k1:∀b,B D' 1 0 b=B D 1 0 b
 k2:∀b,B D' 2 0 b=B D 2 0 b
 NI:∀q b,B D' 7 q b+B D' 8 q b=B D 7 q b+B D 8 q b
 lg:∃t,D'.log=D.log++t/\∀e∈t,e.k≠15
theorem Cx.refl(D:Dk):Cx D D:=⟨rfl,rfl,rfl,rfl,rfl,rfl,rfl,λ_=>rfl,λ_=>rfl,λ_ _=>rfl,[],by simp,by simp⟩
theorem a7y {D:Dk} {fk tk m n:Int} {e:Ev}(hk:(fk=7/\tk=8)\/(fk=8/\tk=7))(he:e.k≠15)(hd:∀k q b,balA (aA D.x.ms) (aA D.x.ss+1) (bj D fk m tk m 0 n) k q b=balA (aA D.x.ms) (aA D.x.ss+1) D.l k q b+((if k=fk/\q=m/\b=0 then-n else 0)+(if k=tk/\q=m/\b=0 then n else 0))):Cx D {D with l:=bj D fk m tk m 0 n,log:=D.log++ [e]}:=by
 refine⟨rfl,rfl,rfl,rfl,rfl,rfl,rfl,λb=> ?_,λb=> ?_,λq b=> ?_,[e],rfl,by simpa using he⟩
 ·grind
 ·grind
 grind
theorem aw.top {C:Int} {g:Nat} {D:Dk}(H:aw C g D)(m n:Int):aw C (g+1) (Aa D m n)/\Cx D (Aa D m n):=by
 by_cases h:E4 D m n=0
 ·have e:Aa D m n=Nt D m n:=by grind [Aa]
  rw [e];unfold E4 at h;have hm:nk D m n=0:=by omega
  rw [ifN (by rw [hm];simp)] at h;obtain⟨mR,hn⟩:=a5g hm;have hc8:=H.bD.tN m 0;have hn8:=H.bD.ok.nn (k:=8) rfl m 0;have hle:n<=1099511627776-balA (aA D.x.ms) (aA D.x.ss+1) D.l 8 m 0:=by grind [pS,XM]
  obtain⟨i,hi⟩:=Bx (M:=aA D.x.ms) (A:=aA D.x.ss+1) (k:=7) (.inl rfl) mR (a:=0) (by omega) (by omega);obtain⟨j,hj⟩:=Bx (M:=aA D.x.ms) (A:=aA D.x.ss+1) (k:=8) (.inr (.inl rfl)) mR (a:=0) (by omega) (by omega);have ho:=H.own m 0;have kp:=H.bD.big;have hh:=H.house 0;have h0:ug D 7 m 8 m 0 n=0:=NP hi hj (by omega) (by omega) (by unfold aL;omega) (.inl rfl) (by unfold aL;omega) (by unfold aL;omega) H.bD.ok.len;obtain⟨G,hd⟩:=H.swap (e:=⟨17,m,0,n,0⟩) (.inl ⟨rfl,rfl⟩) mR hn h0 (λ_=>by grind) ⟨dM _,by grind,.inl hn⟩ rfl;exact⟨G,a7y (.inl ⟨rfl,rfl⟩) (by simp) hd⟩
 have e:Aa D m n=D:=by grind [Aa]
 rw [e];exact⟨H.wide (dM _) H.bD.big (by omega),Cx.refl D⟩
theorem aw.take {C:Int} {g:Nat} {D:Dk}(H:aw C g D)(m n:Int):aw C (g+1) (AZ D m n)/\Cx D (AZ D m n):=by
 by_cases h:Fk D m n=0
 ·have e:AZ D m n=Ns D m n:=by grind [AZ]
  rw [e];unfold Fk at h;have hm:nk D m n=0:=by omega
  rw [ifN (by rw [hm];simp)] at h;obtain⟨mR,hn⟩:=a5g hm;obtain⟨G,hd⟩:=H.swap (e:=⟨18,m,0,n,0⟩) (.inr ⟨rfl,rfl⟩) mR hn h (λe=>by omega) ⟨dM _,by grind,.inl hn⟩ rfl;exact⟨G,a7y (.inr ⟨rfl,rfl⟩) (by simp) hd⟩
 have e:AZ D m n=D:=by grind [AZ]
 rw [e];exact⟨H.wide (dM _) H.bD.big (by omega),Cx.refl D⟩
structure ny(Cf:Int)(D:Dk):Prop where
 hd:∀a,B D 1 0 a=dV (oF a) D.ob
 lo:∀m a,-Cf<=B D 7 m a+B D 8 m a+dV (oD m a) D.ob
 hi:∀m a,B D 7 m a+B D 8 m a+dV (oD m a) D.ob<=Cf
 es:∀a,B D 2 0 a<=Cf
theorem Re {f f':Ob->Int}:∀ {L:List Ob},(∀x∈L,f x<=f' x)->dV f L<=dV f' L
 | [],_=>dM _
 |x::L,h=>by have h1:=h x (by simp);have ih:=Re (L:=L) (λy hy=>h y (dh _ hy));grind [dV]
theorem Du {f:Ob->Int} {L:List Ob}(h:∀x∈L,f x=0):dV f L=0:=by
 induction L with
 |nil=>rfl
 |cons x L ih=>
  grind [dV]
theorem a6G {f:Ob->Int} {L:List Ob}(h:∀x∈L,0<=f x):0<=dV f L:=by
 have:=Re (f:=λ_=>0) (f':=f) h
 rwa [Du (λ_ _=>rfl)] at this
theorem Jv {M S:Nat} {ai:Int} {who:List Int} {L:List Ob}(h:kg M S ai who L)(m a:Int):0<=dV (oD m a) L/\dV (oD m a) L<=dV (oF a) L/\dV (oF a) L<=288230376151711744:=by
 have h1:∀x∈L,0<=oD m a x:=λx hx=>by have:=(h.ok x hx).d0;unfold oD;split<;>omega
 have h2:∀x∈L,oD m a x<=oF a x:=λx hx=>by have:=(h.ok x hx).d0;grind [oD,oF]
 have h3:∀x∈L,oF a x<=vN a x:=λx hx=>by have d1:=(h.ok x hx).d1;grind [oF,vN,Ob.size]
 have:=h.db a;have:=xY a;have:=Re h3;exact⟨a6G h1,Re h2,by omega⟩
theorem ny.dr {Cf:Int} {D:Dk}(F:ny Cf D) {M S:Nat} {ai:Int} {who:List Int}(h:kg M S ai who D.ob):
 (∀m a,-(Cf+576460752303423488)<=B D 7 m a+B D 8 m a-B D 1 0 a)/\(∀m a,B D 7 m a+B D 8 m a+B D 1 0 a<=Cf+576460752303423488)/\∀a,B D 2 0 a+B D 1 0 a<=Cf+576460752303423488:=by
 refine⟨λm a=> ?_,λm a=> ?_,λa=> ?_⟩
 ·have:=Jv h m a;have:=F.lo m a;have:=F.hd a;omega
 ·have:=Jv h m a;have:=F.hi m a;have:=F.hd a;omega
 have:=Jv h 0 a;have:=F.es a;have:=F.hd a;omega
theorem ny.swp {Cf:Int} {D D':Dk}(F:ny Cf D)(S:Cx D D'):ny Cf D':=
 ⟨λa=>by rw [S.k1,S.ob];exact F.hd a,λm a=>by rw [S.NI,S.ob];exact F.lo m a,λm a=>by rw [S.NI,S.ob];exact F.hi m a,λa=>by rw [S.k2];exact F.es a⟩
section
structure Cv(D D':Dk):Prop where
 x:D'.x=D.x
 h:D'.h=D.h
 bx:D'.bx=D.bx
 ai:D'.ai=D.ai
 st:D'.st=D.st
 en:D'.en=D.en
 lg:∃t,D'.log=D.log++t/\∀e∈t,e.k≠15
theorem Cv.refl(D:Dk):Cv D D:=⟨rfl,rfl,rfl,rfl,rfl,rfl,[],by simp,by simp⟩
theorem a7N {D:Dk} {m a:Int}(h:oT D m a=0):(1<=m/\m<=(aA D.x.ms:Int))/\0<=a/\a<=(aA D.x.ss:Int):=by
 unfold oT at h;by_cases h0:jb D.x m=0
 ·refine⟨RP h0, ?_⟩;rw [ifN (by omega)] at h;by_cases ha:a=0
  ·omega
  rw [ifN ha] at h;have:=Ry h;omega
 omega
section
variable {C Cf:Int} {g:Nat} {D:Dk}
theorem kg.paid {M S:Nat} {ai:Int} {who:List Int} {L:List Ob}(h:kg M S ai who L) {m a d:Int} {x:Ob} {i:Nat}(hx:L[i]? =aC x)(ho:eZ x=aO)(hm:x.m=m)(ha:x.a=a)(hn:0<x.az)(h0:0<=x.done+d)(h1:x.done+d<=x.az):
 kg M S ai who (L.modify i λx=> {x with done:=x.done+d})/\(∀b,dV (oF b) (L.modify i λx=> {x with done:=x.done+d})=dV (oF b) L+if b=a then d else 0)/\∀q b,dV (oD q b) (L.modify i λx=> {x with done:=x.done+d})=dV (oD q b) L+if q=m/\b=a then d else 0:=by
 have hs:=uh.1 ho;have KN:=zS hx;have E:=h.each x KN;have K:=h.ok x KN;have hsz:x.size=x.az:=by grind [Ob.size]
 refine⟨h.mod hx rfl rfl (λo=>o) ⟨E.m,E.a,E.big,E.c,E.st,λe=> ?_,λe=> ?_,λe=> ?_⟩ ⟨K.lo,K.hi,K.ne,h0, ?_⟩ (λb=>dM _) (λb=>dM _),λb=> ?_,λq b=> ?_⟩
 ·grind
 ·grind
 ·grind
 ·show x.done+d<=x.size;omega
 ·grind [NU,oF]
 grind [NU,oD]
theorem aw.moved(H:aw (Cf+576460752303423488) g D)(F:ny Cf D) {m a d n fk fm tk tm:Int} {e:Ev} {cR:List Ob}(Ws:(1<=m/\m<=(aA D.x.ms:Int))/\0<=a/\a<=(aA D.x.ss:Int))(hk:(fk=7/\fm=m/\tk=1/\tm=0/\d=n)\/(fk=1/\fm=0/\tk=7/\tm=m/\d= -n))(h1:1<=n)
 (ho:kg (aA D.x.ms) (aA D.x.ss) D.ai D.who cR) (Hw:∀b,dV (oF b) cR=dV (oF b) D.ob+if b=a then d else 0) (hdm:∀q b,dV (oD q b) cR=dV (oD q b) D.ob+if q=m/\b=a then d else 0) (he:e.a=a/\e.n=n/\yT e=d):
 aw (Cf+576460752303423488) (g+1) {D with ob:=cR,l:=bj D fk fm tk tm a n,log:=D.log++ [e]}/\ny Cf {D with ob:=cR,l:=bj D fk fm tk tm a n,log:=D.log++ [e]}:=by
 have kp:=H.bD.big;have hha:=F.hd a;have Va:B D 1 0 a=balA (aA D.x.ms) (aA D.x.ss+1) D.l 1 0 a:=rfl;have hdb:=Jv H.ob m a;have aMi:=Jv ho m a;have aGM:=Hw a;rw [ifP rfl] at aGM;have Qf:=H.own m a;have hoh:=H.house a;obtain⟨ih,Qa⟩:=Nc (M:=aA D.x.ms) (A:=aA D.x.ss+1) Ws.2.1 (by omega);obtain⟨io,WG⟩:=Bx (M:=aA D.x.ms) (A:=aA D.x.ss+1) (k:=7) (.inl rfl) Ws.1 Ws.2.1 (by omega);have hP:∃i j,plcA (aA D.x.ms) (aA D.x.ss+1) fk fm a=aC i/\plcA (aA D.x.ms) (aA D.x.ss+1) tk tm a=aC j:=by grind
 obtain⟨i,j,hi,hj⟩:=hP;have h0:ug D fk fm tk tm a n=0:=by
  rcases hk with⟨rfl,rfl,rfl,rfl,hd⟩|⟨rfl,rfl,rfl,rfl,hd⟩
  ·exact NP hi hj (by omega) (by omega) (by unfold aL;omega) (.inl rfl) (by unfold aL;omega) (by unfold aL;omega) H.bD.ok.len
  exact NP hi hj (by omega) (by omega) (by unfold aL;omega) (.inr ⟨by omega,by rw [Vw H.h8 (by decide)];omega⟩) (by unfold aL;omega) (by unfold aL;omega) H.bD.ok.len
 have hd:=RT h0 H.bD.ok.len hi hj;have dS:nN (aA D.x.ms) (aA D.x.ss+1) (bj D fk fm tk tm a n):=nN.mv H.bD.ok H.hs.sl.2;have k1:∀b,balA (aA D.x.ms) (aA D.x.ss+1) (bj D fk fm tk tm a n) 1 0 b=balA (aA D.x.ms) (aA D.x.ss+1) D.l 1 0 b+if b=a then d else 0:=λb=>by grind
 have k7:∀q b,balA (aA D.x.ms) (aA D.x.ss+1) (bj D fk fm tk tm a n) 7 q b=balA (aA D.x.ms) (aA D.x.ss+1) D.l 7 q b-if q=m/\b=a then d else 0:=λq b=>by grind
 have ko:∀k q b,k≠1->k≠7->balA (aA D.x.ms) (aA D.x.ss+1) (bj D fk fm tk tm a n) k q b=balA (aA D.x.ms) (aA D.x.ss+1) D.l k q b:=λk q b e1 e7=>by grind
 have hF:ny Cf {D with ob:=cR,l:=bj D fk fm tk tm a n,log:=D.log++ [e]}:=by
  refine⟨λb=> ?_,λq b=> ?_,λq b=> ?_,λb=> ?_⟩
  ·have:=F.hd b;grind
  ·have:=F.lo q b;grind
  ·have:=F.hi q b;grind
  exact jz (rU (ko 2 0 b (by decide) (by decide))) (F.es b)
 obtain⟨r1,r2,r3⟩:=hF.dr ho;have gW:∀b,my (D.log++ [e]) b=balA (aA D.x.ms) (aA D.x.ss+1) (bj D fk fm tk tm a n) 1 0 b:=λb=>by rw [DO,DR,H.fl b,he.1,he.2.2,k1];omega
 refine⟨⟨H.hs,⟨dS, ?_, ?_, ?_, ?_,r1,r2,r3,H.bD.big,H.bD.F0⟩,H.h8,H.hl,gW,H.lg.snoc ⟨by omega,by omega,.inl (by rw [he.2.1];exact h1)⟩ (λb=>by rw [gW];refine⟨dS.nn rfl 0 b, ?_⟩;have h5:=(Jv ho m b).2.2;have h6:=hF.hd b;have h7:B {D with ob:=cR,l:=bj D fk fm tk tm a n,log:=D.log++ [e]} 1 0 b=balA (aA D.x.ms) (aA D.x.ss+1) (bj D fk fm tk tm a n) 1 0 b:=rfl;have h8:dV (oF b) ({D with ob:=cR,l:=bj D fk fm tk tm a n,log:=D.log++ [e]}:Dk).ob=dV (oF b) cR:=rfl;omega), ?_,H.who,ho,H.bx,H.bl,H.st,H.ai⟩,hF⟩
 ·intro q b;exact jz (rU (ko 8 q b (by decide) (by decide))) (H.bD.tN q b)
 ·intro q b;exact jz (rU (ko 9 q b (by decide) (by decide))) (H.bD.zo q b)
 ·intro b;exact jz (rU (ko 3 0 b (by decide) (by decide))) (H.bD.AL b)
 ·intro b;exact jz (rU (ko 4 0 b (by decide) (by decide))) (H.bD.cap b)
 show aA (D.log++ [e])<=g+1;rw [cN];have:=H.gl;simp;omega
theorem aw.pay(H:aw (Cf+576460752303423488) g D)(F:ny Cf D)(m a n:Int):
 aw (Cf+576460752303423488) (g+1) (pR D m a n 7 m 1 0 5 (j7 m a n D.ob) (kV m a n D.ob))/\ny Cf (pR D m a n 7 m 1 0 5 (j7 m a n D.ob) (kV m a n D.ob))/\Cv D (pR D m a n 7 m 1 0 5 (j7 m a n D.ob) (kV m a n D.ob)):=by
 unfold pR;by_cases hs:oT D m a≠0
 ·rw [ifP hs];exact⟨H.wide (dM _) H.bD.big (by omega),F,Cv.refl D⟩
 rw [ifN hs];by_cases hp:j7 m a n D.ob≠0
 ·rw [ifP hp];have e:kV m a n D.ob=D.ob:=by grind [kV]
  rw [e];exact⟨H.wide (dM _) H.bD.big (by omega),F,Cv.refl D⟩
 rw [ifN hp];have gX:j7 m a n D.ob=0:=by omega
 have e:kV m a n D.ob=D.ob.modify (dT m a D.ob) λx=> {x with done:=x.done+n}:=by grind [kV]
 cases hf:D.ob[dT m a D.ob]? with
 |none=>grind [j7]
 |some x=>
  unfold j7 at gX;rw [hf] at gX;simp only at gX;obtain⟨ho,hm,ha⟩:=ML hf;have K:=H.ob.ok x (zS hf);have hd0:=K.d0;by_cases c1:x.az<0
  ·omega
  rw [ifN c1] at gX;by_cases c2:n<1
  ·omega
  rw [ifN c2] at gX;by_cases c3:x.az-x.done<n
  ·omega
  obtain⟨A1,A2,A3⟩:=H.ob.paid (d:=n) hf ho hm ha (by omega) (by omega) (by omega);rw [e];obtain⟨G,F'⟩:=H.moved F (d:=n) (n:=n) (fk:=7) (fm:=m) (tk:=1) (tm:=0) (e:=⟨5,m,a,n,0⟩) (a7N (by omega)) (.inl ⟨rfl,rfl,rfl,rfl,rfl⟩) (by omega) A1 A2 A3 ⟨rfl,rfl,rfl⟩;exact⟨G,F',⟨rfl,rfl,rfl,rfl,rfl,rfl,_,rfl,by simp⟩⟩
theorem aw.aJu(H:aw (Cf+576460752303423488) g D)(F:ny Cf D)(m a n:Int):
 aw (Cf+576460752303423488) (g+1) (pR D m a n 1 0 7 m 6 (lG m a n D.ob) (nw m a n D.ob))/\ny Cf (pR D m a n 1 0 7 m 6 (lG m a n D.ob) (nw m a n D.ob))/\Cv D (pR D m a n 1 0 7 m 6 (lG m a n D.ob) (nw m a n D.ob)):=by
 unfold pR;by_cases hs:oT D m a≠0
 ·rw [ifP hs];exact⟨H.wide (dM _) H.bD.big (by omega),F,Cv.refl D⟩
 rw [ifN hs];by_cases hp:lG m a n D.ob≠0
 ·rw [ifP hp];have e:nw m a n D.ob=D.ob:=by grind [nw]
  rw [e];exact⟨H.wide (dM _) H.bD.big (by omega),F,Cv.refl D⟩
 rw [ifN hp];have gX:lG m a n D.ob=0:=by omega
 have e:nw m a n D.ob=D.ob.modify (dT m a D.ob) λx=> {x with done:=x.done+ -n}:=by grind [nw]
 cases hf:D.ob[dT m a D.ob]? with
 |none=>grind [lG]
 |some x=>
  unfold lG at gX;rw [hf] at gX;simp only at gX;obtain⟨ho,hm,ha⟩:=ML hf;have K:=H.ob.ok x (zS hf);have DY:=K.d1;by_cases c1:x.az<0
  ·omega
  rw [ifN c1] at gX;by_cases c2:n<1
  ·omega
  rw [ifN c2] at gX;by_cases c3:x.done<n
  ·omega
  have hsz:x.size=x.az:=by grind [Ob.size]
  obtain⟨A1,A2,A3⟩:=H.ob.paid (d:= -n) hf ho hm ha (by omega) (by omega) (by omega);rw [e];obtain⟨G,F'⟩:=H.moved F (d:= -n) (n:=n) (fk:=1) (fm:=0) (tk:=7) (tm:=m) (e:=⟨6,m,a,n,0⟩) (a7N (by omega)) (.inr ⟨rfl,rfl,rfl,rfl,rfl⟩) (by omega) A1 A2 A3 ⟨rfl,rfl,rfl⟩;exact⟨G,F',⟨rfl,rfl,rfl,rfl,rfl,rfl,_,rfl,by simp⟩⟩
theorem aDD {x:ak} {d:Bd}(hx:GK x)(h:nS x d=0):(1<=d.m/\d.m<=(aA x.ms:Int))/\(1<=d.c/\d.c<=(aA x.ss:Int))/\(1<=d.q/\d.q<=274877906944)/\1<=d.p/\d.p<=1048576:=by
 unfold nS at h;by_cases c1:Gt x d=aO
 ·grind
 rw [ifN c1] at h;by_cases c2:Gu x d=aO
 ·grind
 rw [ifN c2] at h;by_cases c3:Gv d=aO
 ·grind
 rw [ifN c3] at h;by_cases c4:Jq d=aO
 ·grind
 rw [ifN c4] at h;by_cases c5:Gw x d=aO
 ·grind
 have hm:jb x d.m=0:=by simpa [Gt] using c1
 have hs:jL x d.c=0:=by simpa [Gu] using c2
 have h3:¬(d.q<1\/d.p<1):=by simpa [Gv] using c3
 have h4:¬d.q>274877906944:=by simpa [Jq] using c4
 have h5:¬d.p>(dX x d.c).b:=by simpa [Gw] using c5
 have hc:=Ry hs;have hb:(dX x d.c).b<=1048576:=by
  unfold dX;rw [ifP (show th x d.c from hc)];have hl:(d.c-1).toNat<aA x.ss:=by omega
  rw [tA,iE hl];exact(hx.sI _ (cH hl)).2.2
 exact⟨RP hm,hc,by omega,by omega⟩
structure Bdd(D D':Dk):Prop where
 x:D'.x=D.x
 h:D'.h=D.h
 l:D'.l=D.l
 ob:D'.ob=D.ob
 ai:D'.ai=D.ai
 st:D'.st=D.st
 en:D'.en=D.en
 bx:D'.bx=D.bx\/D.st=2
 lg:∃t,D'.log=D.log++t/\∀e∈t,e.k≠15
theorem aw.M5(H:aw C g D)(d:Bd):aw C (g+1) (qF D d)/\Bdd D (qF D d):=by
 by_cases h:xD D d=0
 ·have e:qF D d=Pc D d:=by grind [qF]
  rw [e];unfold xD at h;by_cases hs:D.st≠2
  ·omega
  rw [ifN hs] at h;by_cases hb:nS D.x d≠0
  ·omega
  rw [ifN hb] at h;by_cases hw:hasB D.who d.m=aO
  ·grind
  rw [ifN hw] at h;by_cases hv:jO D d.c=0
  ·omega
  rw [ifN hv] at h;unfold xB at h;rw [ifN hb] at h;have hlen:¬D.x.bT<=(aA D.bx:Int):=λh'=>by omega
  have bP:=H.hs.bd;have I:=aDD H.hs (show nS D.x d=0 by omega);have G:=H.tell (e:=⟨11,d.m,d.c,d.q,(aA D.bx:Int)+1⟩) ⟨by show 0<=d.c;omega,I.2.1.2,.inl I.2.2.1.1⟩ rfl;refine⟨⟨G.hs,G.bD,G.h8,G.hl,G.fl,G.lg,G.gl,G.who,G.ob,λy hy=> ?_, ?_,G.st,G.ai⟩,⟨rfl,rfl,rfl,rfl,rfl,rfl,rfl,.inr (by omega),_,rfl,by simp⟩⟩
  ·have hy':=hy;rcases gL.1 hy' with h|h
   ·exact H.bx y h
   obtain rfl:=List.mem_singleton.1 h;exact⟨I.1,I.2.1,I.2.2.1,I.2.2.2,by grind [aL]⟩
  show aA (D.bx++ [_])<=32;grind
 have e:qF D d=D:=by grind [qF]
 rw [e];exact⟨H.wide (dM _) H.bD.big (by omega),⟨rfl,rfl,rfl,rfl,rfl,rfl,rfl,.inl rfl,[],by simp,by simp⟩⟩
end
end
def tZ(x:ak)(a:Int):Int:=if jL x a=0 then (dX x a).a else 1
def DL(D:Dk):List Ob:=D.ob.filter λx=>x.st==1&&(λx=>decide (0<x.az)) x
def Nh(x:ak)(m:Int)(n:Int)(o:Ob):Int:=if o.m=m then fW (n+fW (o.az*tZ x o.a)) else n
def Ff(x:ak)(m:Int)(L:List Ob):Int:=L.foldl (Nh x m) 0
def AV(D:Dk)(m:Int):Int:=Ff D.x m (DL D)
theorem aJy {x:ak} {m:Int} {L:List Ob} {k:Nat}(h:k<aA L):Ff x m (L.take (k+1))=Nh x m (Ff x m (L.take k)) L[k]:=by rw [fF h];unfold Ff;rw [List.foldl_append];rfl
theorem aF8(db:Nat)(p:Dp)(D:Dk)(m:Int)(w:aJ)(H:bW w db p D)(hO:fY D)(hI:∀x∈D.ob,aL x.a):
 aQ aM 58 #[π db,ν m] w λe w'=>e=aT (ν (AV D m))/\β w w':=by
 have HC:=η (λW (hW:β w W)=>(H.below hW).cells);have uI:Hid (aA D.ob<=1024):=η hO.ob.len;have zA:=η (aIV D.ob p.sv p.sb 0 w H.sh (by have:=uI.o;omega));have hde:(D.ob.filter λx=>x.st==1&&(λx=>decide (0<x.az)) x)=DL D:=rfl;rw [hde] at zA;have Tj:Hid (AV D m=Ff D.x m (DL D)):=η rfl;have aMj:aA (DL D)<=1024:=bz (qg _ _) uI.o;have TI:Hid (∀x∈DL D,aL x.a):=η (λx hx=>hI x (jD.1 hx).1);have pA:=η (λW (hW:β w W) a (ha:aL a)=>Nj D.x a W (H.below hW).src ha);have c9:=H.cells.c9;generalize AV D m=R at*;unfold ak.val at pA;generalize DL D=L at*;go_enter func58,ntmps58
 go_upto_region 3 with (go_at_call 116;refine zA.o.mono ?_;rintro e w1 ⟨v1,rfl,eK,hb1⟩;obtain⟨A1,k1,AJ⟩:=bL eK;subst AJ;have cX:=η (aW.cA eK);have aR:=η hb1)
 clear zA c9;go_loopw [5,7,8,9,10,17] (λn _ _ _ _ i wr=>∃k:Nat,k<=aA L/\i=ν (k:Int)/\n=ν (Ff D.x m (L.take k))/\Hid (β w1 wr)) (λ_ _ _ _ _ i _=>aA L-(af i).toNat)
 case atStart=>exact⟨0,bK _,rfl,rfl,η (aX _ _)⟩
 case round=>
  skip
  obtain⟨k,hk,rfl,rfl,HB⟩:=hrel;by_cases hlt:k<aA L
  ·obtain⟨bl,ol,jn,hbl,l0,l1,l2,l3,l4,l5⟩:=vx ((cX.o.below HB.o).mono HB.o.size) hlt;have eY:(0:Int)<=(k:Int):=by omega
   have hkb:(k:Int)<(aA L:Int):=by omega
   have HL:=η (aJy (x:=D.x) (m:=m) hlt);have Ot:=η (TI.o _ (cH hlt));subst jn;generalize Ff D.x m (L.take k)=n at*;generalize L[k]=x at*;obtain⟨xc,xm,xa,xn,xd,xs⟩:=x;simp only at l0 l1 l2 l3 l4 l5;have lT:Hid (Nh D.x m n ⟨xc,xm,xa,xn,xd,xs⟩=if xm=m then fW (n+fW (xn*tZ D.x xa)) else n):=η rfl;have gJ:Hid (β wr (wr.alloc (aK #[ν xc,ν xm,ν xa,ν xn,ν xd,ν xs] 59))):=η σ;have qZ:Hid ((wr.alloc (aK #[ν xc,ν xm,ν xa,ν xn,ν xd,ν xs] 59)).heap[wr.heap.size]? =aC (aK #[ν xc,ν xm,ν xa,ν xn,ν xd,ν xs] 59 (0,0))):=η (cO wr _);have vr:wr.heap.size<(wr.alloc (aK #[ν xc,ν xm,ν xa,ν xn,ν xd,ν xs] 59)).heap.size:=by simp
   go_upto_region 5 with (fail)
   generalize wr.alloc (aK #[ν xc,ν xm,ν xa,ν xn,ν xd,ν xs] 59)=w6 at*;obtain⟨bx,bU⟩:∃bx,bx=wr.heap.size:=⟨_,rfl⟩;rw [<-bU] at qZ vr ⊢;clear bU l0 l1 l2 l3 l4 l5;have cC:Hid (β w1 w6):=η (HB.o.trans (gJ.o.mono HB.o.size));have fL:Hid (∀W,β w6 W->W.cell? ⟨bx,1,aB⟩=aC (ν xm)/\W.cell? ⟨bx,2,aB⟩=aC (ν xa)/\W.cell? ⟨bx,3,aB⟩=aC (ν xn)):=η (λW hW=>by have hd:=(hW.block bx vr).trans qZ.o;exact⟨ρ hd,ρ hd,ρ hd⟩);have e1:=(fL.o _ (aX _ _)).1;clear HB gJ qZ;by_cases h1:xm=m
   case neg=>
    have hb:(xm==m)=aP:=by simpa using h1
    rw [ifN h1] at lT;clear h1;go_wp2_with fail
    go_roundw
    case rel=>exact⟨k+1,by omega,by go_num,by rw [HL.o,lT.o],cC⟩
    case measure=>simp [af];omega
   subst h1;rw [ifP rfl] at lT;have eI:Hid (∀W,β w6 W->β w W):=η (λW hW=>aR.o.trans ((cC.o.trans (hW.mono cC.o.size)).mono aR.o.size));have rP:Hid (∀W,β w6 W->W.cell? ⟨db,0,aB⟩=aC (aH D.x.Am (aA D.x.ms) D.x.cm)/\W.cell? ⟨db,1,aB⟩=aC (aH D.x.As (aA D.x.ss) D.x.cs)/\W.cell? ⟨db,2,aB⟩=aC (aH D.x.Ac (aA D.x.cy) D.x.cc)/\W.cell? ⟨db,3,aB⟩=aC (ν D.x.line)/\W.cell? ⟨db,4,aB⟩=aC (ν D.x.bV)/\W.cell? ⟨db,5,aB⟩=aC (ν D.x.lead)/\W.cell? ⟨db,6,aB⟩=aC (ν D.x.tr)/\W.cell? ⟨db,7,aB⟩=aC (ν D.x.bT)/\W.cell? ⟨bx,2,aB⟩=aC (ν xa)):=η (λW hW=>by have c:=HC.o W (eI.o W hW);exact⟨c.c0,c.c1,c.c2,c.c3,c.c4,c.c5,c.c6,c.c7,(fL.o W hW).2.1⟩);go_upto_region 7 with (fail)
   have bP:β w6 w6.drew:=(aX _ _).drew;have hdd:=rP.o _ bP;clear e1;go_region_held3 (λW=>W.cell? ⟨db,0,aB⟩=aC (aH D.x.Am (aA D.x.ms) D.x.cm)/\W.cell? ⟨db,1,aB⟩=aC (aH D.x.As (aA D.x.ss) D.x.cs)/\W.cell? ⟨db,2,aB⟩=aC (aH D.x.Ac (aA D.x.cy) D.x.cc)/\W.cell? ⟨db,3,aB⟩=aC (ν D.x.line)/\W.cell? ⟨db,4,aB⟩=aC (ν D.x.bV)/\W.cell? ⟨db,5,aB⟩=aC (ν D.x.lead)/\W.cell? ⟨db,6,aB⟩=aC (ν D.x.tr)/\W.cell? ⟨db,7,aB⟩=aC (ν D.x.bT)/\W.cell? ⟨bx,2,aB⟩=aC (ν xa)) (first|(with_reducible assumption)|(refine rP.o _ (rF (by with_reducible assumption) (gV (by with_reducible assumption)) _))|(refine rP.o _ (uQ _ (uQ _ (rF (by with_reducible assumption) (gV (by with_reducible assumption)) _) (gV (by with_reducible assumption))) (gV (by with_reducible assumption))))|(refine rP.o _ (uQ _ (uQ _ (by with_reducible assumption) (aa _)) (aa _)))) (first|(go_at_call 117;refine(pA.o _ (eI.o _ (by with_reducible assumption)) xa Ot.o).mono ?_;rintro e w7 ⟨rfl,fP⟩;have dW:β w6 w7:=jy (by with_reducible assumption) (fP.mono (gV (by with_reducible assumption)));have hcc:=rP.o _ dW;have gF:=(fA fP).1;have hbf:=(fA fP).2)|(go_at_call 117;refine(pA.o _ (eI.o _ (rF (by with_reducible assumption) (gV (by with_reducible assumption)) _)) xa Ot.o).mono ?_;rintro e w7 ⟨rfl,fP⟩;have dW:β w6 w7:=jy (rF (by with_reducible assumption) (gV (by with_reducible assumption)) _) (fP.mono (gV (rF (by with_reducible assumption) (gV (by with_reducible assumption)) _)));have hcc:=rP.o _ dW;have gF:=(fA fP).1;have hbf:=(fA fP).2))
   all_goals
    first
    |(have hbl:=rF dW dW.size (aK #[ν (dX D.x xa).a,ν (dX D.x xa).b] 69)
      have ew:=η hbl;have e3:=(fL.o _ hbl).2.2;by_cases h2:jL D.x xa=0
      ·have G9:Hid (tZ D.x xa=(dX D.x xa).a):=η (by unfold tZ;rw [ifP h2]);go_wp2_with fail
       go_roundw
       case rel=>exact⟨k+1,by omega,by go_num,(by rw [HL.o,lT.o,G9.o];try simp),η (cC.o.trans (ew.o.mono cC.o.size))⟩
       case measure=>simp [af];omega
      have G9:Hid (tZ D.x xa=1):=η (by unfold tZ;rw [ifN h2]);go_wp2_with fail
      go_roundw
      case rel=>exact⟨k+1,by omega,by go_num,(by rw [HL.o,lT.o,G9.o];try simp),η (cC.o.trans (ew.o.mono cC.o.size))⟩
      case measure=>simp [af];omega)
    |(have hbl:=uQ (i:=1) (ν (dX D.x xa).b) (uQ (b:=w6.heap.size) (i:=0) (ν (dX D.x xa).a) dW (aa _)) (aa _)
      have ew:=η hbl;have e3:=(fL.o _ hbl).2.2;by_cases h2:jL D.x xa=0
      ·have G9:Hid (tZ D.x xa=(dX D.x xa).a):=η (by unfold tZ;rw [ifP h2]);go_wp2_with fail
       go_roundw
       case rel=>exact⟨k+1,by omega,by go_num,(by rw [HL.o,lT.o,G9.o];try simp),η (cC.o.trans (ew.o.mono cC.o.size))⟩
       case measure=>simp [af];omega
      have G9:Hid (tZ D.x xa=1):=η (by unfold tZ;rw [ifN h2]);go_wp2_with fail
      go_roundw
      case rel=>exact⟨k+1,by omega,by go_num,(by rw [HL.o,lT.o,G9.o];try simp),η (cC.o.trans (ew.o.mono cC.o.size))⟩
      case measure=>simp [af];omega)
  obtain rfl:k=aA L:=by omega
  rw [cT];go_wp2_with fail
  go_ret;exact⟨cj Tj.o.symm,aR.o.trans (HB.o.mono aR.o.size)⟩
def Xh(E:Dk)(m:Int):Dk:= {E with h:=E.h++ [⟨m,8,m,0,min (CH E m) (AV E m)⟩]}
def lA(E:Dk):Nat->Dk
 |0=>E
 |k+1=>Xh (lA E k) ((k:Int)+1)
def lX(D:Dk)(L:List Lg):Int:=
 if D.st≠0 then 11 else if (aA D.x.cy:Int)<=D.ai then 6 else if mC D.x L≠0 then mC D.x L else if oU (gZ L) (dR (aA D.x.ss+1)) 0≠0 then oU (gZ L) (dR (aA D.x.ss+1)) 0 else rA (D.ai+1) (gZ L) D.ob
def Fa(D:Dk)(L:List Lg):Dk:= {D with ob:=nr (D.ai+1) (gZ L) D.ob,ai:=D.ai+1,st:=1}
def Bu(D:Dk)(L:List Lg):Dk:=kE (Fa D L) 4 (gZ L)
def Ds(D:Dk)(L:List Lg):Dk:=lA (Bu D L) (aA D.x.ms)
def xe(D:Dk)(L:List Lg):Dk:=if lX D L=0 then Ds D L else D
structure PA(E:Dk)(m:Int):Prop where
 ok:fY E
 mI:aL m
 aI:∀x∈E.ob,aL x.a
 up:qC E.h
 pos:Dx E.h m=aA E.h
 is:vu E.h m=aP
 room:aA E.h<aA E.x.ms
 ms:aA E.x.ms<=100000
 n0:0<=min (CH E m) (AV E m)
 Na:plcA (aA E.x.ms) (aA E.x.ss+1) 8 m 0≠aB
 bI:aL (balA (aA E.x.ms) (aA E.x.ss+1) E.l 8 m 0-iP E.h 8 m 0)
 le:min (CH E m) (AV E m)<=balA (aA E.x.ms) (aA E.x.ss+1) E.l 8 m 0-iP E.h 8 m 0
structure UI(D:Dk)(L:List Lg):Prop where
 ok:fY D
 ml:aA D.x.ms<=100000
 sl:aA D.x.ss<=100000
 cI:aL D.ai/\D.ai<=1000
 nl:aA (gZ L)<=2000
 good:lX D L=0->∀k,k<aA D.x.ms->PA (lA (Bu D L) k) ((k:Int)+1)
theorem a5m {x:ak} {L:List Lg}(h:mC x L=0):∀y∈gZ L,aL y.n:=by
 intro y hy;unfold gZ mD at hy;obtain⟨q,hq,rfl⟩:=df.1 hy;have tU:=(jD.1 hq).1;unfold mC at h;split at h
 ·cases h
 split at h
 ·rename_i h2;exact absurd h h2
 split at h
 ·cases h
 rename_i h3;by_cases hI:aL (sM L q)
 ·exact hI
 exact absurd (kA.2 ⟨q,tU,by rw [(gw hI).2];rfl⟩) h3
theorem bW.a2W {w:aJ} {db:Nat} {p:Dp} {D:Dk}(H:bW w db p D)(s:Int):cu db p p {D with ai:=s} w (w.setCell ⟨db,12,aB⟩ (aG aF s)):=
 ⟨H.Ph 12 (ν s) rfl rfl rfl rfl rfl rfl ⟨rfl,rfl,rfl,rfl,rfl,rfl,rfl⟩ H.who H.log,rfl,rfl,rfl,rfl,(bC.refl _ _).setCell (p:=⟨db,12,aB⟩) (.inl (.inl rfl)) _,λ_ h=> .inl h⟩
theorem VC(db:Nat)(p:Dp)(D:Dk)(L:List Lg)(A:Option aj)(c:Nat)(w:aJ)(H:bW w db p D)(hs:aW w w.heap.size A (bA L))(hI:∀y∈L,y.ok)(hl:aA L<=100000)(P:UI D L):
 aQ aM 26 #[π db,aH A (aA L) c] w λe w'=>e=aT (ν (lX D L))/\aq db p (xe D L) w w':=by
 have hb0:β w (w.alloc (aK #[ν 0] 3)):=(aX _ _).alloc (aa _) _;have jR:=η (Ju db p D 0 (aC ⟨w.heap.size,0,aB⟩) 1 _ (H.below hb0) (λj u hu=>⟨w.heap.size,0,rfl,by simp,by
  match j,hu with
  |0,hu=>exact(cL w #[ν 0] 3 0 rfl).trans (by simpa using hu)
  |j+1,hu=>simp at hu⟩))
 have HF:=η H;have HP:=η P;have aZ:=η hb0;have HE:Hid (lX D L=if D.st≠0 then 11 else if (aA D.x.cy:Int)<=D.ai then 6 else if mC D.x L≠0 then mC D.x L else if oU (gZ L) (dR (aA D.x.ss+1)) 0≠0 then oU (gZ L) (dR (aA D.x.ss+1)) 0 else rA (D.ai+1) (gZ L) D.ob):=η rfl;have yz:Hid (∀er,lX D L=er->er≠0->∀W,aq db p D w W->(aT (ν er)=aT (ν (lX D L)))/\aq db p (xe D L) w W):=η (λer h hn W hW=>by
  have e1:xe D L=D:=by unfold xe;rw [ifN (by rw [h];exact hn)]
  rw [e1,h];exact⟨rfl,hW⟩)
 have TE:Hid (lX D L=0->∀W,aq db p (Ds D L) w W->(aT (ν 0)=aT (ν (lX D L)))/\aq db p (xe D L) w W):=η (λh W hW=>by
  have e1:xe D L=Ds D L:=by unfold xe;rw [ifP h]
  rw [e1,h];exact⟨rfl,hW⟩)
 have qU:=η (λW (hW:β w W)=>aIN D.x L A c W (H.below hW).src ((hs.below hW).mono hW.size) hI hl);have HC:=η (λW (hW:β w W)=>(H.below hW).cells);have y9:Hid (lX D L=0->∀k,k<aA D.x.ms->PA (lA (Bu D L) k) ((k:Int)+1)):=η P.good;have HXE:Hid ((Bu D L).x=D.x):=η rfl;have HTE:Hid (Bu D L=kE (Fa D L) 4 (gZ L)):=η rfl;have qT:Hid (Fa D L= {D with ob:=nr (D.ai+1) (gZ L) D.ob,ai:=D.ai+1,st:=1}):=η rfl;have Fw:Hid (Ds D L=lA (Bu D L) (aA D.x.ms)):=η rfl;unfold ak.val at qU;generalize lX D L=ee at*;generalize xe D L=DW at*;go_enter func26,ntmps26
 by_cases h1:D.st=0
 case neg=>
  rw [ifP h1] at HE;rw [ifN h1] at jR;go_wp2_with (go_at_call 51;refine jR.o.mono ?_;rintro e w1 ⟨rfl,hb1⟩;have aR:=τ aZ hb1)
  go_ret;exact yz.o 11 HE.o (by decide) _ (aq.bZ HF.o aR.o)
 rw [ifN (by simpa using h1)] at HE;rw [ifP h1] at jR;go_upto_region 4 with (go_at_call 51;refine jR.o.mono ?_;rintro e w1 ⟨rfl,hb1⟩;have aR:=τ aZ hb1)
 have c2:=(HC.o _ aR.o).c2;have c12:=(HC.o _ aR.o).c12;go_quiet (fail)
 have aV:Hid (β w (w1.drewN nq)):=η (below_drewN aR.o nq);clear aR c2 c12;generalize w1.drewN nq=w2 at*;by_cases h2:(aA D.x.cy:Int)<=D.ai
 ·have hd:decide ((aA D.x.cy:Int)<=D.ai)=aO:=decide_eq_true h2;rw [ifP h2] at HE;go_wp2_with fail
  go_ret;exact yz.o 6 HE.o (by decide) _ (aq.bZ HF.o aV.o)
 rw [ifN h2] at HE;obtain⟨c0,c1,c2,c3,c4,c5,c6,c7,c8,c9,c10,c11,c12,c13,c14,c15⟩:=HC.o _ aV.o;by_cases h3:mC D.x L=0
 case neg=>
  rw [ifP h3] at HE;have hb:(mC D.x L==0)=aP:=by simpa using h3
  have iT:=η h3;have OX:=η ((qU.o _ aV.o).mono (R':=λe w'=>e=aT (bB #[aH aB 0 0,ν (mC D.x L)])/\β w2 w') (by
   rintro e w' ⟨hb3,⟨q1,_⟩|⟨q1,rfl⟩⟩
   ·exact absurd q1 h3
   exact⟨rfl,hb3⟩))
  go_wp2_with (go_at_call 52;refine OX.o.mono ?_;rintro e w3 ⟨rfl,hb3⟩;have ag:=τ aV hb3)
  go_ret;exact yz.o _ HE.o iT.o _ (aq.bZ HF.o ag.o)
 rw [ifN (by simpa using h3)] at HE;have OW:Hid (∀y∈gZ L,aL y.n):=η (a5m h3);have OX:=η ((qU.o _ aV.o).mono (R':=λe w'=>∃A c,e=aT (bB #[aH A (aA (gZ L)) c,ν 0])/\w'.ownsRow w.heap.size 76 3 (aH A (aA (gZ L)) c) (aA (gZ L)) (bA (gZ L))/\β w2 w') (by
  rintro e w' ⟨hb3,⟨q1,v,rfl,ho⟩|⟨q1,rfl⟩⟩
  ·obtain⟨A,c,rfl⟩:=bL ho;exact⟨A,c,rfl,iC ho aV.o.size,hb3⟩
  exact absurd h3 q1))
 have rM:Hid (aA (gZ L)<=100000):=η (by have:=HP.o.nl;omega);generalize hM:gZ L=Nn at*;go_upto_region 9 with (go_at_call 52;refine OX.o.mono ?_;rintro e w3 ⟨A3,k3,rfl,j5,hb3⟩;have ag:=τ aV hb3;have cD:=η (iJ.cA HF.o j5);have mM:=η j5)
 clear OX aV c0 c1 c2 c3 c4 c5 c6 c7;have Tx:=η (aFE db p D Nn A3 k3 w3 (HF.o.below ag.o) cD.o.dt rM.o OW.o HP.o.sl);by_cases h4:oU Nn (dR (aA D.x.ss+1)) 0=0
 case neg=>
  rw [ifP h4] at HE;have gK:=η h4;have hb:(oU Nn (dR (aA D.x.ss+1)) 0==0)=aP:=by simpa using h4
  generalize oU Nn (dR (aA D.x.ss+1)) 0=we at*;go_wp2_with (go_at_call 53;refine Tx.o.mono ?_;rintro e w4 ⟨rfl,hb4⟩;have ar:=τ ag hb4)
  go_ret;exact yz.o _ HE.o gK.o _ (aq.bZ HF.o ar.o)
 rw [h4] at Tx;rw [ifN (by simpa using h4)] at HE;go_upto_region 12 with (go_at_call 53;refine Tx.o.mono ?_;rintro e w4 ⟨rfl,hb4⟩;have ar:=τ ag hb4;have dP:=η (cD.o.below hb4))
 have Mh:D.ai<=1000/\aL D.ai:=⟨HP.o.cI.2,HP.o.cI.1⟩;have hwc:aF.wrap (D.ai+1)=D.ai+1:=wF (by unfold aL at*;omega);have Zc:Hid (Nn≠ []->aA Nn<=k3):=η (λ_=>by
  rcases mM.o.2 with⟨e,h0⟩|⟨g,cap,cur,e,_,_,hle,_⟩
  ·omega
  injection e with _ _ e3;omega)
 have Zd:Hid (aA Nn<=k3):=η (by
  by_cases h0:Nn= []
  ·rw [h0];simp
  exact Zc.o h0)
 have hrw:bA Nn≠ []\/Nn= []:=by
  cases Nn with
  |nil=>exact .inr rfl
  |cons x l=>left;simp [bA,Lg.cells]
 have Zt:=η hrw;have Zn:Hid (∀W,β w4 W->aQ aM 54 #[π p.sb,ν (D.ai+1),aH A3 (aA Nn) k3] W λe W'=>e=aT (ν (rA (D.ai+1) Nn D.ob))/\aq db p {D with ob:=nr (D.ai+1) Nn D.ob} W W'/\W'.cell? ⟨db,9,aB⟩=aC (π p.sb)/\W'.cell? ⟨db,5+7,aB⟩=aC (ν D.ai)):=η (λW hW=>by
  have ZK:=HF.o.below (ar.o.trans (hW.mono ar.o.size));have HOW:=dP.o.below hW;refine(aIZ D.ob (D.ai+1) Nn A3 k3 p.sv p.sb 0 W ZK.sh HP.o.ok.ob HOW.dt (λhne q hq=> ?_) (bK _) rM.o Zd.o OW.o).mono ?_
  ·have hn:¬eW db p q.block:=HOW.o (Zt.o.resolve_right hne) q hq;exact⟨λe=>hn (.inr (.inr (.inl (.inl e)))),λe=>hn (.inr (.inr (.inl (.inr e.symm))))⟩
  intro e W' h;obtain⟨q1,q2⟩:=ZK.Fh h;obtain⟨p3,H3,f1,f2,f3,f4,qN,hs3⟩:=q2;exact⟨q1,⟨p3,H3,f1,f2,f3,f4,qN,hs3⟩,by rw [<-f2];exact H3.cells.c9,H3.cells.c12⟩)
 have Cl:Hid (∀W,β w4 W->W.cell? ⟨db,9,aB⟩=aC (π p.sb)/\W.cell? ⟨db,12,aB⟩=aC (ν D.ai)):=η (λW hW=>by have c:=HC.o W (ar.o.trans (hW.mono ar.o.size));exact⟨c.c9,c.c12⟩);have bP:β w4 w4.drew:=(aX _ _).drew;have hdd:=Cl.o _ bP;go_region_held3 (λW=>W.cell? ⟨db,9,aB⟩=aC (π p.sb)/\W.cell? ⟨db,12,aB⟩=aC (ν D.ai)) (first|(with_reducible assumption)) ((go_at_call 54;refine(Zn.o _ (by with_reducible assumption)).mono ?_;rintro e w5 ⟨rfl,hop,hk9,Qb⟩;have WO:=kX hk9 Qb))
 have Cc:Hid (aq db p {D with ob:=nr (D.ai+1) Nn D.ob} w w5):=η (aq.trans (bC.bZ _ (ar.o.trans (bP.mono ar.o.size))) (λ_ h=> .inl h) ⟨rfl,rfl,rfl,rfl⟩ hop);have Zp:Hid (aq db p {D with ob:=nr (D.ai+1) Nn D.ob} w4 w5):=η (aq.trans (bC.bZ _ bP) (λ_ h=> .inl h) ⟨rfl,rfl,rfl,rfl⟩ hop);clear hop WO hk9 bP hdd Zn Cl Zc Zd Zt ag HC;by_cases h5:rA (D.ai+1) Nn D.ob=0
 case neg=>
  have om:=η h5;have hb:(rA (D.ai+1) Nn D.ob==0)=aP:=by simpa using h5
  have JQ:Hid (aq db p D w w5):=η (by have h:=Cc.o;rw [show nr (D.ai+1) Nn D.ob=D.ob from by unfold nr;rw [ifN h5]] at h;exact h);clear h5 Qb;generalize rA (D.ai+1) Nn D.ob=oe at*;go_wp2_with fail
  go_ret;exact yz.o _ HE.o om.o _ JQ.o
 rw [h5] at HE;obtain⟨p5,Bg⟩:=Zp.o.q;have ez:=η (dP.o.step Bg);have ou:Hid (cu db p p5 {D with ob:=nr (D.ai+1) Nn D.ob} w w5):=η ((cu.bZ HF.o ar.o).trans Bg);have f12:w5.frozen? ⟨db,12,aB⟩=aP:=by have hb:=Bg.at.blk;simp [iK,hb]
 have OC:=η (y9.o HE.o);clear Bg Cc Zp dP ar;rw [show (⟨db,5+7,aB⟩:aj)=⟨db,12,aB⟩ from rfl] at Qb;rw [h5];clear h5;go_upto_region 16 with (fail)
 have ow:=η (ou.o.trans (ou.o.at.a2W (D.ai+1)));have jh:=η (ez.o.step (ou.o.at.a2W (D.ai+1)));clear ou ez Qb f12;generalize (w5.setCell ⟨db,12,aB⟩ (ν (D.ai+1)))=w6 at*;have f13:w6.frozen? ⟨db,13,aB⟩=aP:=by have hb:=ow.o.at.blk;simp [iK,hb]
 have c13:=ow.o.at.cells.c13;go_upto_region 17 with (fail)
 have qW:Hid (cu db p p5 (Fa D L) w (w6.setCell ⟨db,13,aB⟩ (ν 1))):=η (by rw [qT.o];exact ow.o.trans (ow.o.at.S5 1));have rN:=η (jh.o.step (ow.o.at.S5 1));have HLG:Hid ((Fa D L).log.length<=90000):=η (by rw [qT.o];exact HP.o.ok.gl);have a9Q:Hid (aA Nn<=2000):=η (by rw [<-hM];exact HP.o.nl);have wU:Hid (aA D.x.ms<=100000):=η HP.o.ml;clear ow jh c13 f13 qT HP hwc;generalize (w6.setCell ⟨db,13,aB⟩ (ν 1))=w7 at*;generalize Fa D L=E0 at*;generalize Bu D L=T0 at*;have pM:=a9Q.o;go_upto_region 18 with (fail)
 have ie:Hid (cu db p p5 (kE E0 4 (Nn.take 0)) w w7):=η (by
  have e:kE E0 4 (Nn.take 0)=E0:=by unfold kE;simp
  rw [e];exact qW.o)
 clear qW;go_loopw [11,75] (λ_ i wr=>∃(k:Nat) (pk:Dp),k<=aA Nn/\i=ν (k:Int)/\Hid (cu db p pk (kE E0 4 (Nn.take k)) w wr)/\Hid (iJ db pk wr A3 (bA Nn))) (λ_ i _=>aA Nn-(af i).toNat)
 case atStart=>exact⟨0,p5,bK _,rfl,ie,rN⟩
 case round=>
  clear ie rN;obtain⟨k,pk,hk,rfl,HQ,HO⟩:=hrel;by_cases hlt:k<aA Nn
  ·obtain⟨bl,ol,jn,hbl,l0,l1,l2⟩:=oM HO.o.dt hlt;have hkb:(k:Int)<(aA Nn:Int):=by omega
   have L5:Hid ((kE E0 4 (Nn.take k)).log.length<=100000):=η (by unfold kE;simp only [cN,iV,vD];have:=HLG.o;omega);have HL:=η (a2z (D:=E0) (kd:=4) hlt);subst jn;generalize kE E0 4 (Nn.take k)=E at*;generalize Nn[k]=x at*;obtain⟨xm,xa,xn⟩:=x;simp only at l0 l1 l2;have mf:Hid (β wr ((wr.alloc (aK #[ν xm,ν xa,ν xn] 76)).alloc (aK #[ν 4,ν xm,ν xa,ν xn,ν 0] 45))):=η (σ.alloc (by simp) _);have kZ:=η (xK db pk E [⟨4,xm,xa,xn,0⟩] (wr.heap.size+1) 1 _ (HQ.o.at.below mf.o) (dK (wr.alloc (aK #[ν xm,ν xa,ν xn] 76)) 45 #[ν 4,ν xm,ν xa,ν xn,ν 0] (by simp)) (by simp) (by simp) (by have:=L5.o;omega));have oz:=η (HQ.o.below mf.o);have uH:=η (HO.o.below mf.o);clear HQ HO;go_wp2_with (go_at_call 55;refine kZ.o.mono ?_;rintro e w8 ⟨rfl,h8⟩;obtain⟨p9,AE,FN⟩:=oz.o.then h8;have sW:=η AE;have wW:=η (uH.o.step FN);clear h8 AE FN)
   go_roundw
   case rel=>exact⟨k+1,p9,by omega,by go_num,η (by rw [HL.o];exact sW.o),wW⟩
   case measure=>simp [af];omega
  obtain rfl:k=aA Nn:=by omega
  rw [cT,<-HTE.o] at HQ;clear HO;have c0:=HQ.o.at.cells.c0;rw [HXE.o] at c0;have ir:=wU.o;go_upto_region 23 with (fail)
  clear c0;generalize hMM:aA D.x.ms=M at*;have o6:Hid (cu db p pk (lA T0 0) w wr):=η HQ.o;clear HQ;go_loopw [12,13,96] (λ_ _ i wr=>∃(k:Nat) (pk:Dp),k<=M/\i=ν (k:Int)/\Hid (cu db p pk (lA T0 k) w wr)) (λ_ _ i _=>M-(af i).toNat)
  case atStart=>exact⟨0,pk,bK _,rfl,o6⟩
  case round=>
   clear o6;obtain⟨k,pk,hk,rfl,HQ⟩:=hrel;by_cases hlt:k<M
   ·have eY:(0:Int)<=(k:Int):=by omega
    have hkb:(k:Int)<(M:Int):=by omega
    have eJ:=η (OC.o k hlt);have cG:Hid (lA T0 (k+1)=Xh (lA T0 k) ((k:Int)+1)):=η rfl;have EL:Hid (aL ((k:Int)+1)):=η eJ.o.mI;have Tu:=η (aEp db pk (lA T0 k) ((k:Int)+1) wr HQ.o.at EL.o eJ.o.ok.lI (by have:=eJ.o.ok.hl;omega));have Tk:=η (λW (hW:β wr W)=>aF8 db pk (lA T0 k) ((k:Int)+1) W (HQ.o.at.below hW) eJ.o.ok eJ.o.aI);have hp8:∀(E:Dk) (m:Int) (W:aJ) (pw:Dp),PA E m->bW W db pw E->aQ aM 57 #[π pw.vb,ν m,bQ #[ν 8,ν m,ν 0,ν (min (CH E m) (AV E m))]] W λe W'=>e=aT (ν 0)/\aq db pw (Xh E m) W W'/\W'.cell? ⟨db,8,aB⟩=aC (π pw.vb):=by intro E m W pw P H;refine(aLe pw.vb pw.vp (aA E.x.ms) (aA E.x.ss+1) (aA E.x.ms) E.l E.h ⟨m,8,m,0,min (CH E m) (AV E m)⟩ W H.vt P.ok.lI (by have:=P.ok.hl;omega) P.up P.pos P.is ⟨by have:=P.room;omega,by have:=P.ms;omega⟩ (by decide:aL 8) P.mI rfl P.n0 P.Na P.bI P.le).mono ?_;intro e W' h;obtain⟨q1,q2⟩:=H.held h;obtain⟨p3,H3,f1,f2,f3,f4,qN,hs3⟩:=q2;exact⟨q1,⟨p3,H3,f1,f2,f3,f4,qN,hs3⟩,by rw [<-f1];exact H3.cells.c8⟩
    have Cg:=η (λW (hW:β wr W)=>hp8 (lA T0 k) ((k:Int)+1) W pk eJ.o (HQ.o.at.below hW));have BG:=η (λW (hW:β wr W)=>(HQ.o.at.below hW).cells.c8);rw [<-cG.o] at Cg;clear hp8 eJ;generalize lA T0 k=E at*;generalize MW:lA T0 (k+1)=E1 at*;have xz:=η MW;clear MW;generalize CH E ((k:Int)+1)=un at*;generalize AV E ((k:Int)+1)=rk at*;have Bc:aF.wrap ((k:Int)+1)=(k:Int)+1:=wF EL.o;go_upto_region 26 with (go_at_call 56;refine Tu.o.mono ?_;rintro e wu ⟨rfl,hbu⟩;have HBU:=η hbu;clear hbu)
    rw [<-Bc] at Cg Tk;clear Bc;have bP:β wr wu.drew:=HBU.o.drew;have hdd:=BG.o _ bP;go_region_held3 (λW=>W.cell? ⟨db,8,aB⟩=aC (π pk.vb)) (first|(with_reducible assumption)) (first|(go_at_call 47;with_reducible refine tz (zg (aF.wrap ((k:Int)+1)) _) ?_;rintro e wa ⟨rfl,nB⟩;have yV:β wr wa:=jy (by with_reducible assumption) (nB.mono (gV (by with_reducible assumption)));have qu:=BG.o _ yV)|(go_at_call 58;with_reducible refine tz (Tk.o _ (by with_reducible assumption)) ?_;rintro e wb ⟨rfl,iO⟩;have ru:β wr wb:=jy (by with_reducible assumption) (iO.mono (gV (by with_reducible assumption)));have hcb:=BG.o _ ru)|(go_at_call 57;with_reducible refine tz (Cg.o _ (by with_reducible assumption)) ?_;rintro e wc ⟨rfl,hpl,hcc⟩))
    all_goals
     have JQ:Hid (aq db pk E1 wr wc):=η (aq.trans (bC.bZ _ (by with_reducible assumption)) (λ_ h=> .inl h) ⟨rfl,rfl,rfl,rfl⟩ hpl);obtain⟨pc,My,_⟩:=HQ.o.then JQ.o;have Tg:=η My;clear hpl hcc nB yV qu iO ru hcb bP hdd Cg BG Tk HQ My JQ;go_wp2_with fail
     go_roundw
     case rel=>exact⟨k+1,pc,by omega,by go_num,η (by rw [xz.o];exact Tg.o)⟩
     case measure=>simp [af];omega
   obtain rfl:k=M:=by omega
   go_wp2_with fail
   go_ret;exact TE.o HE.o _ (by rw [Fw.o];exact HQ.o.p)
theorem a4k(q:Int×Int):∀l,aA (insSd q l)<=aA l+1
 | []=>by simp [insSd]
 |p::l=>by have:=a4k q l;grind [insSd]
theorem aKM(L:List Lg):aA (gB L)<=aA L:=by
 induction L with
 |nil=>simp [gB]
 |cons x L ih=>
  grind [a4k,gB]
theorem a5n(L:List Lg):aA (gZ L)<=aA L:=by grind [gZ,mD,aKM]
theorem aIG {x:ak} {L:List Lg}(h:mC x L=0):∀z∈L,mX x z=0:=by grind [Ep,mC]
theorem aIB {x:ak} {y:Lg}(h:mX x y=0):(1<=y.m/\y.m<=(aA x.ms:Int))/\0<=y.a/\y.a<=(aA x.ss:Int):=by
 unfold mX at h;by_cases h1:jb x y.m=0
 ·rw [ifN (by omega)] at h;refine⟨RP h1, ?_⟩;by_cases h2:y.a=0
  ·omega
  rw [ifN h2] at h;have:=Ry h;omega
 omega
theorem YZ {L:List Lg}:∀(ks:List Nat) (r:Int),oU L ks r=0->∀a∈ks,E5 L (a:Int)=aP
 | [],_,_,a,ha=>by simp at ha
 |k::ks,r,h,a,ha=>by
  unfold oU at h;by_cases hb:E5 L (k:Int)=aO
  ·grind
  rw [ifN hb] at h;rcases fE.1 ha with rfl|ha
  ·simpa using hb
  by_cases hs:jv L (k:Int)=lY L (k:Int)
  ·rw [ifP hs] at h;exact YZ ks r h a ha
  rw [ifN hs] at h;exact YZ ks 17 h a ha
structure a0M(x:ak)(N:List Lg):Prop where
 pP:∀y∈N,(1<=y.m/\y.m<=(aA x.ms:Int))/\(0<=y.a/\y.a<=(aA x.ss:Int))/\y.n≠0/\aL y.n
 wD:N.Pairwise λy z=>y.m<z.m\/(y.m=z.m/\y.a<z.a)
 sid:∀a:Int,0<=a->a<=(aA x.ss:Int)->jv N a<=kU a/\lY N a<=kU a
theorem aIJ {x:ak}(hx:GK x) {L:List Lg}(h:mC x L=0)(hw:oU (gZ L) (dR (aA x.ss+1)) 0=0)(hI:∀y∈L,y.ok):a0M x (gZ L):=by
 have hc:=aIG h;have hq:∀q∈gB L,(1<=q.1/\q.1<=(aA x.ms:Int))/\0<=q.2/\q.2<=(aA x.ss:Int):=λq hq=>by obtain⟨z,hz,rfl⟩:=(Rx L q).1 hq;exact aIB (hc z hz)
 have jK:=hx.sl;refine⟨λy hy=> ?_, ?_,λa h0 h1=> ?_⟩
 ·have aN5:=a5m h y hy;obtain⟨q,tU,rfl⟩:=df.1 hy;grind
 ·unfold gZ mD;rw [BK];refine Oz ?_ ((a7D (λy hy=>(hI y hy).a)).filter _);grind [pQ]
 have:=YZ _ _ hw a.toNat (by grind);grind [E5]
theorem Rc(f:Ob->Int)(L R:List Ob):dV f (L++R)=dV f L+dV f R:=by grind [dV]
theorem XY {f:Ob->Int}:∀ {L:List Ob},(∀x∈L,0<=f x)->∀x∈L,f x<=dV f L
 | [],_,x,hx=>by simp at hx
 |y::L,h,x,hx=>by
  have h1:=h y (by simp);have h2:=a6G (f:=f) (L:=L) (λz hz=>h z (dh _ hz));have e:dV f (y::L)=f y+dV f L:=by simp [dV]
  rw [e];rcases fE.1 hx with rfl|hx
  ·omega
  have:=XY (f:=f) (L:=L) (λz hz=>h z (dh _ hz)) x hx;omega
theorem a6F(f:Ob->Int)(y:Ob)(L:List Ob):dV f (y::L)=f y+dV f L:=by simp [dV]
theorem aKd(y:Lg)(N:List Lg)(a:Int):jv (y::N) a=(if 0<y.n/\y.a=a then y.n else 0)+jv N a:=by grind [jv,kh,lx,jF,sumI]
theorem aKc(y:Lg)(N:List Lg)(a:Int):lY (y::N) a=(if y.n<0/\y.a=a then-y.n else 0)+lY N a:=by grind [lY,kh,jH,jF,sumI]
theorem Pq(c a:Int):∀N:List Lg,dV (vN a) (N.map (gA c))=jv N a
 | []=>rfl
 |y::N=>by rw [yM,a6F,Pq c a N,aKd];unfold vN gA;simp
theorem Pk(c a:Int):∀N:List Lg,dV (qH a) (N.map (gA c))=lY N a
 | []=>rfl
 |y::N=>by rw [yM,a6F,Pk c a N,aKc];unfold qH gA;simp
theorem aF5(c a:Int)(N:List Lg):dV (oF a) (N.map (gA c))=0:=Du λx hx=>by grind [oF,gA]
theorem aF1(c m a:Int)(N:List Lg):dV (oD m a) (N.map (gA c))=0:=Du λx hx=>by grind [oD,gA]
theorem aKb {L:List Ob}(h:L.any eZ=aP):∀x∈L,x.st≠1:=λx hx e=>by grind [uh]
theorem kg.opened {x:ak} {ai:Int} {who:List Int} {L:List Ob} {N:List Lg}(h:kg (aA x.ms) (aA x.ss) ai who L)(F:a0M x N)(hl:aA N<=120)(hs:L.any eZ=aP):
 kg (aA x.ms) (aA x.ss) (ai+1) who (L++N.map (gA (ai+1))):=by
 have s8:=aKb hs;have hnz:∀(f:Ob->Int),(∀x,x.st≠1->f x=0)->dV f L=0:=λf hf=>Du (λx hx=>hf x (s8 x hx))
 have key:∀a:Int,jv N a<=kU a/\lY N a<=kU a:=λa=>by
  by_cases ha:0<=a/\a<=(aA x.ss:Int)
  ·exact F.sid a ha.1 ha.2
  have hm:=xY a;have h1:jv N a=0:=by
   rw [<-Pq 0];refine Du λz hz=> ?_
   obtain⟨y,hy,rfl⟩:=df.1 hz;have:=(F.pP y hy).2.1;grind [vN,gA]
  have h2:lY N a=0:=by
   rw [<-Pk 0];refine Du λz hz=> ?_
   obtain⟨y,hy,rfl⟩:=df.1 hz;have:=(F.pP y hy).2.1;grind [qH,gA]
  omega
 have kp:∀y∈N,-kU y.a<=y.n/\y.n<=kU y.a:=λy hy=>by have hk:=key y.a;have hm:=xY y.a;have d1:=XY (f:=vN y.a) (L:=N.map (gA 0)) (λz _=>a2c _ z) (gA 0 y) (df.2 ⟨y,hy,rfl⟩);have d2:=XY (f:=qH y.a) (L:=N.map (gA 0)) (λz _=>a2H _ z) (gA 0 y) (df.2 ⟨y,hy,rfl⟩);grind [Pq,Pk,vN,gA,qH]
 refine⟨λz hz=> ?_,λz hz=> ?_, ?_,λa=> ?_,λa=> ?_, ?_⟩
 ·rcases gL.1 hz with hz|hz
  ·have E:=h.each z hz;exact⟨E.m,E.a,E.big,by have:=E.c;omega,E.st,E.a7K,E.o,E.cmp⟩
  obtain⟨y,hy,rfl⟩:=df.1 hz;have I:=F.pP y hy;exact⟨I.1,I.2.1,kp y hy,dM _,by show (1:Int)<=1/\(1:Int)<=5;omega,λe=>by have:(1:Int)=2:=e;omega,λe=>by have:(1:Int)=3:=e;omega,λe=>by have:(1:Int)=4\/(1:Int)=5:=e;omega⟩
 ·rcases gL.1 hz with hz|hz
  ·exact h.ok z hz
  obtain⟨y,hy,rfl⟩:=df.1 hz;have I:=F.pP y hy;have hb:=kp y hy;have hm:=xY y.a;refine⟨?_, ?_,I.2.2.1,dM _, ?_⟩
  ·show fw<y.n;unfold fw;omega
  ·show y.n<=_;omega
  grind [Ob.size,gA]
 ·rw [Lf];refine⟨h.ord, ?_,λz hz u hu o1 o2=>absurd (uh.1 o1) (s8 z hz)⟩;rw [BK];exact F.wD.imp (λ{y z} h _ _=>h)
 ·rw [Rc,hnz _ (λx hx=>a2I hx),Pk];grind
 ·rw [Rc,hnz _ (λx hx=>a2d hx),Pq];grind
 rw [cN,iV];have:=h.len;omega
theorem Xv {x:ak} {m:Int}:∀(L:List Ob) (n:Int),(∀o∈L,0<=o.az*tZ x o.a/\o.az*tZ x o.a<=288230376151711744)->0<=n->n+(aA (L.filter λo=>o.m==m):Int)*288230376151711744<=9*288230376151711744->0<=L.foldl (Nh x m) n
 | [],n,_,h0,_=>h0
 |o::L,n,h,h0,h1=>by
  have ho:=h o (by simp);have hr:∀z∈L,0<=z.az*tZ x z.a/\z.az*tZ x z.a<=288230376151711744:=λz hz=>h z (dh _ hz)
  rw [Cr];unfold Nh;by_cases hm:o.m=m
  ·rw [ifP hm,List.filter_cons_of_pos (by simpa using hm),uL] at*;have hle:(0:Int)<=(aA (L.filter λo=>o.m==m):Int)*288230376151711744:=by omega
   rw [wrap64_in (by unfold aL;omega:aL (o.az*tZ x o.a)),wrap64_in (by unfold aL;omega)];exact Xv L _ hr (by omega) (by omega)
  rw [ifN hm];rw [List.filter_cons_of_neg (by simpa using hm)] at h1;exact Xv L n hr h0 h1
theorem aw.aJx {C:Int} {g:Nat} {D:Dk}(H:aw C g D)(m:Int):0<=AV D m:=by
 unfold AV Ff;have jK:=H.hs.sl;refine Xv _ 0 (λo ho=> ?_) (dM _) ?_
 ·unfold DL at ho;obtain⟨h1,h2⟩:=jD.1 ho;simp only [je,beq_iff_eq,decide_eq_true_eq] at h2;have E:=H.ob.each o h1;have hb:=E.big.2;unfold tZ;by_cases hs:jL D.x o.a=0
  ·rw [ifP hs];have De:=Ry hs;have hp:1<=(dX D.x o.a).a/\(dX D.x o.a).a<=1048576:=by
    unfold dX;rw [ifP (show th D.x o.a from De)];have hl:(o.a-1).toNat<aA D.x.ss:=by omega
    rw [tA,iE hl];exact(H.hs.sI _ (cH hl)).1
   generalize (dX D.x o.a).a=p at hp;unfold kU at hb;rw [ifN (by omega)] at hb;refine⟨Int.mul_nonneg (by omega) (by omega), ?_⟩;have:=Int.mul_le_mul hb hp.2 (by omega) (by omega);omega
  rw [ifN hs];have:=xY o.a;omega
 have hl:aA ((DL D).filter λo=>o.m==m)<=9:=by
  have hp:(((DL D).filter λo=>o.m==m).map (·.a)).Pairwise (· < ·):=by rw [BK];refine Oz ?_ ((H.ob.ord.filter _).filter _);intro y z hy hz NA;obtain⟨IQ,nE⟩:=jD.1 hy;obtain⟨hz1,hz2⟩:=jD.1 hz;have vq:=(jD.1 IQ).2;have hz3:=(jD.1 hz1).2;simp only [je,beq_iff_eq,decide_eq_true_eq] at nE hz2 vq hz3;have:=NA (uh.2 vq.1) (uh.2 hz3.1);omega
  have:=SR (k:=9) (lo:= -1) hp (λa ha=>by obtain⟨y,hy,rfl⟩:=df.1 ha;have IQ:=(jD.1 (jD.1 hy).1).1;have:=(H.ob.each y IQ).a;omega)
  rwa [iV] at this
 omega
structure aAO(E V:Dk)(k:Nat):Prop where
 x:V.x=E.x
 l:V.l=E.l
 ob:V.ob=E.ob
 bx:V.bx=E.bx
 who:V.who=E.who
 ai:V.ai=E.ai
 st:V.st=E.st
 en:V.en=E.en
 log:V.log=E.log
 row:∀r∈V.h,r.s=8/\r.m=r.i/\1<=r.i/\r.i<=(k:Int)
 up:qC V.h
 len:aA V.h=k
theorem Rg {E:Dk}(hh:E.h= []):∀k,aAO E (lA E k) k
 |0=>by
  refine⟨rfl,rfl,rfl,rfl,rfl,rfl,rfl,rfl,rfl, ?_, ?_, ?_⟩
  ·show∀r∈E.h,_;rw [hh];simp
  ·show qC E.h;rw [hh];exact U7
  show aA E.h=0;rw [hh];rfl
 |k+1=>by
  have I:=Rg hh k;refine⟨I.x,I.l,I.ob,I.bx,I.who,I.ai,I.st,I.en,I.log, ?_, ?_, ?_⟩
  ·intro r hr;have FM:=hr;rcases gL.1 FM with h|h
   ·have:=I.row r h
    push_cast
    omega
   grind
  ·show qC ((lA E k).h++ [_]);unfold qC;rw [Lf];refine⟨I.up,by simp,λr hr u hu=> ?_⟩;obtain rfl:=List.mem_singleton.1 hu;have:=I.row r hr;simp only;omega
  show aA ((lA E k).h++ [_])=k+1;rw [cN,I.len];rfl
theorem aw.a6T {C:Int} {g:Nat} {E:Dk}(H:aw C g E)(hh:E.h= []) {k:Nat}(hk:k<=aA E.x.ms):aw C g (lA E k):=by have I:=Rg hh k;have ir:=H.hs.ml;refine⟨by rw [I.x];exact H.hs,by rw [I.x,I.l,I.en];exact H.bD,λr hr=>(I.row r hr).1,by rw [I.len];omega,λa=>by rw [I.log,I.x,I.l];exact H.fl a,by rw [I.x,I.log];exact H.lg,by rw [I.log];exact H.gl,by rw [I.x,I.who];exact H.who,by rw [I.x,I.ai,I.who,I.ob];exact H.ob,by rw [I.bx,I.x];exact H.bx,by rw [I.bx];exact H.bl,by rw [I.st];exact H.st,by rw [I.ai];exact H.ai⟩
theorem aGQ:∀(h:List Hr) (m:Int),(∀r∈h,r.m≠m)->iP h 8 m 0=0:=by
 intro h m hh
 suffices S:∀(h:List Hr) (n:Int),(∀r∈h,r.m≠m)->h.foldl (λn r=>if r.s==8&&r.m==m&&r.a==0 then fW (n+r.n) else n) n=n from S h 0 hh
 intro h;induction h with
 |nil=>intro n _;rfl
 |cons r h ih=>
  grind
theorem aw.aJW {C:Int} {g:Nat} {E:Dk}(H:aw C g E)(hh:E.h= [])(hg:g<=90000) {k:Nat}(hk:k<aA E.x.ms):PA (lA E k) ((k:Int)+1):=by
 have I:=Rg hh k;have G:=H.a6T hh (k:=k) (by omega);have ir:=H.hs.ml;have hlt:∀r∈(lA E k).h,r.i<(k:Int)+1:=λr hr=>by have:=I.row r hr;omega
 have hhe:iP (lA E k).h 8 ((k:Int)+1) 0=0:=aGQ _ _ (λr hr=>by have:=I.row r hr;omega);have h8:=G.bD.tN ((k:Int)+1) 0;have h8n:=G.bD.ok.nn (k:=8) rfl ((k:Int)+1) 0;have hpl:∃n,plcA (lA E k).x.ms.length ((lA E k).x.ss.length+1) 8 ((k:Int)+1) 0=aC n:=by rw [I.x];exact Bx (.inr (.inl rfl)) ⟨by omega,by omega⟩ (by omega) (by omega)
 obtain⟨n,hn⟩:=hpl;have hu:CH (lA E k) ((k:Int)+1)=balA (lA E k).x.ms.length ((lA E k).x.ss.length+1) (lA E k).l 8 ((k:Int)+1) 0:=by grind [CH,eA,aL]
 have hr:=G.aJx ((k:Int)+1);refine⟨G.ok hg,by unfold aL;omega,λx hx=> ?_,I.up, ?_, ?_,by rw [I.len,I.x];exact hk,by rw [I.x];omega,by rw [hu];omega,by rw [hn];simp,by grind [aL],by rw [hu,hhe];omega⟩
 ·have:=(G.ob.each x hx).a;have:=G.hs.sl;unfold aL;omega
 ·refine Xk (aa _) (λj hj _=>hlt _ (cH hj)) (λhj=>absurd hj (Nat.lt_irrefl _))
 grind [vu]
structure aAE(K:Int)(g:Nat)(D D':Dk):Prop where
 jI:aw (K+576460752303423488) (g+120) D'
 Q5:ny K D'
 x:D'.x=D.x
 en:D'.en=D.en
 ai:D'.ai=D.ai+1
 up:qC D'.h
 bx:D'.bx=D.bx
 st:D'.st=1
 lg:∃t,D'.log=D.log++t/\∀e∈t,e.k≠15
theorem aw.az {K:Int} {g:Nat} {D:Dk}(H:aw (K+576460752303423488) g D)(F:ny K D)(hst:D.st=0->D.h= []) {L:List Lg}(hl:aA L<=120)(hI:∀y∈L,y.ok)(hg:g+120<=90000):UI D L/\(lX D L=0->aAE K g D (Ds D L)):=by
 have ir:=H.hs.ml;have jK:=H.hs.sl;have hcy:=H.ai;have pM:=a5n L;have key:lX D L=0->aw (K+576460752303423488) (g+120) (Bu D L)/\(Bu D L).h= []/\ny K (Bu D L):=λh0=>by
  unfold lX at h0;by_cases c1:D.st≠0
  ·omega
  rw [ifN c1] at h0;by_cases c2:(aA D.x.cy:Int)<=D.ai
  ·omega
  rw [ifN c2] at h0;by_cases c3:mC D.x L≠0
  ·omega
  rw [ifN c3] at h0;by_cases c4:oU (gZ L) (dR (aA D.x.ss+1)) 0≠0
  ·omega
  rw [ifN c4] at h0;have NF:=aIJ H.hs (L:=L) (by omega) (by omega) hI;have hop:D.ob.any eZ=aP:=by grind [rA]
  have eO:nr (D.ai+1) (gZ L) D.ob=D.ob++(gZ L).map (gA (D.ai+1)):=by grind [nr]
  have hO:=H.ob.opened NF (by omega) hop;have jY:=H.hs.cl
  have G0:aw (K+576460752303423488) g (Fa D L):=
   ⟨H.hs,H.bD,H.h8,H.hl,H.fl,H.lg,H.gl,H.who,by show kg _ _ _ _ (nr _ _ _);rw [eO];exact hO,H.bx,H.bl,by show (0:Int)<=1/\(1:Int)<=2;omega,by show 0<=D.ai+1/\D.ai+1<=4;omega⟩
  have G1:=aw.Pz (kd:=4) (.inl rfl) (gZ L) G0 (λy hy=>⟨(NF.pP y hy).2.1,.inr rfl⟩);refine⟨G1.wide (dM _) H.bD.big (by omega),hst (by omega), ?_⟩;have ku:∀a,dV (oF a) (nr (D.ai+1) (gZ L) D.ob)=dV (oF a) D.ob:=λa=>by rw [eO,Rc,aF5];omega
  have Qd:∀m a,dV (oD m a) (nr (D.ai+1) (gZ L) D.ob)=dV (oD m a) D.ob:=λm a=>by rw [eO,Rc,aF1];omega
  exact⟨λa=>(F.hd a).trans (ku a).symm,λm a=>by
   show _<=B D 7 m a+B D 8 m a+dV (oD m a) (nr (D.ai+1) (gZ L) D.ob);rw [Qd];exact F.lo m a,λm a=>by
   show B D 7 m a+B D 8 m a+dV (oD m a) (nr (D.ai+1) (gZ L) D.ob)<=_;rw [Qd];exact F.hi m a,F.es⟩
 refine⟨⟨H.ok (by omega),by omega,by omega,⟨by unfold aL;omega,by omega⟩,by omega,λh0 k hk=>(key h0).1.aJW (key h0).2.1 hg hk⟩,λh0=> ?_⟩;obtain⟨G,hh,FT⟩:=key h0;have I:=Rg hh (aA D.x.ms);have GP:=G.a6T hh (k:=aA D.x.ms) (aa _);refine⟨GP,⟨λa=> ?_,λm a=> ?_,λm a=> ?_,λa=> ?_⟩,I.x,I.en,I.ai,I.up,I.bx,I.st, ?_⟩
 ·unfold B;unfold Ds;rw [I.x,I.l,I.ob];exact FT.hd a
 ·unfold B;unfold Ds;rw [I.x,I.l,I.ob];exact FT.lo m a
 ·unfold B;unfold Ds;rw [I.x,I.l,I.ob];exact FT.hi m a
 ·unfold B;unfold Ds;rw [I.x,I.l];exact FT.es a
 obtain⟨t,e,ht⟩:=(a2y (Fa D L) (kd:=4) (by decide) (gZ L)).lg;exact⟨t,I.log.trans e,ht⟩
theorem aL0(l r:List Int):sumI (l++r)=sumI l+sumI r:=by
 induction l with
 |nil=>simp [sumI]
 |cons x l ih=>grind [sumI]
theorem SB(l r:List En)(q:Int×Int×Int):fB (l++r) q=fB l q+fB r q:=by unfold fB gz;grind [aL0]
theorem SD(fk fm tk tm n:Int)(k m a:Int):fB (gY fk fm tk tm n) (k,m,a)=(if k=fk/\m=fm/\a=0 then-n else 0)+(if k=tk/\m=tm/\a=0 then n else 0):=by have h:=SC fk fm tk tm 0 n (k,m,a);grind [l9,gY]
def Jw(D:Dk)(k m:Int):Int:=if k=7 then-((l8 D (m-1).toNat).a+(l8 D (m-1).toNat).b) else if k=8 then (l8 D (m-1).toNat).a else if k=9 then (l8 D (m-1).toNat).b else 0
theorem a7t(D:Dk)(k m a:Int):∀n:Nat,fB (nU D n) (k,m,a)=if a=0/\1<=m/\m<=(n:Int) then Jw D k m else 0
 |0=>by rw [ifN (by omega)];rfl
 |n+1=>by
  unfold nU;rw [SB,SB,a7t D k m a n,SD,SD];by_cases hm:m=(n:Int)+1
  ·have hn:(m-1).toNat=n:=by omega
   grind [Jw]
  grind
structure O0(C:Int)(g:Nat)(D D':Dk):Prop where
 jI:aw (C+1099511627776) g D'
 x:D'.x=D.x
 h:D'.h=D.h
 ob:D'.ob=D.ob
 bx:D'.bx=D.bx
 who:D'.who=D.who
 ai:D'.ai=D.ai
 st:D'.st=D.st
 en:D.en=aP/\D'.en=aO
 log:D'.log=D.log
 k1:∀a,B D' 1 0 a=B D 1 0 a
 k2:∀a,B D' 2 0 a=B D 2 0 a
 lo:∀m a,B D 7 m a+B D 8 m a-1099511627776<=B D' 7 m a+B D' 8 m a
 hi:∀m a,B D' 7 m a+B D' 8 m a<=B D 7 m a+B D 8 m a
theorem aw.Jx {C:Int} {g:Nat} {D:Dk}(H:aw C g D)(hg:g<=90000)(hC:C+1099511627776<=4611686018427387904+1125899906842624):J3 D/\(vP D=D\/O0 C g D (vP D)):=by
 have ir:=H.hs.ml;refine⟨⟨H.ok hg,by omega,λk hk=> ?_,λy hy=> ?_, ?_, ?_⟩, ?_⟩
 ·have h8:=H.bD.tN ((k:Int)+1) 0;have h8n:=H.bD.ok.nn (k:=8) rfl ((k:Int)+1) 0;unfold aL;omega
 ·have:=H.hs.mI y hy;unfold aL;omega
 ·have:=H.hs.li;unfold aL;omega
 ·have:=H.hs.ca;unfold aL;omega
 unfold vP;by_cases he:D.en=aO
 ·grind
 rw [ifN he];have Mi:D.en=aP:=by simpa using he
 by_cases hb:El D=aO
 ·grind
 rw [ifN hb];refine .inr ?_;have hF:∀v:Int,v<=(if D.en=aO then (1099511627776:Int) else 0)->v<=0:=λv hv=>by grind
 by_cases hv:lZ (aA D.x.ms) (aA D.x.ss+1) D.l D.h (fV D)=0
 ·have el:eT D (fV D)=kH (aA D.x.ms) (aA D.x.ss+1) D.l (fV D):=by grind [eT]
  obtain⟨hc,_⟩:=YX hv;have dS:nN (aA D.x.ms) (aA D.x.ss+1) (eT D (fV D)):=by rw [el];exact nN.post H.bD.ok (by have:=H.hs.sl;omega) hv
  have hd:∀k m a,balA (aA D.x.ms) (aA D.x.ss+1) (eT D (fV D)) k m a=balA (aA D.x.ms) (aA D.x.ss+1) D.l k m a+((if a=0/\1<=m/\m<=(aA D.x.ms:Int) then Jw D k m else 0)+((if k=5/\m=0/\a=0 then-D.x.line else 0)+(if k=3/\m=0/\a=0 then D.x.line else 0))+((if k=6/\m=0/\a=0 then-D.x.bV else 0)+(if k=4/\m=0/\a=0 then D.x.bV else 0))):=λk m a=>by rw [el,a6X H.bD.ok.len hc];unfold fV;rw [SB,SB,a7t,SD,SD]
  have Qe:∀m:Int,1<=m->m<=(aA D.x.ms:Int)->(0<=(l8 D (m-1).toNat).a/\(l8 D (m-1).toNat).a<=1099511627776-balA (aA D.x.ms) (aA D.x.ss+1) D.l 8 m 0)/\0<=(l8 D (m-1).toNat).b/\(l8 D (m-1).toNat).b<=1099511627776:=λm h1 h2=>by
   have hl:(m-1).toNat<aA D.x.ms:=by omega
   have hi:(l8 D (m-1).toNat)=D.x.ms[(m-1).toNat]:=by unfold l8;rw [tA,iE hl,P7]
   have hI:=H.hs.mI _ (cH hl);have hb':DN D (m-1).toNat=aP:=by grind [El]
   grind [DN]
  have e8:∀m a,balA (aA D.x.ms) (aA D.x.ss+1) (eT D (fV D)) 8 m a=balA (aA D.x.ms) (aA D.x.ss+1) D.l 8 m a+(if a=0/\1<=m/\m<=(aA D.x.ms:Int) then (l8 D (m-1).toNat).a else 0):=λm a=>by rw [hd];simp [Jw]
  have e9:∀m a,balA (aA D.x.ms) (aA D.x.ss+1) (eT D (fV D)) 9 m a=balA (aA D.x.ms) (aA D.x.ss+1) D.l 9 m a+(if a=0/\1<=m/\m<=(aA D.x.ms:Int) then (l8 D (m-1).toNat).b else 0):=λm a=>by rw [hd];simp [Jw]
  have e7:∀m a,balA (aA D.x.ms) (aA D.x.ss+1) (eT D (fV D)) 7 m a=balA (aA D.x.ms) (aA D.x.ss+1) D.l 7 m a+(if a=0/\1<=m/\m<=(aA D.x.ms:Int) then-((l8 D (m-1).toNat).a+(l8 D (m-1).toNat).b) else 0):=λm a=>by rw [hd];simp [Jw]
  have e3:∀a,balA (aA D.x.ms) (aA D.x.ss+1) (eT D (fV D)) 3 0 a=balA (aA D.x.ms) (aA D.x.ss+1) D.l 3 0 a+(if a=0 then D.x.line else 0):=λa=>by rw [hd];simp
  have e4:∀a,balA (aA D.x.ms) (aA D.x.ss+1) (eT D (fV D)) 4 0 a=balA (aA D.x.ms) (aA D.x.ss+1) D.l 4 0 a+(if a=0 then D.x.bV else 0):=λa=>by rw [hd];simp
  have e1:∀a,balA (aA D.x.ms) (aA D.x.ss+1) (eT D (fV D)) 1 0 a=balA (aA D.x.ms) (aA D.x.ss+1) D.l 1 0 a:=λa=>by rw [hd];simp
  have e2:∀a,balA (aA D.x.ms) (aA D.x.ss+1) (eT D (fV D)) 2 0 a=balA (aA D.x.ms) (aA D.x.ss+1) D.l 2 0 a:=λa=>by rw [hd];simp
  have lo:∀m a,balA (aA D.x.ms) (aA D.x.ss+1) D.l 7 m a+balA (aA D.x.ms) (aA D.x.ss+1) D.l 8 m a-1099511627776<=balA (aA D.x.ms) (aA D.x.ss+1) (eT D (fV D)) 7 m a+balA (aA D.x.ms) (aA D.x.ss+1) (eT D (fV D)) 8 m a:=λm a=>by
   rw [e7,e8];by_cases c:a=0/\1<=m/\m<=(aA D.x.ms:Int)
   ·grind
   omega
  have hi:∀m a,balA (aA D.x.ms) (aA D.x.ss+1) (eT D (fV D)) 7 m a+balA (aA D.x.ms) (aA D.x.ss+1) (eT D (fV D)) 8 m a<=balA (aA D.x.ms) (aA D.x.ss+1) D.l 7 m a+balA (aA D.x.ms) (aA D.x.ss+1) D.l 8 m a:=λm a=>by
   rw [e7,e8];by_cases c:a=0/\1<=m/\m<=(aA D.x.ms:Int)
   ·grind
   omega
  refine⟨⟨H.hs,⟨dS,λm a=> ?_,λm a=> ?_,λa=> ?_,λa=> ?_,λm a=> ?_,λm a=> ?_,λa=> ?_,hC,by omega⟩,H.h8,H.hl,λa=>(H.fl a).trans (e1 a).symm,H.lg,H.gl,H.who,H.ob,H.bx,H.bl,H.st,H.ai⟩,rfl,rfl,rfl,rfl,rfl,rfl,rfl,⟨Mi,rfl⟩,rfl,e1,e2,lo,hi⟩
  ·refine jz (rU (e8 m a)) ?_;have:=H.bD.tN m a;by_cases c:a=0/\1<=m/\m<=(aA D.x.ms:Int)
   ·grind
   rw [ifN c];omega
  ·refine jz (rU (e9 m a)) ?_;have:=hF _ (H.bD.zo m a);show _<=(1099511627776:Int);by_cases c:a=0/\1<=m/\m<=(aA D.x.ms:Int)
   ·grind
   rw [ifN c];omega
  ·refine jz (rU (e3 a)) ?_;have:=hF _ (H.bD.AL a);have:=H.hs.li;show _<=(1099511627776:Int);split<;>omega
  ·refine jz (rU (e4 a)) ?_;have:=hF _ (H.bD.cap a);have:=H.hs.ca;show _<=(1099511627776:Int);split<;>omega
  ·have h1:=H.bD.lo m a;have h2:=lo m a;have h3:=e1 a;show _<=balA (aA D.x.ms) (aA D.x.ss+1) (eT D (fV D)) 7 m a+balA (aA D.x.ms) (aA D.x.ss+1) (eT D (fV D)) 8 m a-balA (aA D.x.ms) (aA D.x.ss+1) (eT D (fV D)) 1 0 a;omega
  ·have h1:=H.bD.hi m a;have h2:=hi m a;have h3:=e1 a;show balA (aA D.x.ms) (aA D.x.ss+1) (eT D (fV D)) 7 m a+balA (aA D.x.ms) (aA D.x.ss+1) (eT D (fV D)) 8 m a+balA (aA D.x.ms) (aA D.x.ss+1) (eT D (fV D)) 1 0 a<=_;omega
  have h1:=H.bD.es a;have h2:=e2 a;have h3:=e1 a;show balA (aA D.x.ms) (aA D.x.ss+1) (eT D (fV D)) 2 0 a+balA (aA D.x.ms) (aA D.x.ss+1) (eT D (fV D)) 1 0 a<=_;omega
 have el:eT D (fV D)=D.l:=by grind [eT]
 have eD:ME D= {D with en:=aO}:=by unfold ME;rw [el]
 rw [eD];have h8:=H.bD;refine⟨⟨H.hs,⟨h8.ok,h8.tN,λm a=> ?_,λa=> ?_,λa=> ?_,λm a=> ?_,λm a=> ?_,λa=> ?_,hC,by omega⟩,H.h8,H.hl,H.fl,H.lg,H.gl,H.who,H.ob,H.bx,H.bl,H.st,H.ai⟩,rfl,rfl,rfl,rfl,rfl,rfl,rfl,⟨Mi,rfl⟩,rfl,λ_=>rfl,λ_=>rfl,λm a=> ?_,λm a=>dM _⟩
 ·have:=hF _ (h8.zo m a);show _<=(1099511627776:Int);exact jz this (by decide)
 ·have:=hF _ (h8.AL a);show _<=(1099511627776:Int);exact jz this (by decide)
 ·have:=hF _ (h8.cap a);show _<=(1099511627776:Int);exact jz this (by decide)
 ·have:=h8.lo m a;show-(C+1099511627776)<=balA (aA D.x.ms) (aA D.x.ss+1) D.l 7 m a+balA (aA D.x.ms) (aA D.x.ss+1) D.l 8 m a-balA (aA D.x.ms) (aA D.x.ss+1) D.l 1 0 a;omega
 ·have:=h8.hi m a;show balA (aA D.x.ms) (aA D.x.ss+1) D.l 7 m a+balA (aA D.x.ms) (aA D.x.ss+1) D.l 8 m a+balA (aA D.x.ms) (aA D.x.ss+1) D.l 1 0 a<=_;omega
 ·have:=h8.es a;show balA (aA D.x.ms) (aA D.x.ss+1) D.l 2 0 a+balA (aA D.x.ms) (aA D.x.ss+1) D.l 1 0 a<=_;omega
 grind
def Bt(x:ak):Dk:=⟨x,gR ((aA x.ss+1)*(6+3*aA x.ms)) 0,[],[],[],[],0,0,aP,[]⟩
def a8u(x:ak)(w:aJ)(e:dU)(w':aJ):Prop:=∃db p Am cm As cs Ac cc,e=aT (bB #[bF (aC ⟨db,0,aB⟩),aG aF 0])/\bW w' db p (Bt {x with Am:=Am,cm:=cm,As:=As,cs:=cs,Ac:=Ac,cc:=cc})/\(∀k,eW db p k->w.heap.size<=k)/\aY w.heap.size w w'
theorem fM.made(w:aJ):fM (w.alloc (aK #[aH aB 0 0] 146)) w.heap.size 0 (aH aB 0 0) []:=⟨cO w _,fh _ _ _ _⟩
theorem a2P(x:ak)(w:aJ)(h:uq w x)(hk:zj x=0)(hm:aA x.ms<=16)(hs:aA x.ss<=8)(hc:aA x.cy<=100):
 aQ aM 10 #[x.val] w (a8u x w):=by
 have aZ:Hid (β w (w.alloc (aK #[aH x.Am (aA x.ms) x.cm,aH x.As (aA x.ss) x.cs,aH x.Ac (aA x.cy) x.cc,ν x.line,ν x.bV,ν x.lead,ν x.tr,ν x.bT] 26))):=η σ;have cY:Hid ((w.alloc (aK #[aH x.Am (aA x.ms) x.cm,aH x.As (aA x.ss) x.cs,aH x.Ac (aA x.cy) x.cc,ν x.line,ν x.bV,ν x.lead,ν x.tr,ν x.bT] 26)).heap[w.heap.size]? =aC (aK #[aH x.Am (aA x.ms) x.cm,aH x.As (aA x.ss) x.cs,aH x.Ac (aA x.cy) x.cc,ν x.line,ν x.bV,ν x.lead,ν x.tr,ν x.bT] 26 (0,0))):=η (cO w _);have hz0:w.heap.size<(w.alloc (aK #[aH x.Am (aA x.ms) x.cm,aH x.As (aA x.ss) x.cs,aH x.Ac (aA x.cy) x.cc,ν x.line,ν x.bV,ν x.lead,ν x.tr,ν x.bT] 26)).heap.size:=by simp
 have bX:=η (λW (hW:β w W)=>(aMC x W (h.below hW) (by omega) (by omega) (by omega)).mono (R':=λe w'=>∃nb Am cm As cs Ac cc,e=aT (bB #[π nb,ν 0])/\jA w' nb ({x with Am:=Am,cm:=cm,As:=As,cs:=cs,Ac:=Ac,cc:=cc}:ak) (aH aB 0 0) []/\wJ w' W.heap.size ({x with Am:=Am,cm:=cm,As:=As,cs:=cs,Ac:=Ac,cc:=cc}:ak)/\W.heap.size<=nb/\β W w') (by
  rintro e w' ⟨hb,⟨q1,_⟩|⟨_,nb,Am,cm,As,cs,Ac,cc,q2,q3,q4,q5⟩⟩
  ·exact absurd hk q1
  exact⟨nb,Am,cm,As,cs,Ac,cc,q2,q3,q4,q5,hb⟩))
 have JP:=η (λW=>aLd (aA x.ms) (aA x.ss+1) (aA x.ms) hm (by omega) (by omega) W);have Az:=η (λW (hW:β w W)=>a2R x W (h.below hW) (by omega) (by omega) (by omega));have HNS:=η (λW=>aIX W);clear h hk;unfold ak.val at bX Az ⊢;go_enter func10,ntmps10
 go_upto_region 1 with (fail)
 generalize w.alloc (aK #[aH x.Am (aA x.ms) x.cm,aH x.As (aA x.ss) x.cs,aH x.Ac (aA x.cy) x.cc,ν x.line,ν x.bV,ν x.lead,ν x.tr,ν x.bT] 26)=w0 at*;obtain⟨bx,bU⟩:∃bx,bx=w.heap.size:=⟨_,rfl⟩;rw [<-bU] at cY hz0 ⊢;clear bU;have fL:Hid (∀W,β w0 W->W.cell? ⟨bx,0,aB⟩=aC (aH x.Am (aA x.ms) x.cm)/\W.cell? ⟨bx,1,aB⟩=aC (aH x.As (aA x.ss) x.cs)/\W.cell? ⟨bx,2,aB⟩=aC (aH x.Ac (aA x.cy) x.cc)/\W.cell? ⟨bx,3,aB⟩=aC (ν x.line)/\W.cell? ⟨bx,4,aB⟩=aC (ν x.bV)/\W.cell? ⟨bx,5,aB⟩=aC (ν x.lead)/\W.cell? ⟨bx,6,aB⟩=aC (ν x.tr)/\W.cell? ⟨bx,7,aB⟩=aC (ν x.bT)):=η (λW hW=>by have hd:=(hW.block bx hz0).trans cY.o;exact⟨ρ hd,ρ hd,ρ hd,ρ hd,ρ hd,ρ hd,ρ hd,ρ hd⟩);have eI:Hid (∀W,β w0 W->β w W):=η (λW hW=>aZ.o.trans (hW.mono aZ.o.size));obtain⟨d0,d1,d2,d3,d4,d5,d6,d7⟩:=fL.o w0 (aX _ _);go_upto_region 2 with (go_at_call 30;refine(bX.o _ aZ.o).mono ?_;rintro e w1 ⟨nb,Am1,cm1,As1,cs1,Ac1,cc1,rfl,hx1,hc1,jJ,hb1⟩;have O3:Hid (β w0 w1):=η hb1;have o7:=η hx1;have wO:=η hc1;have oh:Hid (w.heap.size<=nb):=η (bz aZ.o.size jJ);clear hx1 hc1 jJ hb1)
 clear bX d0 d1 d2 d3 d4 d5 d6 d7 cY;obtain⟨d0,d1,d2,d3,d4,d5,d6,d7⟩:=fL.o w1 O3.o;have yH:=η (JP.o w1);rw [show (((aA x.ss+1:Nat)):Int)=(aA x.ss:Int)+1 from by omega] at yH;go_upto_region 5 with (go_at_call 31;refine yH.o.mono ?_;rintro e w2 ⟨vb,vp,rfl,hv2,hs2,hb2⟩;have uC:Hid (β w0 w2):=τ O3 hb2;have kQ:=η (o7.o.below hb2);have kN:=η (wO.o.below hb2);have Tv:=η hv2;have cM:Hid (∀k,qE vb vp k->w.heap.size<=k):=η (λk hk=>bz (eI.o _ O3.o).size (hs2 k hk));clear hv2 hs2 hb2)
 clear JP yH O3 o7 wO d0 d1 d2 d3 d4 d5 d6 d7;obtain⟨d0,d1,d2,d3,d4,d5,d6,d7⟩:=fL.o w2 uC.o;go_wp2_with (first|(go_at_call 32;refine(Az.o _ (eI.o _ uC.o)).mono ?_;rintro e w3 ⟨Am,cm,As,cs,Ac,cc,rfl,hc3,hb3⟩;have J6:Hid (β w0 w3):=τ uC hb3;have o8:=η (kQ.o.below hb3);have J8:=η (kN.o.below hb3);have JX:=η (Tv.o.below hb3);have Ky:=η hc3;(try unfold ak.val);(try simp only);clear hc3 hb3)|(go_at_call 33;refine(HNS.o _).mono ?_;rintro e w4 ⟨rfl,rfl⟩))
 go_ret2;have hA:β w3 (w3.alloc (aK #[aH aB 0 0] 146)):=(aX _ _).alloc (aa _) _;have hB:∀o,β w3 ((w3.alloc (aK #[aH aB 0 0] 146)).alloc o):=λo=>hA.alloc (by simp) _
 have hS:∀o,aY (w3.alloc (aK #[aH aB 0 0] 146)).heap.size (w3.alloc (aK #[aH aB 0 0] 146)) ((w3.alloc (aK #[aH aB 0 0] 146)).alloc o):=λo=>(aX _ _).alloc (aa _) _
 have hw3:w.heap.size<=w3.heap.size:=(eI.o _ J6.o).size;refine⟨w3.heap.size+1,⟨vb,vp,w3.heap.size,aH aB 0 0,nb,_,aH aB 0 0,aH aB 0 0,aH aB 0 0⟩,Am,cm,As,cs,Ac,cc,rfl,⟨Mj _ _ (by simp),⟨iC (gh Ky.o.m (hB _)) (bK _),iC (gh Ky.o.s (hB _)) (bK _),iC (gh Ky.o.c (hB _)) (bK _)⟩,JX.o.below (hB _),(fM.made w3).below (hS _),o8.o.below (hB _),⟨iC (gh J8.o.m (hB _)) (bK _),iC (gh J8.o.s (hB _)) (bK _),iC (gh J8.o.c (hB _)) (bK _)⟩,⟨rfl,rfl,rfl,rfl⟩,fh _ _ _ _,fh _ _ _ _⟩, ?_,(eI.o _ J6.o).trans ((hB _).mono hw3)⟩;rintro k (e|e|(e|e)|(e|e)|e|e)
 ·subst e;omega
 ·exact cM.o k e
 ·have e':k=w3.heap.size:=e;omega
 ·simp [dy] at e
 ·have e':k=nb:=e;have:=oh.o;omega
 ·simp [dy] at e
 ·simp [dy] at e
 simp [dy] at e
def a8s(D:Dk)(w:aJ)(e:dU)(w':aJ):Prop:=∃db p,e=aT (bF (aC ⟨db,0,aB⟩))/\bW w' db p D/\(∀k,eW db p k->w.heap.size<=k)/\aY w.heap.size w w'
theorem aEk(db:Nat)(p:Dp)(D:Dk)(w:aJ)(H:bW w db p D)(hO:fY D):
 aQ aM 42 #[π db] w (a8s D w):=by
 obtain⟨Aw,cw,hv⟩:=bL H.who;obtain⟨Al,cl,IP⟩:=bL H.log;have HF:=η H;have HO:=η hO;have cY:Hid ((w.alloc (aK #[aH D.x.Am (aA D.x.ms) D.x.cm,aH D.x.As (aA D.x.ss) D.x.cs,aH D.x.Ac (aA D.x.cy) D.x.cc,ν D.x.line,ν D.x.bV,ν D.x.lead,ν D.x.tr,ν D.x.bT,π p.vb,π p.sb,π p.xb,aH Aw (aA D.who) cw,ν D.ai,ν D.st,bJ D.en,aH Al (aA D.log) cl] 90)).heap[w.heap.size]? =aC (aK #[aH D.x.Am (aA D.x.ms) D.x.cm,aH D.x.As (aA D.x.ss) D.x.cs,aH D.x.Ac (aA D.x.cy) D.x.cc,ν D.x.line,ν D.x.bV,ν D.x.lead,ν D.x.tr,ν D.x.bT,π p.vb,π p.sb,π p.xb,aH Aw (aA D.who) cw,ν D.ai,ν D.st,bJ D.en,aH Al (aA D.log) cl] 90 (0,0))):=η (cO w _);have aZ:Hid (β w (w.alloc (aK #[aH D.x.Am (aA D.x.ms) D.x.cm,aH D.x.As (aA D.x.ss) D.x.cs,aH D.x.Ac (aA D.x.cy) D.x.cc,ν D.x.line,ν D.x.bV,ν D.x.lead,ν D.x.tr,ν D.x.bT,π p.vb,π p.sb,π p.xb,aH Aw (aA D.who) cw,ν D.ai,ν D.st,bJ D.en,aH Al (aA D.log) cl] 90))):=η σ;have hz0:w.heap.size<(w.alloc (aK #[aH D.x.Am (aA D.x.ms) D.x.cm,aH D.x.As (aA D.x.ss) D.x.cs,aH D.x.Ac (aA D.x.cy) D.x.cc,ν D.x.line,ν D.x.bV,ν D.x.lead,ν D.x.tr,ν D.x.bT,π p.vb,π p.sb,π p.xb,aH Aw (aA D.who) cw,ν D.ai,ν D.st,bJ D.en,aH Al (aA D.log) cl] 90)).heap.size:=by simp
 have HVC:=η (λW (hW:β w W)=>aLa p.vb p.vp (aA D.x.ms) (aA D.x.ss+1) (aA D.x.ms) D.l D.h W (H.below hW).vt (by have:=hO.hl;omega));have sZ:=η (λW (hW:β w W)=>aIU D.ob p.sv p.sb 0 W (H.below hW).sh (by have:=hO.ob.len;omega));have LZ:=η (λW (hW:β w W)=>aMB p.xc p.xv D.bx p.xb W (H.below hW).bx (by have:=hO.bl;omega));have xP:=H.lt;obtain⟨c0,c1,c2,c3,c4,c5,c6,c7,c8,c9,c10,c11,c12,c13,c14,c15⟩:=H.cells;rw [hv] at c11;rw [IP] at c15;have HV:=η hv;have rS:=η IP;clear H hO hv IP;go_enter func42,ntmps42
 go_upto_region 4 with (fail)
 clear c0 c1 c2 c3 c4 c5 c6 c7 c8 c9 c10 c11 c12 c13 c14 c15;generalize w.alloc (aK #[aH D.x.Am (aA D.x.ms) D.x.cm,aH D.x.As (aA D.x.ss) D.x.cs,aH D.x.Ac (aA D.x.cy) D.x.cc,ν D.x.line,ν D.x.bV,ν D.x.lead,ν D.x.tr,ν D.x.bT,π p.vb,π p.sb,π p.xb,aH Aw (aA D.who) cw,ν D.ai,ν D.st,bJ D.en,aH Al (aA D.log) cl] 90)=w1 at*;obtain⟨bx,bU⟩:∃bx,bx=w.heap.size:=⟨_,rfl⟩;have dL:=η bU;rw [<-bU] at cY hz0 ⊢;clear bU;have aR:Hid (β w w1.drew):=η aZ.o.drew;have px:Hid (∀W,β w W->W.cell? ⟨db,8,aB⟩=aC (π p.vb)/\W.cell? ⟨db,9,aB⟩=aC (π p.sb)/\W.cell? ⟨db,10,aB⟩=aC (π p.xb)):=η (λW hW=>by have c:=(HF.o.below hW).cells;exact⟨c.c8,c.c9,c.c10⟩);have d0:=px.o _ aR.o;have o7:Hid (w1.drew.heap[bx]? =aC (aK #[aH D.x.Am (aA D.x.ms) D.x.cm,aH D.x.As (aA D.x.ss) D.x.cs,aH D.x.Ac (aA D.x.cy) D.x.cc,ν D.x.line,ν D.x.bV,ν D.x.lead,ν D.x.tr,ν D.x.bT,π p.vb,π p.sb,π p.xb,aH Aw (aA D.who) cw,ν D.ai,ν D.st,bJ D.en,aH Al (aA D.log) cl] 90 (0,0))):=η cY.o;have iB:bx<w1.drew.heap.size:=hz0;clear cY aZ hz0;refine Yd (S:=λW=>W.cell? ⟨db,8,aB⟩=aC (π p.vb)/\W.cell? ⟨db,9,aB⟩=aC (π p.sb)/\W.cell? ⟨db,10,aB⟩=aC (π p.xb)) [15,16,17,18,19,20] (by kernel_rfl) d0 (λhHeld=> ?_);clear d0;generalize w1.drew=w2 at*;refine ld (i:=0) (v:=π db) rfl (by kernel_rfl) (by kernel_rfl) (by kernel_rfl) (by kernel_rfl) (by kernel_rfl) (by kernel_rfl) (λ_ _ _ h=>h) (aS ⟨by rfl,λw' hSw=>by obtain⟨s0,s1,s2⟩:=hSw;go_simp⟩) hHeld ?_;refine ld (i:=1) (v:=π db) rfl (by kernel_rfl) (by kernel_rfl) (by kernel_rfl) (by kernel_rfl) (by kernel_rfl) (by kernel_rfl) (λ_ _ _ h=>h) (aS ⟨by rfl,λw' hSw=>by obtain⟨s0,s1,s2⟩:=hSw;go_simp⟩) hHeld ?_;refine ld (i:=2) (v:=bF (aC ⟨db,8,aB⟩)) rfl (by kernel_rfl) (by kernel_rfl) (by kernel_rfl) (by kernel_rfl) (by kernel_rfl) (by kernel_rfl) (λ_ _ _ h=>h) (aS ⟨by rfl,λw' hSw=>by obtain⟨s0,s1,s2⟩:=hSw;go_simp⟩) hHeld ?_;refine ld (i:=3) (v:=π p.vb) rfl (by kernel_rfl) (by kernel_rfl) (by kernel_rfl) (by kernel_rfl) (by kernel_rfl) (by kernel_rfl) (λ_ _ _ h=>h) (aS ⟨by rfl,λw' hSw=>by obtain⟨s0,s1,s2⟩:=hSw;go_simp⟩) hHeld ?_;refine ld (i:=5) (v:=π db) rfl (by kernel_rfl) (by kernel_rfl) (by kernel_rfl) (by kernel_rfl) (by kernel_rfl) (by kernel_rfl) (λ_ _ _ h=>h) (aS ⟨by rfl,λw' hSw=>by obtain⟨s0,s1,s2⟩:=hSw;go_simp⟩) hHeld ?_;refine ld (i:=6) (v:=π db) rfl (by kernel_rfl) (by kernel_rfl) (by kernel_rfl) (by kernel_rfl) (by kernel_rfl) (by kernel_rfl) (λ_ _ _ h=>h) (aS ⟨by rfl,λw' hSw=>by obtain⟨s0,s1,s2⟩:=hSw;go_simp⟩) hHeld ?_;refine ld (i:=7) (v:=bF (aC ⟨db,9,aB⟩)) rfl (by kernel_rfl) (by kernel_rfl) (by kernel_rfl) (by kernel_rfl) (by kernel_rfl) (by kernel_rfl) (λ_ _ _ h=>h) (aS ⟨by rfl,λw' hSw=>by obtain⟨s0,s1,s2⟩:=hSw;go_simp⟩) hHeld ?_;refine ld (i:=8) (v:=π p.sb) rfl (by kernel_rfl) (by kernel_rfl) (by kernel_rfl) (by kernel_rfl) (by kernel_rfl) (by kernel_rfl) (λ_ _ _ h=>h) (aS ⟨by rfl,λw' hSw=>by obtain⟨s0,s1,s2⟩:=hSw;go_simp⟩) hHeld ?_;refine ld (i:=10) (v:=π db) rfl (by kernel_rfl) (by kernel_rfl) (by kernel_rfl) (by kernel_rfl) (by kernel_rfl) (by kernel_rfl) (λ_ _ _ h=>h) (aS ⟨by rfl,λw' hSw=>by obtain⟨s0,s1,s2⟩:=hSw;go_simp⟩) hHeld ?_;refine ld (i:=11) (v:=π db) rfl (by kernel_rfl) (by kernel_rfl) (by kernel_rfl) (by kernel_rfl) (by kernel_rfl) (by kernel_rfl) (λ_ _ _ h=>h) (aS ⟨by rfl,λw' hSw=>by obtain⟨s0,s1,s2⟩:=hSw;go_simp⟩) hHeld ?_;refine ld (i:=12) (v:=bF (aC ⟨db,10,aB⟩)) rfl (by kernel_rfl) (by kernel_rfl) (by kernel_rfl) (by kernel_rfl) (by kernel_rfl) (by kernel_rfl) (λ_ _ _ h=>h) (aS ⟨by rfl,λw' hSw=>by obtain⟨s0,s1,s2⟩:=hSw;go_simp⟩) hHeld ?_;refine ld (i:=13) (v:=π p.xb) rfl (by kernel_rfl) (by kernel_rfl) (by kernel_rfl) (by kernel_rfl) (by kernel_rfl) (by kernel_rfl) (λ_ _ _ h=>h) (aS ⟨by rfl,λw' hSw=>by obtain⟨s0,s1,s2⟩:=hSw;go_simp⟩) hHeld ?_;clear hHeld;refine tx (rs:= [4]) (by kernel_rfl) (by simp) ?_;refine gq.cons rfl (λK hK=> ?_) gq.nil;go_simp
 go_at_call 93
 refine(HVC.o _ aR.o).mono ?_;rintro e w3 ⟨Fb,nvp,rfl,hv3,nh,hb3⟩;have iI:Hid (β w2 w3):=η hb3;have ag:Hid (β w w3):=τ aR hb3;have JX:=η hv3;have iT:Hid (∀k,qE Fb nvp k->w.heap.size<=k):=η (λk hk=>bz aR.o.size (nh k hk));clear hv3 nh hb3;go_wp2_with fail
 refine hK.o _ _ (λ_=>px.o _ ag.o) (λ_=> ?_);clear hK K;refine tx (rs:= [9]) (by kernel_rfl) (by simp) ?_;refine gq.cons rfl (λK hK=> ?_) gq.nil;go_simp
 go_at_call 94
 refine(sZ.o _ ag.o).mono ?_;rintro e w4 ⟨Dr,nsv,rfl,j6,Wd,hb4⟩;have mf:Hid (β w2 w4):=τ iI hb4;have ar:Hid (β w w4):=τ ag hb4;have Om:=η (JX.o.below hb4);have jS:=η j6;have gK:Hid (w.heap.size<=Dr/\∀k,nsv.ownBlock=aC k->w.heap.size<=k):=η ⟨bz ag.o.size Wd,λk hk=>bz ag.o.size (j6.own.lt k hk).1⟩;clear j6 Wd hb4 JX;go_wp2_with fail
 refine hK.o _ _ (λ_=>px.o _ ar.o) (λ_=> ?_);clear hK K;refine tx (rs:= [14]) (by kernel_rfl) (by simp) ?_;refine gq.cons rfl (λK hK=> ?_) gq.nil;go_simp
 go_at_call 95
 refine(LZ.o _ ar.o).mono ?_;rintro e w5 ⟨Dt,nxv,rfl,FV,IA,iW,cd⟩;have EC:Hid (β w2 w5):=τ mf cd;have cV:Hid (β w w5):=τ ar cd;have Tw:=η (Om.o.below cd);have Ck:=η (jS.o.below cd);have HX5:=η FV;have om:Hid (w.heap.size<=Dt/\∀k,nxv.ownBlock=aC k->w.heap.size<=k):=η ⟨bz ar.o.size IA,λk hk=>bz ar.o.size (iW k hk)⟩;clear FV IA iW cd Om jS;go_wp2_with fail
 refine hK.o _ _ (λ_=>px.o _ cV.o) (λ_=> ?_);clear hK K;refine Fl (i:=15) (v:=bF (aC ⟨bx,8,aB⟩)) rfl (by kernel_rfl) (by kernel_rfl) (by kernel_rfl) (by kernel_rfl) (λ_ _ _ h=>h) (aS ⟨by rfl,λw' _=>by go_simp⟩) ?_;refine tx (rs:= [16]) (by kernel_rfl) (by simp) ?_;refine gq.cons rfl (λK hK=> ?_) gq.nil;have b5:=(EC.o.block bx iB).trans o7.o;have q8:=bH _ bx 8 _ _ (0,0) b5;have q9:=bH _ bx 9 _ _ (0,0) b5;have q10:=bH _ bx 10 _ _ (0,0) b5;have f0:∀j,w5.frozen? ⟨bx,j,aB⟩=aP:=λj=>by simp [iK,b5]
 have iv:=η b5;have a4D:bx<w5.heap.size:=cP iB EC.o.size;clear b5;go_simp
 refine hK.o _ _ (λh=>absurd h (by decide)) (λ_=> ?_);clear hK K;refine Fl (i:=17) (v:=bF (aC ⟨bx,9,aB⟩)) rfl (by kernel_rfl) (by kernel_rfl) (by kernel_rfl) (by kernel_rfl) (λ_ _ _ h=>h) (aS ⟨by rfl,λw' _=>by go_simp⟩) ?_;refine tx (rs:= [18]) (by kernel_rfl) (by simp) ?_;refine gq.cons rfl (λK hK=> ?_) gq.nil;go_simp
 refine hK.o _ _ (λh=>absurd h (by decide)) (λ_=> ?_);clear hK K;refine Fl (i:=19) (v:=bF (aC ⟨bx,10,aB⟩)) rfl (by kernel_rfl) (by kernel_rfl) (by kernel_rfl) (by kernel_rfl) (λ_ _ _ h=>h) (aS ⟨by rfl,λw' _=>by go_simp⟩) ?_;refine tx (rs:= [20]) (by kernel_rfl) (by simp) ?_;refine gq.cons rfl (λK hK=> ?_) gq.nil;go_simp
 refine hK.o _ _ (λh=>absurd h (by decide)) (λ_=> ?_);clear hK K;refine Yb (by kernel_rfl) ?_ _;clear q8 q9 q10 f0;have hX6:(((w5.setCell ⟨bx,8,aB⟩ (π Fb)).setCell ⟨bx,9,aB⟩ (π Dr)).setCell ⟨bx,10,aB⟩ (π Dt)).heap[bx]? =aC (aK #[aH D.x.Am (aA D.x.ms) D.x.cm,aH D.x.As (aA D.x.ss) D.x.cs,aH D.x.Ac (aA D.x.cy) D.x.cc,ν D.x.line,ν D.x.bV,ν D.x.lead,ν D.x.tr,ν D.x.bT,π Fb,π Dr,π Dt,aH Aw (aA D.who) cw,ν D.ai,ν D.st,bJ D.en,aH Al (aA D.log) cl] 90 (0,0)):=(lu (lu (lu iv.o 8 _) 9 _) 10 _).trans rfl;have QK:bC (λk=>k=bx) w5 (((w5.setCell ⟨bx,8,aB⟩ (π Fb)).setCell ⟨bx,9,aB⟩ (π Dr)).setCell ⟨bx,10,aB⟩ (π Dt)):=(((bC.refl (λk=>k=bx) w5).setCell (p:=⟨bx,8,aB⟩) (.inl rfl) _).setCell (p:=⟨bx,9,aB⟩) (.inl rfl) _).setCell (p:=⟨bx,10,aB⟩) (.inl rfl) _;have dW:w.heap.size<=bx:=by rw [dL.o];exact aa _
 have hB6:β w (((w5.setCell ⟨bx,8,aB⟩ (π Fb)).setCell ⟨bx,9,aB⟩ (π Dr)).setCell ⟨bx,10,aB⟩ (π Dt)):=uQ _ (uQ _ (uQ _ cV.o dW) dW) dW;have QJ:Ty w5 [90] bx:=⟨_,_,by decide,iv.o⟩;have no:∀ {T:List bY} {k:Nat},Ty w5 T k->(∀t∈T,t∉ [90])->¬k=bx:=λhk hd hs=>hk.apart (hs▸QJ) hd
 have Zy:=η (Tw.o.upd QK (λk hk=>no (Tw.o.ty hk) (by decide)));have Oh:=η (Ck.o.upd QK (λk hk=>no hk (by decide)));have qZ:=η (HX5.o.upd QK (λk hk=>no hk (by decide)));have iU:=η hX6;have gJ:=η hB6;have cC:=η dW;clear no QJ QK hX6 hB6 dW Tw Ck HX5 iv cV EC mf iI ar ag px o7 iB a4D HVC sZ LZ aR;generalize (((w5.setCell ⟨bx,8,aB⟩ (π Fb)).setCell ⟨bx,9,aB⟩ (π Dr)).setCell ⟨bx,10,aB⟩ (π Dt))=w6 at*;have aMk:=(HF.o.below gJ.o).lt;go_upto_region 5 with (fail)
 have pC:Hid (∀W,β w W->aW W W.heap.size Aw (D.who.map (aG aF))/\aW W W.heap.size Al (uU D.log)):=η (λW hW=>by have h1:=(HF.o.below hW).who;have h2:=(HF.o.below hW).log;rw [HV.o] at h1;rw [rS.o] at h2;exact⟨aW.cA h1,aW.cA h2⟩);have pB:Hid ((Aw=aB->aA D.who=0)/\(Al=aB->aA D.log=0)):=η (by have h1:=HF.o.who;have h2:=HF.o.log;rw [HV.o] at h1;rw [rS.o] at h2;exact⟨AU h1,AU h2⟩);have O4:=η (λW (hW:β w W)=>aE6 (aA D.who) (D.who.map (aG aF)) Aw cw W (pC.o W hW).1 (by simp) pB.o.1 (a4n D.who) (by have:=HO.o.wl;omega));have CQ:=η (λW (hW:β w W)=>aE3 (aA D.log) (uU D.log) Al cl W (pC.o W hW).2 (by rw [a3F]) pB.o.2 (a3G D.log) (by have:=HO.o.gl;omega));have px:Hid (∀W,β w W->W.cell? ⟨db,11,aB⟩=aC (aH Aw (aA D.who) cw)/\W.cell? ⟨db,15,aB⟩=aC (aH Al (aA D.log) cl)):=η (λW hW=>by have c:=(HF.o.below hW).cells;exact⟨by rw [<-HV.o];exact c.c11,by rw [<-rS.o];exact c.c15⟩);have O2:Hid (β w w6.drew):=η gJ.o.drew;have d0:=px.o _ O2.o;have HXD:Hid (w6.drew.heap[bx]? =aC (aK #[aH D.x.Am (aA D.x.ms) D.x.cm,aH D.x.As (aA D.x.ss) D.x.cs,aH D.x.Ac (aA D.x.cy) D.x.cc,ν D.x.line,ν D.x.bV,ν D.x.lead,ν D.x.tr,ν D.x.bT,π Fb,π Dr,π Dt,aH Aw (aA D.who) cw,ν D.ai,ν D.st,bJ D.en,aH Al (aA D.log) cl] 90 (0,0))):=η iU.o;have HV7:=η (Zy.o.below ((aX w6.heap.size w6).drew));have rP:=η (Oh.o.below ((aX w6.heap.size w6).drew));have Co:=η (qZ.o.below ((aX w6.heap.size w6).drew));clear iU gJ Zy Oh qZ pC pB;refine Yd (S:=λW=>W.cell? ⟨db,11,aB⟩=aC (aH Aw (aA D.who) cw)/\W.cell? ⟨db,15,aB⟩=aC (aH Al (aA D.log) cl)) [10,11,12,13] (by kernel_rfl) d0 (λhHeld=> ?_);clear d0;generalize w6.drew=w7 at*;refine ld (i:=0) (v:=π db) rfl (by kernel_rfl) (by kernel_rfl) (by kernel_rfl) (by kernel_rfl) (by kernel_rfl) (by kernel_rfl) (λ_ _ _ h=>h) (aS ⟨by rfl,λw' hSw=>by obtain⟨s0,s1⟩:=hSw;go_simp⟩) hHeld ?_;refine ld (i:=1) (v:=π db) rfl (by kernel_rfl) (by kernel_rfl) (by kernel_rfl) (by kernel_rfl) (by kernel_rfl) (by kernel_rfl) (λ_ _ _ h=>h) (aS ⟨by rfl,λw' hSw=>by obtain⟨s0,s1⟩:=hSw;go_simp⟩) hHeld ?_;refine ld (i:=2) (v:=bF (aC ⟨db,11,aB⟩)) rfl (by kernel_rfl) (by kernel_rfl) (by kernel_rfl) (by kernel_rfl) (by kernel_rfl) (by kernel_rfl) (λ_ _ _ h=>h) (aS ⟨by rfl,λw' hSw=>by obtain⟨s0,s1⟩:=hSw;go_simp⟩) hHeld ?_;refine ld (i:=3) (v:=aH Aw (aA D.who) cw) rfl (by kernel_rfl) (by kernel_rfl) (by kernel_rfl) (by kernel_rfl) (by kernel_rfl) (by kernel_rfl) (λ_ _ _ h=>h) (aS ⟨by rfl,λw' hSw=>by obtain⟨s0,s1⟩:=hSw;go_simp⟩) hHeld ?_;refine ld (i:=5) (v:=π db) rfl (by kernel_rfl) (by kernel_rfl) (by kernel_rfl) (by kernel_rfl) (by kernel_rfl) (by kernel_rfl) (λ_ _ _ h=>h) (aS ⟨by rfl,λw' hSw=>by obtain⟨s0,s1⟩:=hSw;go_simp⟩) hHeld ?_;refine ld (i:=6) (v:=π db) rfl (by kernel_rfl) (by kernel_rfl) (by kernel_rfl) (by kernel_rfl) (by kernel_rfl) (by kernel_rfl) (λ_ _ _ h=>h) (aS ⟨by rfl,λw' hSw=>by obtain⟨s0,s1⟩:=hSw;go_simp⟩) hHeld ?_;refine ld (i:=7) (v:=bF (aC ⟨db,15,aB⟩)) rfl (by kernel_rfl) (by kernel_rfl) (by kernel_rfl) (by kernel_rfl) (by kernel_rfl) (by kernel_rfl) (λ_ _ _ h=>h) (aS ⟨by rfl,λw' hSw=>by obtain⟨s0,s1⟩:=hSw;go_simp⟩) hHeld ?_;refine ld (i:=8) (v:=aH Al (aA D.log) cl) rfl (by kernel_rfl) (by kernel_rfl) (by kernel_rfl) (by kernel_rfl) (by kernel_rfl) (by kernel_rfl) (λ_ _ _ h=>h) (aS ⟨by rfl,λw' hSw=>by obtain⟨s0,s1⟩:=hSw;go_simp⟩) hHeld ?_;clear hHeld;refine tx (rs:= [4]) (by kernel_rfl) (by simp) ?_;refine gq.cons rfl (λK hK=> ?_) gq.nil;go_simp
 go_at_call 40
 refine(O4.o _ O2.o).mono ?_;rintro e w8 ⟨nwv,rfl,how,kF⟩;have iI:Hid (β w7 w8):=η kF;have lM:Hid (β w w8):=τ O2 kF;have HOW:=η (iC how O2.o.size);clear how kF;go_wp2_with fail
 refine hK.o _ _ (λ_=>px.o _ lM.o) (λ_=> ?_);clear hK K;refine tx (rs:= [9]) (by kernel_rfl) (by simp) ?_;refine gq.cons rfl (λK hK=> ?_) gq.nil;go_simp
 go_at_call 34
 refine(CQ.o _ lM.o).mono ?_;rintro e w9 ⟨nlv,rfl,ky,gM⟩;have mf:Hid (β w7 w9):=τ iI gM;have oX:Hid (β w w9):=τ lM gM;have Oc:=η (gh HOW.o gM);have EN:=η (iC ky lM.o.size);clear ky gM HOW;go_wp2_with fail
 refine hK.o _ _ (λ_=>px.o _ oX.o) (λ_=> ?_);clear hK K;obtain⟨E7,Gz,hv2⟩:=bL Oc.o;obtain⟨Yf,cl2,aGv⟩:=bL EN.o;subst hv2 aGv;have a4E:bx<w7.heap.size:=(fX.1 HXD.o).1;refine Fl (i:=10) (v:=bF (aC ⟨bx,11,aB⟩)) rfl (by kernel_rfl) (by kernel_rfl) (by kernel_rfl) (by kernel_rfl) (λ_ _ _ h=>h) (aS ⟨by rfl,λw' _=>by go_simp⟩) ?_;refine tx (rs:= [11]) (by kernel_rfl) (by simp) ?_;refine gq.cons rfl (λK hK=> ?_) gq.nil;have b9:=(mf.o.block bx a4E).trans HXD.o;have q11:=bH _ bx 11 _ _ (0,0) b9;have q15:=bH _ bx 15 _ _ (0,0) b9;have f0:∀j,w9.frozen? ⟨bx,j,aB⟩=aP:=λj=>by simp [iK,b9]
 have iv:=η b9;have aMf:bx<w9.heap.size:=cP a4E mf.o.size;clear b9;go_simp
 refine hK.o _ _ (λh=>absurd h (by decide)) (λ_=> ?_);clear hK K;refine Fl (i:=12) (v:=bF (aC ⟨bx,15,aB⟩)) rfl (by kernel_rfl) (by kernel_rfl) (by kernel_rfl) (by kernel_rfl) (λ_ _ _ h=>h) (aS ⟨by rfl,λw' _=>by go_simp⟩) ?_;refine tx (rs:= [13]) (by kernel_rfl) (by simp) ?_;refine gq.cons rfl (λK hK=> ?_) gq.nil;go_simp
 refine hK.o _ _ (λh=>absurd h (by decide)) (λ_=> ?_);clear hK K;refine Yb (by kernel_rfl) ?_ _;clear q11 q15 f0;go_wp2_with fail
 go_ret;have hU:bC (λk=>k=bx) w9 ((w9.setCell ⟨bx,11,aB⟩ (aH E7 (aA D.who) Gz)).setCell ⟨bx,15,aB⟩ (aH Yf (aA D.log) cl2)):=((bC.refl (λk=>k=bx) w9).setCell (p:=⟨bx,11,aB⟩) (.inl rfl) _).setCell (p:=⟨bx,15,aB⟩) (.inl rfl) _;have QJ:Ty w9 [90] bx:=⟨_,_,by decide,iv.o⟩;have no:∀ {T:List bY} {k:Nat},Ty w9 T k->(∀t∈T,t∉ [90])->¬k=bx:=λhk hd hs=>hk.apart (hs▸QJ) hd
 have L3:=HF.o.below oX.o;have Zz:=HV7.o.below mf.o;have Cl:=rP.o.below mf.o;have Oq:=Co.o.below mf.o;refine⟨bx,⟨Fb,nvp,Dr,nsv,Dt,p.xc,nxv,aH E7 (aA D.who) Gz,aH Yf (aA D.log) cl2⟩,rfl,⟨(lu (lu iv.o 11 _) 15 _).trans rfl,L3.cf.upd hU (λk hk=>no hk (by decide)),Zz.upd hU (λk hk=>no (Zz.ty hk) (by decide)),⟨(Cl.upd hU (λk hk=>no hk (by decide))).s,iC (Cl.upd hU (λk hk=>no hk (by decide))).own (bK _)⟩,Oq.upd hU (λk hk=>no hk (by decide)),L3.E6.upd hU (λk hk=>no hk (by decide)),HF.o.same,iC (hU.own Oc.o (λk hk=>no (Ty.own Oc.o hk) (by decide))) (bK _),iC (hU.own EN.o (λk hk=>no (Ty.own EN.o hk) (by decide))) (bK _)⟩, ?_,uQ _ (uQ _ oX.o cC.o) cC.o⟩;rintro k (e|e|(e|e)|(e|e)|e|e)
 ·subst e;exact cC.o
 ·exact iT.o k e
 ·have e':k=Dr:=e;have:=gK.o.1;omega
 ·exact gK.o.2 k e
 ·have e':k=Dt:=e;have:=om.o.1;omega
 ·exact om.o.2 k e
 ·exact(Oc.o.lt k e).1
 exact(EN.o.lt k e).1
def aAN(w:aJ)(e:dU)(w':aJ):Prop:=∃(Am:Option aj) (cm:Nat) (As:Option aj) (cs:Nat) (Ac:Option aj) (cc:Nat),
 e=aT (ak.val ⟨[⟨1000,100⟩,⟨1000,100⟩,⟨1000,100⟩],Am,cm,[⟨10,12⟩],As,cs,[⟨4,7,9,10⟩],Ac,cc,500,200,1,64,32⟩)/\uq w' ⟨[⟨1000,100⟩,⟨1000,100⟩,⟨1000,100⟩],Am,cm,[⟨10,12⟩],As,cs,[⟨4,7,9,10⟩],Ac,cc,500,200,1,64,32⟩/\β w w'
theorem aJP(w:aJ):aQ aM 24 #[aG aF 3,aG aF 1,aG aF 1] w (aAN w):=by
 obtain⟨i0,bu,hz0,ft,hz2⟩:=dJ aHm;obtain⟨j0,yb,KO,aGy,nE⟩:=dJ aKK;obtain⟨k0,eY,hx0,aGx,hx2⟩:=dJ aDQ;have HST:=η (aJO w);go_enter func24,ntmps24
 go_wp2_with fail
 refine(XS _ _ _ _ (by omega) (by omega)).mono ?_;rintro e w1 ⟨rfl,rfl⟩;go_wp2_with fail
 go_loopw [12] (λi wr=>∃k:Nat,k<=3/\i=aG aF k/\Hid (∃v,ik w wr v (aH aB 0 0) (aH aB 0 0) (gR k ⟨1000,100⟩) [] [])) (λi _=>3-(af i).toNat)
 case atStart=>exact⟨0,bK _,rfl,⟨_,HST.o⟩⟩
 case round=>
  obtain⟨k,hk,rfl,HP⟩:=hrel;obtain⟨v,hp⟩:=HP.o;have HQ:=η hp;have q0:wr.cell? ⟨w.heap.size+1,0,aB⟩=aC v:=hp.c 0;have ql:=hp.lt;by_cases hlt:k<3
  ·go_wp2_with (at_builtin;refine iZ _ rfl _ _ 22 rfl (w.heap.size+2) 67 i0 _ 2 16 underlying22 bu hz0 ft hz2 rfl (by decide) _ (aA (gR k (⟨1000,100⟩:Pr))) (gp (gR k ⟨1000,100⟩)) rfl (HQ.o.o0.alloc _) ⟨wr.heap.size,0,aB⟩ 1 1 [aG aF 1000,aG aF 100] rfl rfl (dK _ _ #[_,_] (by simp)) SQ (by simp only [bM,Cs];omega) (by simp only [Cs];omega) (by simp;omega) ?_)
   intro v' w4 hown1 dG _;obtain⟨A',c',rfl⟩:=bL hown1;obtain⟨r0,r1,r2⟩:=HQ.o.m0 dG;have HN:=η (HQ.o.m (y:=⟨1000,100⟩) (by rw [Cs];exact hown1) dG);rw [<-a6m] at HN;clear hown1 dG q0 ql;go_wp2_with fail
   go_roundw
   case rel=>exact⟨k+1,by omega,by go_num,⟨_,HN.o⟩⟩
   case measure=>simp [af];omega
  obtain rfl:k=3:=by omega
  clear q0 ql;obtain⟨wo,rfl⟩:∃wo:aJ,wo=wr:=⟨_,rfl⟩;have BC:Hid (ik w wo v (aH aB 0 0) (aH aB 0 0) [⟨1000,100⟩,⟨1000,100⟩,⟨1000,100⟩] [] []):=HQ.o;go_wp2_with fail
  refine(XS _ _ _ _ (by omega) (by omega)).mono ?_;rintro e w1 ⟨rfl,rfl⟩;go_wp2_with fail
  go_loopw [23] (λi wr=>∃k:Nat,k<=1/\i=aG aF k/\Hid (∃v1,ik w wr v v1 (aH aB 0 0) [⟨1000,100⟩,⟨1000,100⟩,⟨1000,100⟩] (gR k ⟨10,12⟩) [])) (λi _=>1-(af i).toNat)
  case atStart=>exact⟨0,bK _,rfl,⟨_,BC.o⟩⟩
  case round=>
   obtain⟨k,hk,rfl,HP⟩:=hrel;obtain⟨v1,hp⟩:=HP.o;have HQ:=η hp;have q0:wr.cell? ⟨w.heap.size+1,1,aB⟩=aC v1:=hp.c 1;have ql:=hp.lt;by_cases hlt:k<1
   ·go_wp2_with (at_builtin;refine iZ _ rfl _ _ 23 rfl (w.heap.size+2) 69 j0 _ 2 16 underlying23 yb KO aGy nE rfl (by decide) _ (aA (gR k (⟨10,12⟩:Pr))) (gp (gR k ⟨10,12⟩)) rfl (HQ.o.o1.alloc _) ⟨wr.heap.size,0,aB⟩ 1 1 [aG aF 10,aG aF 12] rfl rfl (dK _ _ #[_,_] (by simp)) SQ (by simp only [bM,Cs];omega) (by simp only [Cs];omega) (by simp;omega) ?_)
    intro v' w4 hown1 dG _;obtain⟨A',c',rfl⟩:=bL hown1;obtain⟨r0,r1,r2⟩:=HQ.o.s0 dG;have HN:=η (HQ.o.s (y:=⟨10,12⟩) (by rw [Cs];exact hown1) dG);rw [<-a6m] at HN;clear hown1 dG q0 ql;go_wp2_with fail
    go_roundw
    case rel=>exact⟨k+1,by omega,by go_num,⟨_,HN.o⟩⟩
    case measure=>simp [af];omega
   obtain rfl:k=1:=by omega
   clear q0 ql;obtain⟨wp,rfl⟩:∃wp:aJ,wp=wr:=⟨_,rfl⟩;have lR:Hid (ik w wp v v1 (aH aB 0 0) [⟨1000,100⟩,⟨1000,100⟩,⟨1000,100⟩] [⟨10,12⟩] []):=HQ.o;go_wp2_with fail
   refine(XS _ _ _ _ (by omega) (by omega)).mono ?_;rintro e w1 ⟨rfl,rfl⟩;go_wp2_with fail
   go_loopw [8,34] (λ_ i wr=>∃k:Nat,k<=1/\i=aG aF k/\Hid (∃v2,ik w wr v v1 v2 [⟨1000,100⟩,⟨1000,100⟩,⟨1000,100⟩] [⟨10,12⟩] (gR k ⟨4,7,9,10⟩))) (λ_ i _=>1-(af i).toNat)
   case atStart=>exact⟨0,bK _,rfl,⟨_,lR.o⟩⟩
   case round=>
    obtain⟨k,hk,rfl,HP⟩:=hrel;obtain⟨v2,hp⟩:=HP.o;by_cases hlt:k<1
    ·obtain rfl:k=0:=by omega
     have HQ:=η hp;have q0:wr.cell? ⟨w.heap.size+1,2,aB⟩=aC v2:=hp.c 2;have ql:=hp.lt;go_wp2_with (at_builtin;refine iZ _ rfl _ _ 24 rfl (w.heap.size+2) 71 k0 _ 4 32 underlying24 eY hx0 aGx hx2 rfl (by decide) _ 0 [] rfl (HQ.o.o2.alloc _) ⟨wr.heap.size,0,aB⟩ 1 1 [aG aF 4,aG aF 7,aG aF 9,aG aF 10] rfl rfl (dK _ _ #[_,_,_,_] (by simp)) a3N (by simp only [bM];omega) (by omega) (by simp;omega) ?_)
     intro v' w4 hown1 dG _;obtain⟨A',c',rfl⟩:=bL hown1;obtain⟨r0,r1,r2⟩:=HQ.o.y0 dG;have HN:=η (HQ.o.y (y:=⟨4,7,9,10⟩) hown1 dG);clear hown1 dG q0 ql;go_wp2_with fail
     go_roundw
     case rel=>exact⟨1,by omega,by go_num,⟨_,HN.o⟩⟩
     case measure=>simp [af]
    obtain rfl:k=1:=by omega
    have HQ:Hid (ik w wr v v1 v2 [⟨1000,100⟩,⟨1000,100⟩,⟨1000,100⟩] [⟨10,12⟩] [⟨4,7,9,10⟩]):=hp;obtain⟨A0,n0,rfl⟩:=bL HQ.o.o0;obtain⟨A1,n1,rfl⟩:=bL HQ.o.o1;obtain⟨A2,n2,rfl⟩:=bL HQ.o.o2;have q0:wr.cell? ⟨w.heap.size+1,0,aB⟩=aC (aH A0 3 n0):=HQ.o.c 0;have q1:wr.cell? ⟨w.heap.size+1,1,aB⟩=aC (aH A1 1 n1):=HQ.o.c 1;have q2:wr.cell? ⟨w.heap.size+1,2,aB⟩=aC (aH A2 1 n2):=HQ.o.c 2;have q3:wr.cell? ⟨w.heap.size+1,3,aB⟩=aC (aG aF 500):=HQ.o.c 3;have q4:wr.cell? ⟨w.heap.size+1,4,aB⟩=aC (aG aF 200):=HQ.o.c 4;have q5:wr.cell? ⟨w.heap.size+1,5,aB⟩=aC (aG aF 1):=HQ.o.c 5;have q6:wr.cell? ⟨w.heap.size+1,6,aB⟩=aC (aG aF 64):=HQ.o.c 6;have q7:wr.cell? ⟨w.heap.size+1,7,aB⟩=aC (aG aF 32):=HQ.o.c 7;have r0:wr.cell? ⟨w.heap.size,0,aB⟩=aC (aH aB 0 0):=HQ.o.r 0;have r1:wr.cell? ⟨w.heap.size,1,aB⟩=aC (aH aB 0 0):=HQ.o.r 1;have r2:wr.cell? ⟨w.heap.size,2,aB⟩=aC (aH aB 0 0):=HQ.o.r 2;have r3:wr.cell? ⟨w.heap.size,3,aB⟩=aC (aG aF 0):=HQ.o.r 3;have r4:wr.cell? ⟨w.heap.size,4,aB⟩=aC (aG aF 0):=HQ.o.r 4;have r5:wr.cell? ⟨w.heap.size,5,aB⟩=aC (aG aF 0):=HQ.o.r 5;have r6:wr.cell? ⟨w.heap.size,6,aB⟩=aC (aG aF 0):=HQ.o.r 6;have r7:wr.cell? ⟨w.heap.size,7,aB⟩=aC (aG aF 0):=HQ.o.r 7;have g0:=HQ.o.rf;go_wp2_with fail
    obtain⟨hR,p0,p1,p2,yX⟩:=((((((((HQ.o.two).set 0 (aH A0 3 n0)).set 1 (aH A1 1 n1)).set 2 (aH A2 1 n2)).set 3 (aG aF 500)).set 4 (aG aF 200)).set 5 (aG aF 1)).set 6 (aG aF 64)).set 7 (aG aF 32);rw [aKU] at hR;have ER:=η hR;have wP:=η p0;have xz:=η p1;have mh:=η p2;have wM:=η yX;clear hR p0 p1 p2 yX q0 q1 q2 q3 q4 q5 q6 q7 r0 r1 r2 r3 r4 r5 r6 r7 g0 HQ;generalize (((((((wr.setCell ⟨w.heap.size,0,aB⟩ (aH A0 3 n0)).setCell ⟨w.heap.size,1,aB⟩ (aH A1 1 n1)).setCell ⟨w.heap.size,2,aB⟩ (aH A2 1 n2)).setCell ⟨w.heap.size,3,aB⟩ (aG aF 500)).setCell ⟨w.heap.size,4,aB⟩ (aG aF 200)).setCell ⟨w.heap.size,5,aB⟩ (aG aF 1)).setCell ⟨w.heap.size,6,aB⟩ (aG aF 64)).setCell ⟨w.heap.size,7,aB⟩ (aG aF 32)=W8 at*;have r0:W8.cell? ⟨w.heap.size,0,aB⟩=aC (aH A0 3 n0):=(ρ ER.o).trans rfl;have r1:W8.cell? ⟨w.heap.size,1,aB⟩=aC (aH A1 1 n1):=(ρ ER.o).trans rfl;have r2:W8.cell? ⟨w.heap.size,2,aB⟩=aC (aH A2 1 n2):=(ρ ER.o).trans rfl;have r3:W8.cell? ⟨w.heap.size,3,aB⟩=aC (aG aF 500):=(ρ ER.o).trans rfl;have r4:W8.cell? ⟨w.heap.size,4,aB⟩=aC (aG aF 200):=(ρ ER.o).trans rfl;have r5:W8.cell? ⟨w.heap.size,5,aB⟩=aC (aG aF 1):=(ρ ER.o).trans rfl;have r6:W8.cell? ⟨w.heap.size,6,aB⟩=aC (aG aF 64):=(ρ ER.o).trans rfl;have r7:W8.cell? ⟨w.heap.size,7,aB⟩=aC (aG aF 32):=(ρ ER.o).trans rfl;exact bodyPost_ret (v:=bQ #[aH A0 3 n0,aH A1 1 n1,aH A2 1 n2,aG aF 500,aG aF 200,aG aF 1,aG aF 64,aG aF 32]) (by simp [results,results24,go_sem,r0,r1,r2,r3,r4,r5,r6,r7]) rfl ⟨A0,n0,A1,n1,A2,n2,rfl,⟨⟨aW.cA wP.o,aW.cA xz.o,aW.cA mh.o⟩,λe=>by have:=AU wP.o e;omega,λe=>by have:=AU xz.o e;omega,λe=>by have:=AU mh.o e;omega⟩,wM.o⟩
section
open Go.Lib
def Ha:Nat->Nat->List Nat
 |0,_=> []
 |n+1,v=>v % 65536::Ha n (v/65536)
def val:List Nat->Nat
 | []=>0
 |x::xs=>x+65536*val xs
theorem a2i:∀(ns:List Nat),(∀x∈ns,x<65536)->ns=Ha (aA ns) (val ns)
 | [],_=>rfl
 |x::xs,h=>by
  have h1:=h x (by simp);have ih:=a2i xs λy hy=>h y (by simp [hy])
  simp only [uL,Ha,val];have e1:(x+65536*val xs) % 65536=x:=by omega
  have e2:(x+65536*val xs)/65536=val xs:=by omega
  rw [e1,e2,<-ih]
theorem a5W(a:Nat)(ha:a<18446744073709551616):bits .and .u64 (a:Int) 65535=((a % 65536:Nat):Int):=by have h:=bits_and_u64_nat a 65535 ha (by omega);have e:a&&&65535=a % 65536:=Nat.and_two_pow_sub_one_eq_mod a 16;rw [e] at h;exact h
end
section
open Go.Lib Go.Sort
theorem YU:∀(ns:List Nat) (j:Nat) (hj:j<aA ns) (t:Nat),val (ns.set j t)+ns[j]*65536^j=val ns+t*65536^j
 | [],_,hj,_=>by simp at hj
 |x::xs,0,_,t=>by simp [val];omega
 |x::xs,j+1,hj,t=>by have ih:=YU xs j (by simpa using hj) t;simp only [List.set_cons_succ,val,a9w,P5];rw [<-P4,<-P4];omega
section
variable {w w':aJ} {b B:Nat} {ns:List Nat}
end
def upto(x:Nat->Nat):Nat->Nat
 |0=>0
 |k+1=>upto x k+x k*65536^k
end
section
open Go.Lib Go.Sort
end
section
open Go.Lib Go.Sort Go.Proofs.YtdokipdchlcmeaaGreat.pH Go.Proofs.YtdokipdchlcmeaaGreat.ShareLaw
end
section
open Go.Lib Go.Sort Go.Proofs.YtdokipdchlcmeaaGreat.pH Go.Proofs.YtdokipdchlcmeaaGreat.ShareLaw
section
variable {w wr w':aJ} {u v u':aN} {n:Nat} {ps rs:List Int}
end
section
variable {T S:Int} {W:Nat->Int} {n:Nat}
end
end
section
open Go.Lib Go.Sort
def tC(w:aJ)(b:Nat)(ns:List Nat):Prop:=w.heap[b]? =aC (aK (ns.map λ(n:Nat)=>aG .u64 (n:Int)).toArray 281 (0,0))
section
variable {w w':aJ} {b B:Nat} {ns:List Nat}
theorem tC.cell(h:tC w b ns) {i:Nat}(hi:i<aA ns):w.cell? ⟨b,i,aB⟩=aC (aG .u64 (ns[i]:Int)):=by rw [bH w b i _ 281 (0,0) h];simp [hi]
theorem tC.free(h:tC w b ns)(i:Nat):w.frozen? ⟨b,i,aB⟩=aP:=Jy w b i _ 281 h
theorem tC.drew(h:tC w b ns):tC w.drew b ns:=h
theorem tC.set(h:tC w b ns)(i:Nat)(v:Nat):tC (w.setCell ⟨b,i,aB⟩ (aG .u64 (v:Int))) b (ns.set i v):=by unfold tC at*;rw [setCell_eq,mapBlock,Array.getElem?_modify,ifP rfl,h];simp [onCells,List.map_set]
theorem tC.new(w:aJ)(ns:List Nat):tC (w.alloc (aK (ns.map λ(n:Nat)=>aG .u64 (n:Int)).toArray 281)) w.heap.size ns:=cO w _
end
structure MJ(bn Y M:Nat)(x y:Nat->Nat)(i k:Nat)(w3:aJ)(ns:List Nat)(wr:aJ):Prop where
 len:aA ns=8
 row:tC wr bn ns
 vl:val ns=upto x i*Y+x i*65536^i*upto y k
 bd:∀j (h:j<aA ns),ns[j]<=(4*i+k)*M
 b:aY bn w3 wr
theorem MJ.next {bn i Y M:Nat} {x y:Nat->Nat} {w3 wr:aJ} {ns:List Nat}(hY:upto y 4=Y)(h:MJ bn Y M x y i 4 w3 ns wr):MJ bn Y M x y (i+1) 0 w3 ns wr:=by
 refine⟨h.len,h.row, ?_,λj hj=> ?_,h.b⟩
 ·rw [h.vl,hY,show upto x (i+1)=upto x i+x i*65536^i from rfl,show upto y 0=0 from rfl,aAD,GY,GX]
 have:=h.bd j hj;rw [show 4*(i+1)+0=4*i+4 by omega];exact this
theorem MJ.step {bn i k p j Y M:Nat} {x y:Nat->Nat} {w3 wr:aJ} {ns:List Nat}(h:MJ bn Y M x y i k w3 ns wr)(hj:j<aA ns)(jq:j=i+k)(hp:p=x i*y k)(hpl:p<=M):MJ bn Y M x y i (k+1) w3 (ns.set j (ns[j]+p)) (wr.setCell ⟨bn,j,aB⟩ (aG .u64 ((ns[j]+p:Nat):Int))).drew:=by
 refine⟨by rw [yL];exact h.len,(h.row.set j (ns[j]+p)).drew, ?_,λq hq=> ?_,(h.b.setCell (aa _) _).drew⟩
 ·have hv:=YU ns j hj (ns[j]+p);have e:p*65536^j=x i*65536^i*(y k*65536^k):=by
   rw [hp,jq,Nat.pow_add];simp only [P4,Nat.mul_left_comm]
  rw [GX,h.vl,e] at hv;rw [show upto y (k+1)=upto y k+y k*65536^k from rfl,Nat.mul_add];generalize x i*65536^i*(y k*65536^k)=A at*;generalize ns[j]*65536^j=B at*;generalize x i*65536^i*upto y k=C at*;generalize upto x i*Y=D at*;omega
 rw [yL] at hq;have h1:=h.bd q hq;have e:(4*i+(k+1))*M=(4*i+k)*M+M:=by rw [<-Nat.add_assoc,GX,Nat.one_mul]
 rw [UF,e];split
 ·rename_i c;subst c;omega
 omega
structure CJ(bn V i c:Nat)(w4:aJ)(ns:List Nat)(wr:aJ):Prop where
 len:aA ns=8
 row:tC wr bn ns
 lo:∀j (h:j<aA ns),j<i->ns[j]<65536
 bd:∀j (h:j<aA ns),ns[j]<=68717379600
 cb:c<=68717379600
 vl:val ns+c*65536^i=V
 b:aY bn w4 wr
theorem CJ.step {bn V i c t:Nat} {w4 wr:aJ} {ns:List Nat}(h:CJ bn V i c w4 ns wr)(hi:i<aA ns)(ht:t=ns[i]+c):CJ bn V (i+1) (t/65536) w4 (ns.set i (t % 65536)) ((wr.setCell ⟨bn,i,aB⟩ (aG .u64 (t:Int))).setCell ⟨bn,i,aB⟩ (aG .u64 ((t % 65536:Nat):Int))):=by
 have hb:=h.bd i hi;have hc:=h.cb;refine⟨by rw [yL];exact h.len, ?_,λj hj jq=> ?_,λj hj=> ?_,by omega, ?_,(h.b.setCell (aa _) _).setCell (aa _) _⟩
 ·have:=(h.row.set i t).set i (t % 65536);rw [List.set_set] at this;exact this
 ·rw [yL] at hj;rw [UF];split
  ·omega
  exact h.lo j hj (by omega)
 ·rw [yL] at hj;rw [UF];split
  ·omega
  exact h.bd j hj
 have hv:=YU ns i hi (t % 65536);have h1:=h.vl;rw [P5,<-P4,aAC];have e:t/65536*65536*65536^i+t % 65536*65536^i=ns[i]*65536^i+c*65536^i:=by rw [<-GX,<-GX];congr 1;omega
 generalize t/65536*65536*65536^i=A at*;generalize t % 65536*65536^i=B at*;generalize ns[i]*65536^i=C at*;generalize c*65536^i=D at*;omega
theorem CJ.ends {bn V c:Nat} {w4 wr:aJ} {ns:List Nat}(h:CJ bn V 8 c w4 ns wr)(hV:V<340282366920938463463374607431768211456):ns=Ha 8 V:=by
 have h1:=h.vl;have hc:c=0:=by
  rcases Nat.eq_zero_or_pos c with e|e
  ·exact e
  exfalso;have:1*65536^8<=c*65536^8:=Ec _ e;have e8:(65536:Nat)^8=340282366920938463463374607431768211456:=by decide
  rw [e8] at h1 this;omega
 rw [hc,Nat.zero_mul,GY] at h1;have hd:=a2i ns λx hx=>by obtain⟨j,hj,rfl⟩:=tB.1 hx;exact h.lo j hj (by have:=h.len;omega)
 rw [h.len,h1] at hd;exact hd
def rZ(a j:Nat):Nat:=a/65536^j % 65536
theorem a8L(a:Nat):∀k,upto (rZ a) k+a/65536^k*65536^k=a
 |0=>by simp [upto]
 |k+1=>by
  have ih:=a8L a k;have h:=Li (a/65536^k) 65536;rw [Nat.div_div_eq_div_mul,<-P5] at h;show upto (rZ a) k+a/65536^k % 65536*65536^k+a/65536^(k+1)*65536^(k+1)=a;have e:a/65536^k*65536^k=a/65536^k % 65536*65536^k+a/65536^(k+1)*65536^(k+1):=by rw [P5 65536 k,<-P4,aAC,<-GX];congr 1;rw [<-P5];omega
  omega
theorem a8K {a:Nat}(h:a<18446744073709551616):upto (rZ a) 4=a:=by have h1:=a8L a 4;have h2:a/65536^4=0:=Nat.div_eq_of_lt (Nat.lt_of_lt_of_eq h (by decide:(18446744073709551616:Nat)=65536^4));rw [h2,Nat.zero_mul,GY] at h1;exact h1
theorem a2h(a j:Nat):rZ a j<=65535:=by unfold rZ;omega
theorem a2g {a s i:Nat}(ha:a<18446744073709551616)(hs:s=16*i):bits .and .u64 ((a:Int)/2^s) 65535=(rZ a i:Int):=by
 have e:(a:Int)/2^s=((a/2^s:Nat):Int):=by simp
 rw [e,a5W _ (Nat.lt_of_le_of_lt (Nat.div_le_self _ _) ha),hs,show 2^(16*i)=65536^i by rw [Nat.pow_mul]];unfold rZ;rfl
theorem aK3(a b:Int)(X Y:Nat)(w:aJ)(ha:aL a)(hb:aL b)(hX:X=rE a)(hY:Y=rE b):
 aQ aM 154 #[aG aF a,aG aF b] w λe w'=>e=aT (bB #[aG aF (fU (a*b)),aG aF (dC (a*b))])/\aY w.heap.size w w':=by
 have HA:=η ha;have HB:=η hb;have hXl:X<=9223372036854775808:=by rw [hX];exact SG ha
 have hYl:Y<=9223372036854775808:=by rw [hY];exact SG hb
 have yE:∀W,Hid (aQ aM 204 #[aG aF a] W λe w'=>e=aT (aG .u64 (X:Int))/\W=w'):=λW=>η (by rw [hX];exact a6y a W ha)
 have GD:∀W,Hid (aQ aM 204 #[aG aF b] W λe w'=>e=aT (aG .u64 (Y:Int))/\W=w'):=λW=>η (by rw [hY];exact a6y b W hb)
 have JY:=η (kX hX hY);clear ha hb hX hY;go_enter func154,ntmps154
 go_wp2_with fail
 refine(yE _).o.mono ?_;rintro e w' ⟨rfl,rfl⟩;go_wp2_with fail
 refine(GD _).o.mono ?_;rintro e w' ⟨rfl,rfl⟩;go_wp2_with fail
 obtain⟨M,hM⟩:∃M,M=4294836225:=⟨_,rfl⟩;have a3r:M<=4294836225:=by omega
 have aMV:4294836225<=M:=by omega
 clear hM;have zP:Hid (∀w4,w4=w.alloc (aK #[aG .u64 0,aG .u64 0,aG .u64 0,aG .u64 0,aG .u64 0,aG .u64 0,aG .u64 0,aG .u64 0] 281)->MJ w.heap.size Y M (rZ X) (rZ Y) 0 0 w4 [0,0,0,0,0,0,0,0] w4/\aY w.heap.size w w4):=by
  rintro w4 rfl;refine⟨⟨rfl,tC.new w [0,0,0,0,0,0,0,0],by simp [val,upto],λj hj=> ?_,aX _ _⟩,(aX _ _).alloc (aa _) _⟩;have:∀x∈ [0,0,0,0,0,0,0,(0:Nat)],x=0:=by simp
  rw [this _ (cH hj)];omega
 have U2:Hid (upto (rZ Y) 4=Y):=η (a8K (by omega));have pD:Hid (upto (rZ X) 4=X):=η (a8K (by omega));have U1:Hid (∀j,rZ X j<=65535):=η (a2h X);have HYL:Hid (∀j,rZ Y j<=65535):=η (a2h Y);have HXS:Hid (∀s i,s=16*i->bits .and .u64 ((X:Int)/2^s) 65535=(rZ X i:Int)):=η λs i h=>a2g (by omega) h
 have HYS:Hid (∀s i,s=16*i->bits .and .u64 ((Y:Int)/2^s) 65535=(rZ Y i:Int)):=η λs i h=>a2g (by omega) h
 have py:=zP.o _ rfl;clear zP yE GD;generalize rZ X=x at*;generalize rZ Y=y at*;generalize w.alloc (aK #[aG .u64 0,aG .u64 0,aG .u64 0,aG .u64 0,aG .u64 0,aG .u64 0,aG .u64 0,aG .u64 0] 281)=w4 at py ⊢;have OP:=η py.1;have cC:=η py.2;clear py;generalize QN:w.heap.size=bn at*;have fD:=η QN;clear QN;go_loopw [9,10] (λu _ wr=>∃i:Nat,i<=4/\u=aG aF i/\∃ns:List Nat,Hid (MJ bn Y M x y i 0 w4 ns wr)) (λu _ _=>4-(af u).toNat)
 case atStart=>exact⟨0,by omega,rfl,_,OP⟩
 case round=>
  clear OP;obtain⟨i,hi,rfl,ns,HM⟩:=hrel;by_cases hlt:i<4
  ·have ng:(i:Int)<4:=by omega
   obtain⟨wo,rfl⟩:∃wo:aJ,wo=wr:=⟨_,rfl⟩;go_wp2_with fail
   go_loopw [10] (λu wr=>∃k:Nat,k<=4/\u=aG aF k/\∃ns:List Nat,Hid (MJ bn Y M x y i k w4 ns wr)) (λu _=>4-(af u).toNat)
   case atStart=>exact⟨0,by omega,rfl,_,HM⟩
   case round=>
    clear HM;obtain⟨k,hk,rfl,ns,HM⟩:=hrel;by_cases rz:k<4
    ·have WY:(k:Int)<4:=by omega
     obtain⟨j,hj⟩:∃j,j=i+k:=⟨_,rfl⟩;have hlen:=HM.o.len;have qz:j<aA ns:=by omega
     obtain⟨q,hq⟩:∃q,q=ns[j]:=⟨_,rfl⟩;obtain⟨p,hp⟩:∃p,p=x i*y k:=⟨_,rfl⟩;obtain⟨t,ht⟩:∃t,t=q+p:=⟨_,rfl⟩;have hpl:p<=4294836225:=by rw [hp];exact vG (U1.o i) (HYL.o k)
     have Wn:q<=68717379600:=by have h1:=HM.o.bd j qz;rw [hq];refine bz h1 (bz (vG (show 4*i+k<=16 by omega) a3r) (by omega))
     have cn:=HM.o.row.cell qz;rw [<-hq] at cn;have fnn:=HM.o.row.free j;have OQ:Hid (MJ bn Y M x y i (k+1) w4 (ns.set j t) (wr.setCell ⟨bn,j,aB⟩ (aG .u64 (t:Int))).drew):=by have:=HM.o.step qz hj hp (by omega);rw [<-hq,<-ht] at this;exact this
     obtain⟨si,hsi⟩:∃si,si=16*i:=⟨_,rfl⟩;obtain⟨sk,hsk⟩:∃sk,sk=16*k:=⟨_,rfl⟩;have ax:=HXS.o si i hsi;have ay:=HYS.o sk k hsk;have esi:(16:Int)*(i:Int)=(si:Int):=by omega
     have esk:(16:Int)*(k:Int)=(sk:Int):=by omega
     have lsi:si<=48:=by omega
     have lsk:sk<=48:=by omega
     have ep:(x i:Int)*(y k:Int)=(p:Int):=by rw [hp,Int.natCast_mul]
     have et:(q:Int)+(p:Int)=(t:Int):=by omega
     have FR:t<=73012215825:=by omega
     have ea:((i:Int)+(k:Int)).toNat=j:=by omega
     have pa:(0:Int)<=(i:Int)+(k:Int):=by omega
     have ba:(i:Int)+(k:Int)<8:=by omega
     have ra:aF.wrap ((i:Int)+(k:Int))=(i:Int)+(k:Int):=by rw [fg];omega
     have rp:mN.wrap (p:Int)=(p:Int):=by rw [vB];omega
     have rt:mN.wrap (t:Int)=(t:Int):=by rw [vB];omega
     have rsi:aF.wrap (si:Int)=(si:Int):=by rw [fg];omega
     have rsk:aF.wrap (sk:Int)=(sk:Int):=by rw [fg];omega
     have hsx:Op.shift .shr .u64 (X:Int) aF (si:Int)=pure (aG .u64 ((X:Int)/2^si)):=shift_shr .u64 aF X si (by omega) (by simp [a0C];omega);have N3:Op.shift .shr .u64 (Y:Int) aF (sk:Int)=pure (aG .u64 ((Y:Int)/2^sk)):=shift_shr .u64 aF Y sk (by omega) (by simp [a0C];omega);clear hj hq hp ht hlen Wn hpl HM qz hsi hsk;go_wp2_with fail
     go_big_region
     clear cn fnn;generalize (wr.setCell ⟨bn,j,aB⟩ (aG .u64 (t:Int))).drew=w5 at OQ ⊢;clear ea pa ba ra rp rt ep et ax ay esi esk rsi rsk hsx N3;go_wp2
     go_roundw
     case rel=>exact⟨k+1,by omega,by go_num,_,OQ⟩
     case measure=>simp [af];omega
    have WY:¬(k:Int)<4:=by omega
    obtain rfl:k=4:=by omega
    have OQ:=η (HM.o.next U2.o);clear HM;go_wp2_with fail
    go_roundw
    case rel=>exact⟨i+1,by omega,by go_num,_,OQ⟩
    case measure=>simp [af];omega
  have ng:¬(i:Int)<4:=by omega
  obtain rfl:i=4:=by omega
  have jP:Hid (CJ bn (X*Y) 0 0 w4 ns wr):=by refine⟨HM.o.len,HM.o.row,λj _ h=>by omega,λj h=>bz (HM.o.bd j h) (bz (vG (show 4*4+0<=16 by omega) a3r) (by omega)),by omega, ?_,HM.o.b⟩;have:=HM.o.vl;rw [pD.o,show upto y 0=0 from rfl,aAD,GY] at this;rw [this,Nat.zero_mul,GY]
  have Sp:Hid (X*Y<340282366920938463463374607431768211456):=by have:X*Y<=9223372036854775808*9223372036854775808:=vG hXl hYl;show X*Y<_;omega
  clear HM;obtain⟨V,hV⟩:∃V,V=X*Y:=⟨_,rfl⟩;rw [<-hV] at jP Sp;have HV:=η hV;clear hV;go_wp2_with fail
  go_loopw [11,12] (λu v wr=>∃i c:Nat,i<=8/\u=aG .u64 c/\v=aG aF i/\∃ns:List Nat,Hid (CJ bn V i c w4 ns wr)) (λ_ v _=>8-(af v).toNat)
  case atStart=>exact⟨0,0,by omega,rfl,rfl,_,jP⟩
  case round=>
   clear jP;obtain⟨i,c,hi,rfl,rfl,ns,HC⟩:=hrel;by_cases hlt:i<8
   ·have ng:(i:Int)<8:=by omega
    have nY:i<aA ns:=by have:=HC.o.len;omega
    obtain⟨q,hq⟩:∃q,q=ns[i]:=⟨_,rfl⟩;obtain⟨t,ht⟩:∃t,t=q+c:=⟨_,rfl⟩;obtain⟨m,hm⟩:∃m,m=t % 65536:=⟨_,rfl⟩;obtain⟨d,hd⟩:∃d,d=t/65536:=⟨_,rfl⟩;have Wn:q<=68717379600:=by rw [hq];exact HC.o.bd i nY
    have jY:=HC.o.cb;have cn:=HC.o.row.cell nY;rw [<-hq] at cn;have fnn:=HC.o.row.free i;have kN:Hid (CJ bn V (i+1) d w4 (ns.set i m) ((wr.setCell ⟨bn,i,aB⟩ (aG .u64 (t:Int))).setCell ⟨bn,i,aB⟩ (aG .u64 (m:Int)))):=by have:=HC.o.step nY (t:=t) (by rw [<-hq];exact ht);rw [<-hm,<-hd] at this;exact this
    have et:(q:Int)+(c:Int)=(t:Int):=by omega
    have ed:(t:Int)/65536=(d:Int):=by omega
    have em:bits .and .u64 (t:Int) 65535=(m:Int):=by rw [hm];exact a5W t (by omega)
    have FR:t<=137434759200:=by omega
    have hrow2:=η (HC.o.row.set i t);have cn2:(wr.setCell ⟨bn,i,aB⟩ (aG .u64 (t:Int))).cell? ⟨bn,i,aB⟩=aC (aG .u64 (t:Int)):=by rw [hrow2.o.cell (by rw [yL];exact nY),UF,ifP rfl]
    have fn2:(wr.setCell ⟨bn,i,aB⟩ (aG .u64 (t:Int))).frozen? ⟨bn,i,aB⟩=aP:=hrow2.o.free i;clear hq ht hm hd Wn jY HC nY;go_wp2_with fail
    go_roundw
    case rel=>exact⟨i+1,d,by omega,by first|rfl|go_num,by go_num,_,kN⟩
    case measure=>simp [af];omega
   have ng:¬(i:Int)<8:=by omega
   obtain rfl:i=8:=by omega
   have hns:=HC.o.ends Sp.o;subst hns;have BD:=HC.o.row;have mf:Hid (aY bn w wr):=cC.o.trans HC.o.b;clear HC;have lit:Ha 8 V= [V % 65536,V/65536 % 65536,V/4294967296 % 65536,V/281474976710656 % 65536,V/18446744073709551616 % 65536,V/1208925819614629174706176 % 65536,V/79228162514264337593543950336 % 65536,V/5192296858534827628530496329220096 % 65536]:=by simp only [Ha,Nat.div_div_eq_div_mul]
   obtain⟨n0,n1,n2,n3,n4,n5,n6,n7,a4O,kF,hval⟩:∃n0 n1 n2 n3 n4 n5 n6 n7:Nat,Ha 8 V= [n0,n1,n2,n3,n4,n5,n6,n7]/\(n0<=65535/\n1<=65535/\n2<=65535/\n3<=65535/\n4<=65535/\n5<=65535/\n6<=65535/\n7<=65535)/\V=n0+65536*n1+4294967296*n2+281474976710656*n3+18446744073709551616*(n4+65536*n5+4294967296*n6+281474976710656*n7):=
    ⟨_,_,_,_,_,_,_,_,lit,⟨by omega,by omega,by omega,by omega,by omega,by omega,by omega,by omega⟩,by have:=Sp.o;omega⟩
   rw [a4O] at BD;clear a4O lit;have a0:=BD.cell (i:=0) (by simp);have a1:=BD.cell (i:=1) (by simp);have a2:=BD.cell (i:=2) (by simp);have a3:=BD.cell (i:=3) (by simp);have a4:=BD.cell (i:=4) (by simp);have a5:=BD.cell (i:=5) (by simp);have a6:=BD.cell (i:=6) (by simp);have a7:=BD.cell (i:=7) (by simp);simp only [List.getElem_cons_zero,a9w] at a0 a1 a2 a3 a4 a5 a6 a7;clear BD;obtain⟨N,hN⟩:∃N,N=n0+65536*n1+4294967296*n2+281474976710656*n3:=⟨_,rfl⟩;obtain⟨h,hh⟩:∃h,h=n4+n5+n6+n7:=⟨_,rfl⟩;obtain⟨z,hz⟩:∃z,z=a*b:=⟨_,rfl⟩;obtain⟨sg,nC⟩:∃sg:Bool,sg= !(decide (a<0)==decide (b<0)):=⟨_,rfl⟩;have HZ:Hid (V=z.natAbs/\(sg=aO->z<=0)/\(sg=aP->0<=z)):=η ⟨by rw [HV.o,JY.o.1,JY.o.2,hz,a7z],λh=>by rw [hz];exact mul_neg (nC.symm.trans h),λh=>by rw [hz];exact a5k (nC.symm.trans h)⟩;have HVN:Hid ((h=0->V=N)/\(h≠0->18446744073709551616<=V)):=η ⟨λe=>by omega,λe=>by omega⟩;obtain⟨b0,b1,b2,b3,b4,b5,b6,b7⟩:=kF;have JZ:=η hz;have HN:=η hN;have BH:=η nC;have eN:(n0:Int)+(n1:Int)*65536+(n2:Int)*4294967296+(n3:Int)*281474976710656=(N:Int):=by omega
   have eh:(n4:Int)+(n5:Int)+(n6:Int)+(n7:Int)=(h:Int):=by omega
   have bh:h<=262140:=by omega
   have bN:N<=18446744073709551615:=by omega
   clear hval hN hh hz nC;have wN:Hid (aY w.heap.size w wr):=η (by rw [fD.o];exact mf.o);by_cases zx:h=0
   ·have eh0:(n4:Int)+(n5:Int)+(n6:Int)+(n7:Int)=0:=by omega
    have Cn:Hid (V=N):=η (HVN.o.1 zx);clear eh zx bh;by_cases Vc:N>9223372036854775808
    ·have a3s:(N:Int)>9223372036854775808:=by omega
     have hno:¬aL (a*b):=by have:=HZ.o.1;have:=Cn.o;have:=JZ.o;rw [<-JZ.o];unfold aL;omega
     go_wp2_with fail
     go_ret2;exact⟨nH (gw hno).1.symm (gw hno).2.symm,wN.o⟩
    cases sg
    ·have hS:(decide (a<0)==decide (b<0))=aO:=by have:=BH.o;revert this;cases (decide (a<0)==decide (b<0))<;>simp
     by_cases Vd:N=9223372036854775808
     ·have Ve:(N:Int)=9223372036854775808:=by omega
      have hno:¬aL (a*b):=by have:=HZ.o.1;have:=HZ.o.2.2 rfl;have:=Cn.o;rw [<-JZ.o];unfold aL;omega
      clear Vc;go_wp2_with fail
      go_ret2;exact⟨nH (gw hno).1.symm (gw hno).2.symm,wN.o⟩
     have a3s:¬(N:Int)>9223372036854775808:=by omega
     have Ve:¬(N:Int)=9223372036854775808:=by omega
     have hN3:(N:Int)<9223372036854775808:=by omega
     have Dl:aL (a*b)/\a*b=(N:Int):=by have:=HZ.o.1;have:=HZ.o.2.2 rfl;have:=Cn.o;rw [<-JZ.o];unfold aL;omega
     clear Vc Vd;have HY:=η Dl;clear Dl;go_wp2_with fail
     go_ret2;exact⟨nH (by rw [(eA HY.o.1).1,HY.o.2]) (eA HY.o.1).2.symm,wN.o⟩
    have hS:(decide (a<0)==decide (b<0))=aP:=by have:=BH.o;revert this;cases (decide (a<0)==decide (b<0))<;>simp
    have a3s:¬(N:Int)>9223372036854775808:=by omega
    have HY:Hid (aL (a*b)/\a*b= -(N:Int)):=η (by have:=HZ.o.1;have:=HZ.o.2.1 rfl;have:=Cn.o;rw [<-JZ.o];unfold aL;omega);clear Vc;by_cases Vd:N=9223372036854775808
    ·have Ve:(N:Int)=9223372036854775808:=by omega
     go_wp2_with fail
     go_ret2;exact⟨nH (by rw [(eA HY.o.1).1,HY.o.2];omega) (eA HY.o.1).2.symm,wN.o⟩
    have Ve:¬(N:Int)=9223372036854775808:=by omega
    have hN3:(N:Int)<9223372036854775808:=by omega
    clear Vd;by_cases hN0:N=0
    ·have hN4:¬(N:Int)>0:=by omega
     go_wp2_with fail
     go_ret2;exact⟨nH (by rw [(eA HY.o.1).1,HY.o.2];omega) (eA HY.o.1).2.symm,wN.o⟩
    have hN4:(N:Int)>0:=by omega
    obtain⟨m,hm⟩:∃m,m=N-1:=⟨_,rfl⟩;have em:(N:Int)-1=(m:Int):=by omega
    have bm:m<=9223372036854775806:=by omega
    have HMM:Hid (-(N:Int)= -(m:Int)-1):=η (by omega);clear hN0 hm hN3 bN;go_wp2_with fail
    go_ret2;exact⟨nH (by rw [(eA HY.o.1).1,HY.o.2,HMM.o]) (eA HY.o.1).2.symm,wN.o⟩
   have hhp:(h:Int)>0:=by omega
   have hno:¬aL (a*b):=by have:=HZ.o.1;have:=HVN.o.2 zx;rw [<-JZ.o];unfold aL;omega
   go_wp2_with fail
   go_ret2;exact⟨nH (gw hno).1.symm (gw hno).2.symm,wN.o⟩
theorem aK2(a b:Int)(w:aJ)(ha:aL a)(hb:aL b):aQ aM 154 #[aG aF a,aG aF b] w λe w'=>e=aT (bB #[aG aF (fU (a*b)),aG aF (dC (a*b))])/\aY w.heap.size w w':=
 aK3 a b _ _ w ha hb rfl rfl
end
end Go.Proofs.YtdokipdchlcmeaaGreat
