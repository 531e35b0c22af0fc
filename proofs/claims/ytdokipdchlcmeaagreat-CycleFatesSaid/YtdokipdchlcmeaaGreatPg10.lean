/-
  Several texts in one, for one claim (printed by pack.py).
-/
import Derived.Test.YtdokipdchlcmeaaGreatPg9
import Derived.RegionTactic
set_option linter.all false
set_option maxRecDepth 100000
set_option maxHeartbeats 12800000
open And renaming intro→kT
open Array renaming getElem?_eq_some_iff→fW
open Bool renaming true→aO,false→aP,and_eq_true→jb
open Go renaming World→aJ,Value→aN,Calls→aQ,Addr→aj,cell_of_row→bH,maxLen→bM,TypeId→bY,heap_alloc_new→cO,info_parts→dL,Ending→dU,wpList_append_own→j9,frozen_of_row→Jw
open Go.Calls renaming mono→tY
open Go.Ending renaming returned→aT
open Go.IntKind renaming i64→aF,wrap_i64→fZ,u64→mN,wrap_u64→ux,bits→a0C
open Go.Obj renaming cells→aK
open Go.Proofs renaming intOf→ag
open Go.Proofs.Tryz renaming prog→aM
open Go.RowKit renaming Below→aa,wrap64→fS
open Go.RowKit.Below renaming refl→aX,size→gT,trans→jt,alloc→rC
open Go.Value renaming int→aG,slice→aH,tuple→bB,pointer→bF,bool→bJ,agg→bU,ownBlock→dy
open Go.World renaming ownsRow_nil→gC,frozen?→iJ
open Int renaming le_refl→dJ,le_trans→ju,le_of_eq→rO,mul_le_mul_of_nonneg_right→La
open List renaming length→aA,getElem_mem→cK,length_append→cN,take_length→cT,range→dQ,mem_map→dW,mem_cons_of_mem→dh,mem_cons→fC,take_succ_eq_append_getElem→fE,mem_append→gJ,replicate→gP,getElem?_eq_getElem→iD,length_map→iR,mem_filter→jD,any_eq_true→jv,length_filter_le→qd,getD_eq_getElem?_getD→sV,mem_iff_getElem→sW,length_cons→uF,length_take→uz,mem_append_left→vA,pairwise_iff_getElem→vB,length_set→yL,map_cons→yM,getElem?_eq_some_iff→zP,mem_of_getElem?→zQ,pairwise_map→BG,foldl_cons→Ck,length_replicate→Cl,getElem_modify→GJ,mem_append_right→GK,pairwise_append→Le,getElem_set→UD,getElem?_of_mem→a9w,getElem_cons_succ→a9x
open List.Pairwise renaming imp_of_mem→Ow,nil→U5
open Nat renaming le_refl→aZ,zero_le→bL,le_trans→bz,lt_of_lt_of_le→cP,mul_le_mul→yN,add_mul→GR,add_zero→GU,mul_le_mul_right→GX,div_add_mod→Lh,mul_assoc→P0,pow_succ→P1,mul_right_comm→aAD,mul_zero→aAE
open Option renaming none→aB,some→aC,getD_some→P4
open Or renaming inl→aS
namespace Go.Proofs.YtdokipdchlcmeaaGreat
open Go.Proofs.Tryz Go.RowKit
structure a9f(C:Int)(g:Nat)(E:Dk)(n:Nat):Prop where
 ig:aw C (g+32*n) (hands E n)
 sm:Sm E (hands E n)
 keep:∀k m b,k≠1->k≠7->B (hands E n) k m b=B E k m b
 lk:∀y∈iV E n,yK E.x y/\aL y.n
 ll:aA (iV E n)<=16*n
 gs:∀N,∀G∈rW E N n,(∀y∈G,1<=y.n)/\aA G<=16
theorem aw.Vg {C:Int} {g:Nat} {E:Dk}(H:aw C g E)(hg:g+32*8<=90000):∀n,n<=aA E.x.ss->a9f C g E n/\∀k,k<n->Oq (hands E k) ((k:Int)+1)
 |0,_=>by refine⟨⟨H,Sm.refl E,λ_ _ _ _ _=>rfl,by simp [iV],by simp [iV],λN G hG=> ?_⟩,λk hk=>absurd hk (Nat.not_lt_zero _)⟩;have:G= []:=List.eq_of_mem_replicate hG;grind
 |n+1,hn=>by
  have jk:=H.hs.sl;obtain⟨A,O⟩:=aw.Vg H hg n (by omega);have hx:=A.sm.x;obtain⟨h1,h2,h3,h4,h5,h6,h7,h8⟩:=aG5 A.ig (s:=(n:Int)+1) (by rw [hx];omega) (by omega);refine⟨⟨?_,A.sm.trans h3,λk m b e1 e7=>(h4 k m b e1 e7).trans (A.keep k m b e1 e7), ?_, ?_, ?_⟩, ?_⟩
  ·rw [show g+32*(n+1)=g+32*n+32 by omega];exact h2
  ·intro y hy;have hy':=hy;rcases gJ.1 hy' with h|h
   ·exact A.lk y h
   grind
  ·show aA (iV E n++oI (hands E n) ((n:Int)+1))<=_;rw [cN];have:=A.ll;omega
  ·intro N G hG;have hG':=hG;rcases List.mem_or_eq_of_mem_set hG' with h|h
   ·exact A.gs N G h
   grind
  grind
theorem aJ3 {D:Dk} {K:List Lg} {y:Lg}(h:y∈gZ D K):y.a=0/\((∃z∈di D 0,z.m=y.m)\/∃z∈K,z.m=y.m):=by
 unfold gZ Df at h;split at h
 ·obtain⟨k,hk,rfl⟩:=dW.1 h;refine⟨rfl, ?_⟩;obtain⟨z,hz,e⟩:=(RH _ k).1 hk;rcases gJ.1 hz with hz|hz
  ·grind
  right;unfold oU at hz;split at hz
  ·unfold rV at hz;split at hz
   ·obtain⟨q,hq,rfl⟩:=dW.1 hz;grind [RH]
   cases hz
  cases hz
 cases h
theorem a6t {D E:Dk}(hx:E.x=D.x)(hw:E.who=D.who)(h8:∀m,B E 8 m 0=B D 8 m 0)(h9:∀m,B E 9 m 0=B D 9 m 0)(h3:B E 3 0 0=B D 3 0 0)(h4:B E 4 0 0=B D 4 0 0):mD E=mD D:=by
 have e:jo E=jo D:=by
  have e1:gw E (aA E.x.ms)=gw D (aA D.x.ms):=by show (dQ (aA E.x.ms)).map (λ(i:Nat)=>B E 8 ((i:Int)+1) 0)=(dQ (aA D.x.ms)).map (λ(i:Nat)=>B D 8 ((i:Int)+1) 0);grind
  have e2:iF E (aA E.x.ms)=iF D (aA D.x.ms):=by show (dQ (aA E.x.ms)).map (λ(i:Nat)=>B E 9 ((i:Int)+1) 0)=(dQ (aA D.x.ms)).map (λ(i:Nat)=>B D 9 ((i:Int)+1) 0);grind
  show (⟨gw E (aA E.x.ms),aB,0,iF E (aA E.x.ms),aB,0,B E 3 0 0,B E 4 0 0⟩:cB)=⟨gw D (aA D.x.ms),aB,0,iF D (aA D.x.ms),aB,0,B D 3 0 0,B D 4 0 0⟩;rw [e1,e2,h3,h4]
 unfold mD;rw [e,hw]
structure aAM(C:Int)(g:Nat)(D:Dk)(K:List Lg):Prop where
 ok:P5 D K
 ig:aw (C+140737488355328) (g+400) (Ib D K)
 sm:Sm D (iw (dg D K) (j7 D K))
 aHe:mY D K≠ []->mD (Ib D K)=0
 g:(∀y∈j7 D K,1<=y.n)/\aA (j7 D K)<=144
 k:(∀y∈mY D K,1<=y.n)/\aA (mY D K)<=144
theorem aw.paid {C:Int} {g:Nat} {D:Dk}(H:aw C g D)(hh:D.h= []) {K:List Lg}(hK:∀y∈K,yK D.x y/\aL y.n)(hKl:aA K<=128)(hC:C+140737488355328<=4611686018427387904+1125899906842624)(hg:g+400<=90000):aAM C g D K:=by
 have G0:=H.DJ 0;have ij:=H.hs.ml;have jk:=H.hs.sl;have zu:=H.house 0;have hB0:B D 1 0 0=balA (aA D.x.ms) (aA D.x.ss+1) D.l 1 0 0:=rfl;have km:aA (gZ D K)<=144:=by have h1:=a4x (di D 0) (oU D.x K);have h2:=YZ D.x K;have h3:=G0.len;show aA (Df (di D 0) (oU D.x K))<=144;omega
 have Qd:∀y∈gZ D K,(1<=y.m/\y.m<=(aA D.x.ms:Int))/\y.a=0:=λy hy=>by
  obtain⟨e,h⟩:=aJ3 hy;rcases h with⟨z,hz,e2⟩|⟨z,hz,e2⟩
  ·have:=(G0.each z hz).1.1;rw [e2] at this;exact⟨this,e⟩
  have:=(hK z hz).1.1;rw [e2] at this;exact⟨this,e⟩
 have Mz:aL (iW (gZ D K)):=SC _;have hs0:0<=iW (gZ D K):=by
  unfold iW;split
  ·rename_i hc;have hW:=a8Q (cF:=0) 0 (show jJ 0 (gZ D K)=0 by grind [jJ]);have:=YH (λ_=>aO) (gZ D K) hW.n0;grind [Ki]
  omega
 have hN:vz D K=max (iW (gZ D K)-B D 1 0 0) 0:=XY hs0 zu.1 Mz;have tM:aL (vz D K):=by grind [aL]
 have W:=H.drawn hh tM hC;have MS:=W.steps _ (aZ _);rw [cT] at MS;have K3:aw (C+140737488355328) (g+50) (dg D K):=MS.wide (dJ _) hC (by have:=W.len;omega);have hx1:(dg D K).x=D.x:=W.sm.x;have aMb:=K3.house 0;have VY:B (dg D K) 1 0 0=balA (dg D K).x.ms.length ((dg D K).x.ss.length+1) (dg D K).l 1 0 0:=rfl;have hG:(∀y∈j7 D K,yK D.x y/\y.a=0)/\aA (j7 D K)<=144/\(∀a,oB a (j7 D K)<=B (dg D K) 1 0 a)/\(∀y∈mY D K,yK D.x y)/\aA (mY D K)<=144/\(mY D K≠ []->B (dg D K) 1 0 0<iW (gZ D K)):=by
  by_cases hc:yT (B (dg D K) 1 0 0) (gZ D K)=0
  ·have eg:j7 D K=jf (B (dg D K) 1 0 0) (gZ D K):=by show zi (B (dg D K) 1 0 0) (gZ D K)=_;unfold zi;rw [ifP hc]
   have ek:mY D K=jm (B (dg D K) 1 0 0) (gZ D K):=by show zj (B (dg D K) 1 0 0) (gZ D K)=_;unfold zj;rw [ifP hc]
   have jz:dC (gZ D K)=0:=by grind [yT]
   have rr:jJ (B (dg D K) 1 0 0) (gZ D K)=0:=by grind [jJ]
   have P:=a7b rr (λy hy=>(Qd y hy).2);rw [eg,ek];refine⟨λy hy=> ?_,bz P.gl km,λa=> ?_,λy hy=> ?_,bz P.kl km,λhne=> ?_⟩
   ·obtain⟨h1,h2,z,hz,e⟩:=P.g y hy;exact⟨⟨by grind,by rw [h2];omega,h1⟩,h2⟩
   ·rw [P.sum a];split
    ·grind
    exact(K3.house a).1
   ·obtain⟨h1,h2,z,hz,e⟩:=P.k y hy;exact⟨by grind,by rw [h2];omega,h1⟩
   have h:=λh'=>hne (P.em.2 h')
   grind [iW]
  have eg:j7 D K= []:=by show zi (B (dg D K) 1 0 0) (gZ D K)=_;unfold zi;rw [ifN hc]
  have ek:mY D K= []:=by show zj (B (dg D K) 1 0 0) (gZ D K)=_;unfold zj;rw [ifN hc]
  rw [eg,ek];exact⟨by simp,by simp,λa=>by simp only [oB];exact(K3.house a).1,by simp,by simp,λh=>absurd rfl h⟩
 obtain⟨g1,g2,g3,g4,g5,g6⟩:=hG;obtain⟨G1,S1,K1,_⟩:=aw.gives (j7 D K) K3 (λx hx=>by grind) g3;have vX:=G1 _ (aZ _);rw [cT] at vX;have Ml:aw (C+140737488355328) (g+194) (iw (dg D K) (j7 D K)):=vX.wide (dJ _) hC (by omega);have hsm:Sm D (iw (dg D K) (j7 D K)):=W.sm.trans S1;have hE:=aw.Pw (kd:=15) (.inr (.inr rfl)) (mY D K) Ml (λx hx=>by rw [hsm.x];exact⟨(g4 x hx).2.1,.inl (g4 x hx).2.2⟩);have KA:∀y∈j7 D K,y.n<=B (dg D K) 1 0 0:=λy hy=>by
  have h0:=g3 0;have:∀ {L:List Lg},(∀y∈L,1<=y.n/\y.a=0)->y∈L->y.n<=oB 0 L:=by
   intro L;induction L with
   |nil=>intro _ h;cases h
   |cons x L ih=>
    intro hh hx;have h0:=PW (a:=0) (L:=L) (λz hz=>(hh z (dh _ hz)).1);have h1:=hh x (by simp);simp only [oB];rw [ifP h1.2];rcases fC.1 hx with rfl|hx
    ·omega
    have:=ih (λz hz=>hh z (dh _ hz)) hx;omega
  have:=this (λz hz=>⟨(g1 z hz).1.2.2,(g1 z hz).2⟩) hy;omega
 refine⟨⟨H.ok (by omega),by unfold aL;omega,by omega,λy hy=> ?_,λi=> ?_,by have:=G0.len;omega,λy hy=> ?_,by omega,λm hm=> ?_,tM,λk hk=>(W.steps k hk).ok (by have:=W.len;omega),W.dI,by have:=W.len;omega,by unfold aL;omega,λk hk=>(G1 k hk).ok (by omega),λy hy=> ?_,by omega,by have:=Ml.gl;omega,by omega⟩,hE.wide (dJ _) hC (by omega),hsm,λhne=> ?_,⟨λy hy=>(g1 y hy).1.2.2,g2⟩,λy hy=>(g4 y hy).2.2,g5⟩
 ·have h:=hK y hy;have h1:=h.1.1;have h2:=h.1.2.1;grind [aL]
 ·unfold dY;split
  ·rename_i hs;have hs':1<=i/\i<=aA D.x.ss:=hs;have hl:(i-1).toNat<aA D.x.ss:=by omega
   have h1:=H.hs.sI _ (cK hl);rw [sV,iD hl];grind [aL]
  show aL 0;decide
 ·have:=(G0.each y hy).1.1;unfold aL;omega
 ·have:=H.who.pP m hm;unfold aL;omega
 ·have h:=(g1 y hy).1;have h1:=h.1;have h2:=h.2.1;have h3:=h.2.2;grind [aL]
 have hlt:=g6 hne;have e:mD (Ib D K)=mD (dg D K):=a6t (S1.x) (S1.who) (λm=>K1 8 m 0 (by decide) (by decide)) (λm=>K1 9 m 0 (by decide) (by decide)) (K1 3 0 0 (by decide) (by decide)) (K1 4 0 0 (by decide) (by decide));have e2:mD (dg D K)=mD D-min (max (vz D K) 0) (mD D):=W.room;have e3:B (dg D K) 1 0 0=B D 1 0 0+min (max (vz D K) 0) (mD D):=W.house;omega
theorem NS(f:Ob->Int)(g:Ob->Ob):∀(L:List Ob) (i:Nat) (x:Ob),L[i]? =aC x->dT f (L.modify i g)=dT f L-f x+f (g x)
 | [],i,x,h=>by simp at h
 |y::L,0,x,h=>by grind [dT]
 |y::L,i+1,x,h=>by have ih:=NS f g L i x (by simpa using h);grind [dT]
theorem mem_modify {L:List Ob} {i:Nat} {g:Ob->Ob} {y:Ob}(h:y∈L.modify i g):(∃k,k≠i/\L[k]? =aC y)\/∃x,L[i]? =aC x/\y=g x:=by
 obtain⟨k,hk,rfl⟩:=sW.1 h;have lu:k<aA L:=by simpa using hk
 rw [GJ];split
 ·grind
 rename_i e;exact .inl ⟨k,λe'=>e e'.symm,iD lu⟩
theorem kY.uniq {M S:Nat} {ai:Int} {who:List Int} {L:List Ob}(h:kY M S ai who L) {i j:Nat} {x y:Ob}(hi:L[i]? =aC x)(hj:L[j]? =aC y)(ox:eZ x=aO)(oy:eZ y=aO)(hm:x.m=y.m)(ha:x.a=y.a):i=j:=by
 obtain⟨qL,rfl⟩:=zP.1 hi;obtain⟨hj1,rfl⟩:=zP.1 hj;have ho:=vB.1 h.ord;rcases Nat.lt_trichotomy i j with hlt|he|hlt
 ·have:=ho i j qL hj1 hlt ox oy;omega
 ·exact he
 have:=ho j i hj1 qL hlt oy ox;omega
theorem kY.a8J {M S:Nat} {ai:Int} {who:List Int} {L:List Ob}(h:kY M S ai who L) {x y:Ob}(hx:x∈L)(hy:y∈L)(ox:eZ x=aO)(oy:eZ y=aO)(hm:x.m=y.m)(ha:x.a=y.a):x=y:=by obtain⟨i,hi⟩:=a9w hx;obtain⟨j,hj⟩:=a9w hy;have:=h.uniq hi hj ox oy hm ha;grind
theorem kY.mod {M S:Nat} {ai:Int} {who:List Int} {L:List Ob}(h:kY M S ai who L) {i:Nat} {x:Ob} {g:Ob->Ob}(hx:L[i]? =aC x)(hm:(g x).m=x.m)(ha:(g x).a=x.a)(ho:eZ (g x)=aO->eZ x=aO)(F7:Lj M S ai who (g x))(dR:(g x).ok)(hc:∀a,qI a (g x)<=qI a x)(hd:∀a,vJ a (g x)<=vJ a x):kY M S ai who (L.modify i g):=by
 refine⟨λy hy=> ?_,λy hy=> ?_, ?_,λa=> ?_,λa=> ?_,by have:=h.len;simpa using this⟩
 ·rcases mem_modify hy with⟨k,_,hk⟩|⟨z,hz,rfl⟩
  ·exact h.each y (zQ hk)
  grind
 ·rcases mem_modify hy with⟨k,_,hk⟩|⟨z,hz,rfl⟩
  ·exact h.ok y (zQ hk)
  grind
 ·rw [vB];intro j k hj hk hjk o1 o2;have hj':j<aA L:=by simpa using hj
  have lu:k<aA L:=by simpa using hk
  obtain⟨hi',mV⟩:=zP.1 hx;rw [GJ] at o1;rw [GJ] at o2;rw [GJ,GJ];have fact:∀(q:Nat) (hq:q<aA L),(eZ (if i=q then g L[q] else L[q])=aO->eZ L[q]=aO)/\(if i=q then g L[q] else L[q]).m=L[q].m/\(if i=q then g L[q] else L[q]).a=L[q].a:=by grind
  rw [(fact j hj').2.1,(fact j hj').2.2,(fact k lu).2.1,(fact k lu).2.2];exact vB.1 h.ord j k hj' lu hjk ((fact j hj').1 o1) ((fact k lu).1 o2)
 ·rw [NS _ _ _ _ _ hx];have:=h.cl a;have:=hc a;omega
 rw [NS _ _ _ _ _ hx];have:=h.db a;have:=hd a;omega
theorem ua {x:Ob}:eZ x=aO↔x.st=1:=by grind [eZ]
theorem a2J {a:Int} {x:Ob}(h:x.st≠1):qI a x=0:=by grind [qI]
theorem a2e {a:Int} {x:Ob}(h:x.st≠1):vJ a x=0:=by grind [vJ]
theorem a2I(a:Int)(x:Ob):0<=qI a x:=by grind [qI]
theorem a2d(a:Int)(x:Ob):0<=vJ a x:=by grind [vJ]
theorem aFZ {m a:Int} {L:List Ob}(h:L[dS m a L]? =aB):∀y∈L,eZ y=aO->¬(y.m=m/\y.a=a):=by grind [dS,yg,ua]
theorem kY.mark {M S:Nat} {ai:Int} {who:List Int} {L:List Ob}(h:kY M S ai who L) {m a s n:Int}(hs:2<=s/\s<=5)
 (hx:∀x∈L,eZ x=aO->x.m=m->x.a=a->0<=n/\n<=x.size/\(s=2->n=x.size)/\(s=3->hasB who m=aO/\(x.az<0->n=0)/\(0<x.az->n<x.az))/\((s=4\/s=5)->x.az<0/\n< -x.az/\(s=4->a≠0))):
 kY M S ai who (lS m a s n L)/\∀y∈lS m a s n L,eZ y=aO->y∈L/\¬(y.m=m/\y.a=a):=by
 cases hf:L[dS m a L]? with
 |none=>
  have e:lS m a s n L=L:=by unfold lS vu;rw [hf];rfl
  rw [e];exact⟨h,λy hy ho=>⟨hy,aFZ hf y hy ho⟩⟩
 |some x=>
  obtain⟨ho,hm,ha⟩:=MI hf;have KM:=zQ hf;obtain⟨h1,h2,h3,h4,h5⟩:=hx x KM ho hm ha;have e0:vu m a s n L=0:=by unfold vu;rw [hf];simp only;rw [ifN];omega
  have e:lS m a s n L=L.modify (dS m a L) (λx=> {x with st:=s,done:=n}):=by unfold lS;rw [ifP e0]
  have E:=h.each x KM;have K:=h.ok x KM;rw [e];refine⟨h.mod hf rfl rfl (λKE=>ho) ?_ ?_ (λb=> ?_) (λb=> ?_),λy hy oy=> ?_⟩
  ·refine⟨E.m,E.a,E.big,E.c,by grind,h3,λhs3=> ?_,λj5=> ?_⟩
   ·grind
   grind
  ·exact⟨K.lo,K.hi,K.ne,h1,h2⟩
  ·rw [a2J (show s≠1 by omega)];exact a2I b x
  ·rw [a2e (show s≠1 by omega)];exact a2d b x
  rcases mem_modify hy with⟨k,hk,hk2⟩|⟨z,hz,rfl⟩
  ·refine⟨zQ hk2,λhma=>hk (h.uniq hk2 hf oy ho (hma.1.trans hm.symm) (hma.2.trans ha.symm))⟩
  rw [ua] at oy;grind
theorem a5x {m:Int}:∀ {L:List Lg},(∀y∈L,1<=y.n)->0<=ofV m L
 | [],_=>dJ 0
 |y::L,h=>by have h1:=h y (by simp);have:=a5x (m:=m) (L:=L) (λz hz=>h z (dh _ hz));grind [ofV]
theorem aI0(a n dn:Int)(lost:Bool):2<=sB a n dn lost/\sB a n dn lost<=5:=by grind [sB]
theorem aw.obs {C:Int} {g:Nat} {D:Dk}(H:aw C g D) {cR:List Ob}(h:kY (aA D.x.ms) (aA D.x.ss) D.ai D.who cR):aw C g {D with ob:=cR}:=
 ⟨H.hs,H.bE,H.h8,H.hl,H.fl,H.lg,H.gl,H.who,h,H.bx,H.bl,H.st,H.ai⟩
theorem XJ(GS:List (List Lg))(lost:List Lg):∀(L:List Ob) (E:Dk),sA GS lost E L= {E with ob:=(sA GS lost E L).ob}
 | [],E=>rfl
 |x::L,E=>by have ih:=XJ GS lost L (FQ GS lost E x);grind [sA,FQ]
theorem a5W {GS:List (List Lg)} {lost:List Lg} {M S:Nat} {ai:Int} {who:List Int}(hG:∀G∈GS,∀y∈G,1<=y.n):∀(L:List Ob) (E:Dk),kY M S ai who E.ob->(∀x∈L,x.az<0/\∀y∈E.ob,eZ y=aO->y.m=x.m->y.a=x.a->y.az=x.az)->
 (∀k,k<=aA L->kY M S ai who (sA GS lost E (L.take k)).ob)/\∀y∈(sA GS lost E L).ob,eZ y=aO->y∈E.ob/\∀x∈L,¬(y.m=x.m/\y.a=x.a)
 | [],E,h,_=>⟨λk hk=>by have:k=0:=by simpa using hk
                        subst this;exact h,λy hy _=>⟨hy,by simp⟩⟩
 |x::L,E,h,hx=>by
  obtain⟨x1,x2⟩:=hx x (by simp);have Hu:0<=ofV x.m (GS.getD x.a.toNat []):=by refine a5x ?_;grind
  obtain⟨A1,A2⟩:=h.mark (m:=x.m) (a:=x.a) (s:=sB x.a (-x.az) (ofV x.m (GS.getD x.a.toNat [])) (decide (ofV x.m lost>0))) (n:=Bj (-x.az) (ofV x.m (GS.getD x.a.toNat []))) (aI0 _ _ _ _) (λy hy oy hm ha=>by grind [Ob.size,sB,Bj]);have ih:=a5W (lost:=lost) hG L (FQ GS lost E x) A1 (λz hz=>⟨(hx z (dh _ hz)).1,λy hy oy hm ha=>(hx z (dh _ hz)).2 y (A2 y hy oy).1 oy hm ha⟩);refine⟨λk hk=> ?_,λy hy oy=> ?_⟩
  ·cases k with
   |zero=>exact h
   |succ k=>exact ih.1 k (by simpa using hk)
  obtain⟨b1,b2⟩:=ih.2 y hy oy;obtain⟨c1,c2⟩:=A2 y b1 oy;grind
theorem aCz {M A:Nat} {l:List Int} {k m a:Int}(h:a<0):balA M A l k m a=0:=by grind [Gm,plcA]
theorem aw.leaves {C:Int} {g:Nat} {D:Dk}(H:aw C g D):∀k:Nat,k<=aA D.x.ss+1->aw C (g+k) (leaveD D k)/\Sm D (leaveD D k)/\(∀q m b,q≠1->q≠2->B (leaveD D k) q m b=B D q m b)/\(∀b:Int,b<(k:Int)->B (leaveD D k) 1 0 b=0)
 |0,_=>⟨H,Sm.refl D,λ_ _ _ _ _=>rfl,λb hb=>aCz (by omega)⟩
 |k+1,hk=>by
  obtain⟨G,S,K,Z⟩:=aw.leaves H k (by omega);have hx:=S.x;have e:leaveD D (k+1)=leave1 (leaveD D k) (k:Int):=rfl;rw [e];by_cases h0:0<balA (leaveD D k).x.ms.length ((leaveD D k).x.ss.length+1) (leaveD D k).l 1 0 (k:Int)
  ·have e1:leave1 (leaveD D k) (k:Int)= {leaveD D k with l:=bj (leaveD D k) 1 0 2 0 (k:Int) (balA (leaveD D k).x.ms.length ((leaveD D k).x.ss.length+1) (leaveD D k).l 1 0 (k:Int)),log:=(leaveD D k).log++ [⟨16,0,(k:Int),balA (leaveD D k).x.ms.length ((leaveD D k).x.ss.length+1) (leaveD D k).l 1 0 (k:Int),0⟩]}:=by
    grind [leave1]
   obtain⟨_,G2,hd⟩:=G.goes (tk:=2) (tm:=0) (a:=(k:Int)) (n:=balA (leaveD D k).x.ms.length ((leaveD D k).x.ss.length+1) (leaveD D k).l 1 0 (k:Int)) (e:=⟨16,0,(k:Int),balA (leaveD D k).x.ms.length ((leaveD D k).x.ss.length+1) (leaveD D k).l 1 0 (k:Int),0⟩) (.inr ⟨rfl,rfl⟩) (by rw [hx];omega) (by omega) (dJ _) ⟨rfl,rfl,rfl⟩;rw [e1];refine⟨G2,S.trans ⟨rfl,rfl,rfl,rfl,rfl,rfl,rfl,rfl,_,rfl,by simp⟩,λq m b h1 h2=> ?_,λb hb=> ?_⟩
   ·grind
   grind
  have e1:leave1 (leaveD D k) (k:Int)=leaveD D k:=by grind [leave1]
  rw [e1];refine⟨G.wide (dJ _) H.bE.big (by omega),S,K,λb hb=> ?_⟩;by_cases hbk:b=(k:Int)
  ·subst hbk;have:=(G.house (k:Int)).1;grind
  exact Z b (by omega)
structure aAU(C:Int)(g:Nat)(D D':Dk):Prop where
 ig:aw (C+8*jZ+140737488355328) (g+1700) D'
 x:D'.x=D.x
 who:D'.who=D.who
 ai:D'.ai=D.ai
 en:D'.en=D.en
 h:D'.h= []
 op:∀x∈D'.ob,eZ x=aO->False
 hz:∀a,a<=(aA D.x.ss:Int)->B D' 1 0 a=0
 bx:D'.bx= []
 st:D'.st=0
 lg:∃t,D'.log=D.log++t/\((∃e∈t,e.k=15)->mD D'=0)
theorem aw.done {C:Int} {g:Nat} {V:Dk}(h:aw C g V):aw C g {V with bx:= [],st:=0}:=
 ⟨h.hs,h.bE,h.h8,h.hl,h.fl,h.lg,h.gl,h.who,h.ob,by simp,by simp,by simp,h.ai⟩
theorem aw.rest {C:Int} {g:Nat} {D E:Dk}(H:aw C g E)(hS:Sm D E)(hh:D.h= [])(hst:∀x∈D.ob,eZ x=aO->x.az<0)(hC:C+140737488355328<=4611686018427387904+1125899906842624)(hg:g+700<=90000):
 a0Q E/\aw (C+140737488355328) (g+700) (pU E)/\(pU E).x=D.x/\(pU E).who=D.who/\(pU E).ai=D.ai/\(pU E).en=D.en/\(pU E).h= []/\(∀x∈(pU E).ob,eZ x=aO->False)/\(∀a,a<=(aA D.x.ss:Int)->B (pU E) 1 0 a=0)/\∃t,(pU E).log=D.log++t/\((∃e∈t,e.k=15)->mD (pU E)=0):=by
 have ij:=H.hs.ml;have jk:=H.hs.sl;obtain⟨A,O⟩:=H.Vg (by omega) (aA E.x.ss) (aZ _);have MQ:aw C (g+256) (nr E):=A.ig.wide (dJ _) H.bE.big (by omega);have hAx:(nr E).x=E.x:=A.sm.x;have hAh:(nr E).h= []:=A.sm.h.trans (hS.h.trans hh);have P:=MQ.paid hAh (K:=pV E) (λy hy=>by rw [hAx];exact A.lk y hy) (by have:=A.ll;show aA (iV E (aA E.x.ss))<=128;omega) hC (by omega);have Vf:(eU E).x=E.x:=P.sm.x.trans hAx;have a3u:(eU E).ob=D.ob:=P.sm.ob.trans (A.sm.ob.trans hS.ob);have aG3:(eU E).who=D.who:=P.sm.who.trans (A.sm.who.trans hS.who);have aG1:(eU E).ai=D.ai:=P.sm.ai.trans (A.sm.ai.trans hS.ai);have aG2:(eU E).en=D.en:=P.sm.en.trans (A.sm.en.trans hS.en);have hPh:(eU E).h= []:=P.sm.h.trans hAh;have aMP:(eU E).bx=D.bx:=P.sm.bx.trans (A.sm.bx.trans hS.bx);have hPc:aw (C+140737488355328) (g+656) (eU E):=P.ig.wide (dJ _) hC (by omega);have QF:kY (eU E).x.ms.length (eU E).x.ss.length (eU E).ai (eU E).who (eU E).ob:=hPc.ob;have jz:∀x∈tC (eU E),x∈(eU E).ob/\eZ x=aO/\x.az<0:=λx hx=>by obtain⟨h1,h2⟩:=jD.1 hx;simp only [jb,beq_iff_eq,decide_eq_true_eq] at h2;exact⟨h1,ua.2 h2.1,h2.2⟩
 have hGS:∀G∈tW E,(∀y∈G,1<=y.n)/\aA G<=144:=λG hG=>by
  rcases List.mem_or_eq_of_mem_set hG with h|h
  ·have:=A.gs _ G h;exact⟨this.1,by omega⟩
  subst h;exact P.g
 obtain⟨M1,M2⟩:=a5W (GS:=tW E) (lost:=Bu E) (λG hG=>(hGS G hG).1) (tC (eU E)) (eU E) QF (λx hx=>by obtain⟨h1,h2,h3⟩:=jz x hx;exact⟨h3,λy hy oy hm ha=>by rw [QF.a8J hy h1 oy h2 hm ha]⟩);have hMk:∀k,k<=aA (tC (eU E))->aw (C+140737488355328) (g+656) (sA (tW E) (Bu E) (eU E) ((tC (eU E)).take k)):=λk hk=>by rw [XJ];exact hPc.obs (M1 k hk)
 have DM:ik E= {eU E with ob:=(ik E).ob}:=XJ _ _ _ _;have hMc:aw (C+140737488355328) (g+656) (ik E):=by have:=hMk _ (aZ _);rw [cT] at this;exact this
 have MW:(ik E).x=E.x:=by rw [DM];exact Vf
 have hop:∀x∈(ik E).ob,eZ x=aO->False:=λy hy oy=>by
  obtain⟨h1,h2⟩:=M2 y hy oy;have hn:y.az<0:=by rw [a3u] at h1;exact hst y h1 oy
  refine h2 y (jD.2 ⟨h1, ?_⟩) ⟨rfl,rfl⟩;simp only [jb,beq_iff_eq,decide_eq_true_eq];exact⟨ua.1 oy,hn⟩
 have L:=λk hk=>hMc.leaves k hk
 obtain⟨V1,V2,V3,V4⟩:=L ((ik E).x.ss.length+1) (aZ _);obtain⟨V,hV⟩:∃V,V=leaveD (ik E) ((ik E).x.ss.length+1):=⟨_,rfl⟩;have hDV:pU E= {V with bx:= [],st:=0}:=by rw [hV];rfl
 rw [<-hV] at V1 V2 V3 V4;have hVc:aw (C+140737488355328) (g+700) V:=V1.wide (dJ _) hC (by rw [MW];omega);have hVx:V.x=E.x:=V2.x.trans MW;rw [hDV];have hMl:(ik E).l=(eU E).l:=by rw [DM]
 have Q8:∀k m b,B (ik E) k m b=B (eU E) k m b:=λk m b=>by rw [DM]
 have eG:aA (tW E)=aA (tW E):=rfl;refine⟨⟨by omega,O,λk hk=> ?_,P.ok, ?_,λx hx=> ?_,λk hk=>(hMk k hk).ok (by omega),λG hG=>by have:=(hGS G hG).2;omega,by have:=P.k.2;show aA (mY (nr E) (pV E))<=_;omega,λk hk=>(L k hk).1.ok (by rw [MW] at hk;omega),λk hk=> ?_,by rw [MW];omega⟩, ?_, ?_, ?_, ?_, ?_, ?_, ?_, ?_, ?_⟩
 ·have lu:=(H.Vg (by omega) k hk).1.ll;omega
 ·rw [a3u,<-hS.ob];exact(H.ob.fine H.ai.2).len
 ·obtain⟨h1,_,_⟩:=jz x hx;have h2:=(QF.each x h1).a;have h3:=QF.ok x h1;have h4:((eU E).x.ss.length:Int)=(aA E.x.ss:Int):=by rw [Vf]
  have h5:=h3.lo;have h6:=h3.hi;exact⟨h2.1,by omega,by unfold fJ at h5;unfold aL;omega,h5⟩
 ·have G:=(L k (by omega)).1;have h1:=G.house (k:Int);have h2:=G.bE.big;have hx2:(leaveD (ik E) k).x=(ik E).x:=(L k (by omega)).2.1.x;have h3:B (leaveD (ik E) k) 1 0 (k:Int)=balA (ik E).x.ms.length ((ik E).x.ss.length+1) (leaveD (ik E) k).l 1 0 (k:Int):=by rw [<-hx2]
  have h4:0<=B (leaveD (ik E) k) 1 0 (k:Int)/\B (leaveD (ik E) k) 1 0 (k:Int)<=C+140737488355328:=h1;rw [<-h3];unfold aL;omega
 ·exact hVc.done
 ·exact hVx.trans hS.x
 ·show V.who=_;rw [V2.who,DM];exact aG3
 ·show V.ai=_;rw [V2.ai,DM];exact aG1
 ·show V.en=_;rw [V2.en,DM];exact aG2
 ·show V.h=_;rw [V2.h,DM];exact hPh
 ·intro x hx;have mV:x∈V.ob:=hx;rw [V2.ob] at mV;exact hop x mV
 ·intro a ha;exact V4 a (by rw [MW,hS.x];omega)
 obtain⟨t1,e1,n1⟩:=hS.lg;obtain⟨t2,e2,n2⟩:=A.sm.lg;obtain⟨t3,e3,n3⟩:=P.sm.lg;obtain⟨t4,e4,n4⟩:=V2.lg;have eP:(eU E).log=(iw (dg (nr E) (pV E)) (j7 (nr E) (pV E))).log++(mY (nr E) (pV E)).map λx=>(⟨15,x.m,x.a,x.n,0⟩:Ev):=rfl
 have eM:(ik E).log=(eU E).log:=by rw [DM]
 refine⟨t1++t2++t3++((mY (nr E) (pV E)).map λx=>(⟨15,x.m,x.a,x.n,0⟩:Ev))++t4, ?_, ?_⟩
 ·show V.log=_;rw [show V.log=(ik E).log++t4 from e4,eM,eP,e3,show (nr E).log=E.log++t2 from e2,e1];simp only [List.append_assoc]
 rintro⟨e,he,hk⟩;have hne:mY (nr E) (pV E)≠ []:=by
  intro h0;rw [h0] at he;simp only [List.map_nil,List.append_nil,gJ] at he;rcases he with ((he|he)|he)|he
  ·exact n1 e he hk
  ·exact n2 e he hk
  ·exact n3 e he hk
  exact n4 e he hk
 have h0:mD (eU E)=0:=P.aHe hne;rw [<-h0];have hw:V.who=(eU E).who:=by rw [V2.who,DM]
 refine a6t (hVx.trans Vf.symm) hw (λm=> ?_) (λm=> ?_) ?_ ?_
 ·exact(V3 8 m 0 (by decide) (by decide)).trans (Q8 8 m 0)
 ·exact(V3 9 m 0 (by decide) (by decide)).trans (Q8 9 m 0)
 ·exact(V3 3 0 0 (by decide) (by decide)).trans (Q8 3 0 0)
 exact(V3 4 0 0 (by decide) (by decide)).trans (Q8 4 0 0)
theorem aw.settled {C:Int} {g:Nat} {D:Dk}(H:aw C g D)(hh:D.h= [])(hst:∀x∈D.ob,eZ x=aO->x.az<0)(hC:C+8*jZ+140737488355328<=4611686018427387904+1125899906842624)(hg:g+1700<=90000):
 UJ D/\∀E,wG D (aA D.x.ss) E->aAU C g D (pU E):=by
 have jk:=H.hs.sl;have a4W:jZ=140737488355328+549755813888:=rfl;have key:∀n E,n<=aA D.x.ss->wG D n E->aw (C+8*jZ) (g+912) E/\Sm D E:=λn E hn hB=>by obtain⟨G,S⟩:=H.Pa hh (by omega) (by omega) hB hn;refine⟨G.wide ?_ (by omega) (by omega),S⟩;have:(n:Int)*jZ<=8*jZ:=La (by omega) (by omega);omega
 refine⟨⟨by omega,λn E hn hB=> ?_,λE hB=> ?_⟩,λE hB=> ?_⟩
 ·obtain⟨G,S⟩:=H.Pa hh (by omega) (by omega) hB (by omega);have h1:(n:Int)*jZ+jZ<=8*jZ:=by
   have:((n:Int)+1)*jZ<=8*jZ:=La (by omega) (by omega);rw [Int.add_mul,Int.one_mul] at this;exact this
  exact G.aDD (S.h.trans hh) (s:=(n:Int)+1) (by rw [S.x];omega) (by omega) (by omega)
 ·obtain⟨G,S⟩:=key _ E (aZ _) hB;exact(G.rest S hh hst (by omega) (by omega)).1
 obtain⟨G,S⟩:=key _ E (aZ _) hB;obtain⟨_,h1,h2,h3,h4,h5,h6,h7,h8,h9⟩:=G.rest S hh hst (by omega) (by omega);exact⟨h1.wide (dJ _) (by omega) (by omega),h2,h3,h4,h5,h6,h7,h8,rfl,rfl,h9⟩
theorem aw.tell {C:Int} {g:Nat} {D:Dk}(H:aw C g D) {e:Ev}(he:MF (aA D.x.ss) e)(hf:yU e=0):aw C (g+1) {D with log:=D.log++ [e]}:=by
 have gV:∀a,mr (D.log++ [e]) a=B D 1 0 a:=λa=>by rw [DG,DI,H.fl a,hf];split<;>simp
 exact⟨H.hs,H.bE,H.h8,H.hl,gV,H.lg.snoc he (λa=>by rw [gV];have h5:=H.house a;have h6:=H.bE.big;exact⟨h5.1,by grind⟩),by show aA (D.log++ [_])<=g+1;rw [cN];have:=H.gl;simp;omega,H.who,H.ob,H.bx,H.bl,H.st,H.ai⟩
theorem aw.tells {C:Int}:∀(L:List Ev) {g:Nat} {D:Dk},aw C g D->(∀e∈L,MF (aA D.x.ss) e/\yU e=0)->aw C (g+aA L) {D with log:=D.log++L}
 | [],g,D,H,_=>by rw [List.append_nil];exact H
 |e::L,g,D,H,h=>by have ih:=aw.tells L (H.tell (h e (by simp)).1 (h e (by simp)).2) (λy hy=>h y (dh _ hy));grind
structure Sq(D D':Dk):Prop where
 x:D'.x=D.x
 l:D'.l=D.l
 h:D'.h=D.h
 bx:D'.bx=D.bx
 who:D'.who=D.who
 ai:D'.ai=D.ai
 st:D'.st=D.st
 en:D'.en=D.en
 lg:∃t,D'.log=D.log++t/\∀e∈t,e.k≠15
theorem Sq.refl(D:Dk):Sq D D:=⟨rfl,rfl,rfl,rfl,rfl,rfl,rfl,rfl,[],by simp,by simp⟩
theorem Sq.trans {D E F:Dk}(h:Sq D E)(h':Sq E F):Sq D F:=by obtain⟨t,e,ht⟩:=h.lg;obtain⟨t',e',AG⟩:=h'.lg;exact⟨h'.x.trans h.x,h'.l.trans h.l,h'.h.trans h.h,h'.bx.trans h.bx,h'.who.trans h.who,h'.ai.trans h.ai,h'.st.trans h.st,h'.en.trans h.en,t++t',by grind,λx hx=>(gJ.1 hx).elim (ht x) (AG x)⟩
theorem aFO {x:Ob} {who:List Int}(h1:x.st=1)(h2:nV x who≠1):(nV x who=2/\0<x.az/\x.done=x.az/\vL x who=x.done)\/(nV x who=3/\0<x.az/\x.done≠x.az/\vL x who=x.done)\/(nV x who=3/\x.az<0/\hasB who x.m=aO/\vL x who=0):=by grind [nV,vL]
theorem a2Q {E:Dk} {x:Ob}(h:x.st≠1\/nV x E.who=1):yS E x=E:=by grind [yS]
theorem aE4 {E:Dk} {x:Ob}:Sq E (yS E x):=by
 unfold yS;repeat' split
 ·exact Sq.refl E
 ·exact Sq.refl E
 ·exact⟨rfl,rfl,rfl,rfl,rfl,rfl,rfl,rfl,_,rfl,by simp⟩
 exact⟨rfl,rfl,rfl,rfl,rfl,rfl,rfl,rfl,[],by simp,by simp⟩
theorem aw.closes {C:Int}:∀(L:List Ob) {g:Nat} {E:Dk},aw C g E->
 (∀x∈L,x.ok/\(0<=x.a/\x.a<=(aA E.x.ss:Int))/\(x.st=1->(∀y∈E.ob,eZ y=aO->y.m=x.m->y.a=x.a->y=x)/\(0<x.az->x.done≠x.az->hasB E.who x.m=aO)))->
 (∀k,k<=aA L->aw C (g+k) (uL E (L.take k)))/\Sq E (uL E L)/\∀y∈(uL E L).ob,eZ y=aO->y∈E.ob/\∀x∈L,x.st=1->x.m=y.m->x.a=y.a->nV x E.who=1
 | [],g,E,H,_=>⟨λk hk=>by have:k=0:=by simpa using hk
                          subst this;exact H,Sq.refl E,λy hy _=>⟨hy,by simp⟩⟩
 |x::L,g,E,H,hx=>by
  have e:∀L',uL E (x::L')=uL (yS E x) L':=λ_=>rfl
  have hr:∀z∈L,z.ok/\(0<=z.a/\z.a<=(aA E.x.ss:Int))/\(z.st=1->(∀y∈E.ob,eZ y=aO->y.m=z.m->y.a=z.a->y=z)/\(0<z.az->z.done≠z.az->hasB E.who z.m=aO)):=λz hz=>hx z (dh _ hz)
  obtain⟨xo,xa,xu⟩:=hx x (by simp);by_cases hid:x.st≠1\/nV x E.who=1
  ·rw [e,a2Q hid];obtain⟨I1,I2,I3⟩:=aw.closes L H hr;refine⟨λk hk=> ?_,I2,λy hy oy=> ?_⟩
   ·cases k with
    |zero=>exact H
    |succ k=>
     have:=I1 k (by simpa using hk);rw [List.take_succ_cons,e,a2Q hid];exact this.wide (dJ _) H.bE.big (by omega)
   grind
  have h1:x.st=1:=by omega
  have h2:nV x E.who≠1:=λh=>hid (.inr h)
  obtain⟨xu1,xu2⟩:=xu h1;have F:=aFO h1 h2;obtain⟨A1,A2⟩:=H.ob.mark (m:=x.m) (a:=x.a) (s:=nV x E.who) (n:=vL x E.who) (by omega) (λy hy oy hm ha=>by
   have:=xu1 y hy oy hm ha;subst this;have d0:=xo.d0;have d1:=xo.d1;have hsz:0<y.az->y.size=y.az:=λh=>by unfold Ob.size;rw [ifN (by omega)]
   grind)
  have F7:(yS E x).ob=lS x.m x.a (nV x E.who) (vL x E.who) E.ob:=by grind [yS]
  have G:aw C (g+1) (yS E x):=by
   have h3:=H.obs A1;unfold yS;rw [ifN (by omega),ifN h2];split
   ·exact h3.tell (e:=⟨9,x.m,x.a,-x.az,0⟩) ⟨xa.1,xa.2,.inl (by grind)⟩ rfl
   exact h3.wide (dJ _) H.bE.big (by omega)
  have S:=aE4 (E:=E) (x:=x);obtain⟨I1,I2,I3⟩:=aw.closes L G (λz hz=>by obtain⟨z1,z2,z3⟩:=hr z hz;refine⟨z1,by rw [S.x];exact z2,λzs=> ?_⟩;obtain⟨z4,z5⟩:=z3 zs;rw [S.who];grind);rw [e];refine⟨λk hk=> ?_,S.trans I2,λy hy oy=> ?_⟩
  ·cases k with
   |zero=>exact H
   |succ k=>
    grind
  obtain⟨b1,b2⟩:=I3 y hy oy;rw [F7] at b1;obtain⟨c1,c2⟩:=A2 y b1 oy;refine⟨c1,λz hz hz1 hm ha=> ?_⟩;rcases fC.1 hz with rfl|hz
  ·omega
  have:=b2 z hz hz1 hm ha;rw [S.who] at this;exact this
theorem Vh {zs:List Int} {m:Int}:hasB zs m=aO↔m∈zs:=by grind [hasB]
theorem Lj.who {M S:Nat} {ai:Int} {w w':List Int} {x:Ob}(h:Lj M S ai w x)(hw:∀m∈w,m∈w'):Lj M S ai w' x:=
 ⟨h.m,h.a,h.big,h.c,h.st,h.Y3,λe=>⟨Vh.2 (hw _ (Vh.1 (h.o e).1)),(h.o e).2⟩,h.cmp⟩
theorem a3I {D:Dk} {m:Int}:m∈tE D↔∃x∈D.ob,x.st=1/\0<x.az/\x.done<x.az/\x.m=m:=by grind [tE,RV,BQ]
structure a8e(C:Int)(g:Nat)(D:Dk):Prop where
 ok:Sc D
 ig:aw C (g+500) (qi D)
 x:(qi D).x=D.x
 l:(qi D).l=D.l
 h:(qi D).h=D.h
 bx:(qi D).bx=D.bx
 ai:(qi D).ai=D.ai
 st:(qi D).st=D.st
 en:(qi D).en=D.en
 lg:∃t,(qi D).log=D.log++t/\∀e∈t,e.k≠15
 op:∀y∈(qi D).ob,eZ y=aO->y.az<0
theorem aw.closed {C:Int} {g:Nat} {D:Dk}(H:aw C g D)(hg:g+500<=90000):a8e C g D:=by
 have ij:=H.hs.ml;have km:=H.ob.len;have hcy:=H.ai;have hfw:Lu (aA D.x.ms) (tE D):=⟨a6B _,λm hm=>by obtain⟨x,hx,_,_,_,rfl⟩:=a3I.1 hm;exact(H.ob.each x hx).m⟩;have gV:=hfw.len;have hww:Lu (aA D.x.ms) (qx (D.who++tE D)):=⟨a6B _,λm hm=>by
  rw [RV] at hm;rcases gJ.1 hm with h|h
  ·exact H.who.pP m h
  exact hfw.pP m h⟩
 have Wq:∀m∈D.who,m∈qx (D.who++tE D):=λm hm=>(RV _ _).2 (vA _ hm)
 have hoE:aA (sF D (tE D))<=16:=by grind [sF]
 have h0:aw C (g+16) (vy D):=by have h1:=(H.tells (sF D (tE D)) (λe he=>by obtain⟨m,_,rfl⟩:=dW.1 he;exact⟨⟨dJ _,by grind,.inr (.inr rfl)⟩,rfl⟩)).wide (dJ _) H.bE.big (g':=g+16) (by omega);exact⟨h1.hs,h1.bE,h1.h8,h1.hl,h1.fl,h1.lg,h1.gl,hww,⟨λx hx=>(H.ob.each x hx).who Wq,H.ob.ok,H.ob.ord,H.ob.cl,H.ob.db,H.ob.len⟩,h1.bx,h1.bl,h1.st,h1.ai⟩
 have hL:∀x∈D.ob,x.ok/\(0<=x.a/\x.a<=((vy D).x.ss.length:Int))/\(x.st=1->(∀y∈(vy D).ob,eZ y=aO->y.m=x.m->y.a=x.a->y=x)/\(0<x.az->x.done≠x.az->hasB (vy D).who x.m=aO)):=λx hx=>by
  refine⟨H.ob.ok x hx,(H.ob.each x hx).a,λh1=>⟨λy hy oy hm ha=>H.ob.a8J hy hx oy (ua.2 h1) hm ha,λh2 h3=> ?_⟩⟩;have d1:=(H.ob.ok x hx).d1;have hsz:x.size=x.az:=by grind [Ob.size]
  exact Vh.2 ((RV _ _).2 (GK _ (a3I.2 ⟨x,hx,h1,h2,by omega,rfl⟩)))
 obtain⟨I1,I2,I3⟩:=h0.closes D.ob hL;have vX:=I1 _ (aZ _);rw [cT] at vX;obtain⟨t,et,ht⟩:=I2.lg;refine⟨⟨H.ok (by omega),by omega,λk hk=>(I1 k hk).ok (by omega)⟩,vX.wide (dJ _) H.bE.big (by omega),I2.x,I2.l,I2.h,I2.bx,I2.ai,I2.st,I2.en,⟨sF D (tE D)++t, ?_, ?_⟩,λy hy oy=> ?_⟩
 ·refine et.trans ?_;show D.log++sF D (tE D)++t=_;grind
 ·intro e he;rcases gJ.1 he with h|h
  ·obtain⟨m,_,rfl⟩:=dW.1 h;simp
  exact ht e h
 obtain⟨b1,b2⟩:=I3 y hy oy;have b1':=b1;have h1:=ua.1 oy;have hf:=b2 y b1' h1 rfl rfl;have hne:=(H.ob.ok y b1').ne;grind [nV]
structure a8i(C:Int)(g:Nat)(D D':Dk):Prop where
 ig:aw (C+140737488355328) (g+600) D'
 x:D'.x=D.x
 ai:D'.ai=D.ai
 en:D'.en=D.en
 h:D'.h= []
 op:∀y∈D'.ob,eZ y=aO->y.az<0
 bx:D'.bx=D.bx
 st:D'.st=2
 lg:∃t,D'.log=D.log++t/\∀e∈t,e.k≠15
theorem aw.aLP {C:Int} {g:Nat} {V:Dk}(h:aw C g V):aw C g {V with h:= []}:=
 ⟨h.hs,h.bE,by simp,by simp,h.fl,h.lg,h.gl,h.who,h.ob,h.bx,h.bl,h.st,h.ai⟩
theorem aw.state {C:Int} {g:Nat} {V:Dk}(h:aw C g V) {s:Int}(hs:0<=s/\s<=2):aw C g {V with st:=s}:=
 ⟨h.hs,h.bE,h.h8,h.hl,h.fl,h.lg,h.gl,h.who,h.ob,h.bx,h.bl,hs,h.ai⟩
theorem aw.due {C:Int} {g:Nat} {D:Dk}(H:aw C g D)(vh:qD D.h)(hC:C+140737488355328<=4611686018427387904+1125899906842624)(hg:g+600<=90000):Sd D/\a8i C g D (oH D):=by
 have K:=H.closed (by omega);have h2:aw C (g+500) (gR D):=K.ig.aLP;have ij:=h2.hs.ml;have jk:=h2.hs.sl;have hg0:=(h2.DJ 0).bd;have dE:=xY 0;have zu:=h2.house 0;have hdN:uN D=max (vN (gR D) 0-B (gR D) 1 0 0) 0:=by show pS (iW (di (gR D) 0)) (B (gR D) 1 0 0)=_;rw [h2.a7h 0];grind [XY,aL]
 have tM:aL (uN D):=by grind [aL]
 have W:=h2.drawn rfl tM hC;have h3:=W.steps _ (aZ _);rw [cT] at h3;have Hk:aw (C+140737488355328) (g+600) (lq (gR D) (uN D)):=h3.wide (dJ _) hC (by have:=W.len;omega);have h4:aw (C+140737488355328) (g+600) (oH D):=Hk.state (by omega);have Wz:(oH D).x=(gR D).x:=W.sm.x;refine⟨⟨K.ok,by rw [K.h];exact vh,h2.ok (by omega),by unfold aL;omega,by omega,λm hm=> ?_,tM,λk hk=>(W.steps k hk).ok (by have:=W.len;omega),W.dI,by have:=W.len;omega,h4.ok (by omega),by rw [Wz];omega,λs hs=> ?_⟩,⟨h4,W.sm.x.trans K.x,W.sm.ai.trans K.ai,W.sm.en.trans K.en,W.sm.h,λy hy oy=> ?_,W.sm.bx.trans K.bx,rfl, ?_⟩⟩
 ·have:=h2.who.pP m hm;unfold aL;omega
 ·have:=h4.house ((s:Int)+1);unfold aL;omega
 ·have hy':y∈(lq (gR D) (uN D)).ob:=hy;rw [W.sm.ob] at hy';exact K.op y hy' oy
 obtain⟨t1,e1,n1⟩:=K.lg;obtain⟨t2,e2,n2⟩:=W.sm.lg;refine⟨t1++t2, ?_,λe he=>(gJ.1 he).elim (n1 e) (n2 e)⟩;show (lq (gR D) (uN D)).log=_;grind [gR]
theorem aw.swap {C:Int} {g:Nat} {D:Dk}(H:aw C g D) {fk tk m n:Int} {e:Ev}(hk:(fk=7/\tk=8)\/(fk=8/\tk=7))(hm:1<=m/\m<=(aA D.x.ms:Int))(h1:1<=n)(h0:uZ D fk m tk m 0 n=0)(hc:tk=8->B D 8 m 0+n<=1099511627776)(he:MF (aA D.x.ss) e)(hf:yU e=0):
 aw C (g+1) {D with l:=bj D fk m tk m 0 n,log:=D.log++ [e]}/\∀k q b,balA (aA D.x.ms) (aA D.x.ss+1) (bj D fk m tk m 0 n) k q b=balA (aA D.x.ms) (aA D.x.ss+1) D.l k q b+((if k=fk/\q=m/\b=0 then-n else 0)+(if k=tk/\q=m/\b=0 then n else 0)):=by
 have hi:∃i,plcA (aA D.x.ms) (aA D.x.ss+1) fk m 0=aC i:=Br (by omega) hm (by omega) (by omega);have hj:∃i,plcA (aA D.x.ms) (aA D.x.ss+1) tk m 0=aC i:=Br (by omega) hm (by omega) (by omega);obtain⟨i,hi⟩:=hi;obtain⟨j,hj⟩:=hj;have hd:=RQ h0 H.bE.ok.len hi hj;have dR:nN (aA D.x.ms) (aA D.x.ss+1) (bj D fk m tk m 0 n):=nN.mv H.bE.ok H.hs.sl.2;have k1:∀b,balA (aA D.x.ms) (aA D.x.ss+1) (bj D fk m tk m 0 n) 1 0 b=balA (aA D.x.ms) (aA D.x.ss+1) D.l 1 0 b:=λb=>by grind
 have k2:∀b,balA (aA D.x.ms) (aA D.x.ss+1) (bj D fk m tk m 0 n) 2 0 b=balA (aA D.x.ms) (aA D.x.ss+1) D.l 2 0 b:=λb=>by grind
 have NC:∀q b,balA (aA D.x.ms) (aA D.x.ss+1) (bj D fk m tk m 0 n) 7 q b+balA (aA D.x.ms) (aA D.x.ss+1) (bj D fk m tk m 0 n) 8 q b=balA (aA D.x.ms) (aA D.x.ss+1) D.l 7 q b+balA (aA D.x.ms) (aA D.x.ss+1) D.l 8 q b:=λq b=>by grind
 have gV:∀b,mr (D.log++ [e]) b=balA (aA D.x.ms) (aA D.x.ss+1) (bj D fk m tk m 0 n) 1 0 b:=λb=>by rw [DG,DI,H.fl b,hf,k1];split<;>omega
 refine⟨⟨H.hs,⟨dR, ?_, ?_, ?_, ?_, ?_, ?_, ?_,H.bE.big,H.bE.F0⟩,H.h8,H.hl,gV,H.lg.snoc he (λb=>by rw [gV];refine⟨dR.nn rfl 0 b, ?_⟩;rw [k1];have:=(H.house b).2;have:=H.bE.big;omega), ?_,H.who,H.ob,H.bx,H.bl,H.st,H.ai⟩,hd⟩
 ·intro q b;show balA (aA D.x.ms) (aA D.x.ss+1) (bj D fk m tk m 0 n) 8 q b<=_;rw [hd];have h8:=H.bE.tD q b;grind
 ·intro q b;show balA (aA D.x.ms) (aA D.x.ss+1) (bj D fk m tk m 0 n) 9 q b<=_;rw [hd,ifN (by omega),ifN (by omega)];have:=H.bE.zm q b;grind
 ·intro b;show balA (aA D.x.ms) (aA D.x.ss+1) (bj D fk m tk m 0 n) 3 0 b<=_;rw [hd,ifN (by omega),ifN (by omega)];have:=H.bE.AK b;grind
 ·intro b;show balA (aA D.x.ms) (aA D.x.ss+1) (bj D fk m tk m 0 n) 4 0 b<=_;rw [hd,ifN (by omega),ifN (by omega)];have:=H.bE.cap b;grind
 ·intro q b;show _<=balA (aA D.x.ms) (aA D.x.ss+1) (bj D fk m tk m 0 n) 7 q b+balA (aA D.x.ms) (aA D.x.ss+1) (bj D fk m tk m 0 n) 8 q b-balA (aA D.x.ms) (aA D.x.ss+1) (bj D fk m tk m 0 n) 1 0 b;rw [NC,k1];exact H.bE.lo q b
 ·intro q b;show balA (aA D.x.ms) (aA D.x.ss+1) (bj D fk m tk m 0 n) 7 q b+balA (aA D.x.ms) (aA D.x.ss+1) (bj D fk m tk m 0 n) 8 q b+balA (aA D.x.ms) (aA D.x.ss+1) (bj D fk m tk m 0 n) 1 0 b<=_;rw [NC,k1];exact H.bE.hi q b
 ·intro b;show balA (aA D.x.ms) (aA D.x.ss+1) (bj D fk m tk m 0 n) 2 0 b+balA (aA D.x.ms) (aA D.x.ss+1) (bj D fk m tk m 0 n) 1 0 b<=_;rw [k2,k1];exact H.bE.es b
 show aA (D.log++ [e])<=g+1;rw [cN];have:=H.gl;simp;omega
theorem RN {x:ak} {m:Int}(h:jX x m=0):1<=m/\m<=(aA x.ms:Int):=by
 unfold jX at h;split at h
 ·rename_i h';exact h'
 cases h
theorem Rv {x:ak} {a:Int}(h:jI x a=0):1<=a/\a<=(aA x.ss:Int):=by
 unfold jI at h;split at h
 ·rename_i h';exact h'
 cases h
theorem a5h {D:Dk} {m n:Int}(h:nk D m n=0):(1<=m/\m<=(aA D.x.ms:Int))/\1<=n:=by
 refine⟨?_,a5e h⟩;unfold nk at h;by_cases h0:jX D.x m=0
 ·exact RN h0
 omega
structure Cq(D D':Dk):Prop where
 x:D'.x=D.x
 h:D'.h=D.h
 ob:D'.ob=D.ob
 bx:D'.bx=D.bx
 ai:D'.ai=D.ai
 st:D'.st=D.st
 en:D'.en=D.en
 k1:∀b,B D' 1 0 b=B D 1 0 b
 k2:∀b,B D' 2 0 b=B D 2 0 b
 NC:∀q b,B D' 7 q b+B D' 8 q b=B D 7 q b+B D 8 q b
 lg:∃t,D'.log=D.log++t/\∀e∈t,e.k≠15
theorem Cq.refl(D:Dk):Cq D D:=⟨rfl,rfl,rfl,rfl,rfl,rfl,rfl,λ_=>rfl,λ_=>rfl,λ_ _=>rfl,[],by simp,by simp⟩
theorem a7y {D:Dk} {fk tk m n:Int} {e:Ev}(hk:(fk=7/\tk=8)\/(fk=8/\tk=7))(he:e.k≠15)(hd:∀k q b,balA (aA D.x.ms) (aA D.x.ss+1) (bj D fk m tk m 0 n) k q b=balA (aA D.x.ms) (aA D.x.ss+1) D.l k q b+((if k=fk/\q=m/\b=0 then-n else 0)+(if k=tk/\q=m/\b=0 then n else 0))):Cq D {D with l:=bj D fk m tk m 0 n,log:=D.log++ [e]}:=by
 refine⟨rfl,rfl,rfl,rfl,rfl,rfl,rfl,λb=> ?_,λb=> ?_,λq b=> ?_,[e],rfl,by simpa using he⟩
 ·grind
 ·grind
 grind
theorem aw.top {C:Int} {g:Nat} {D:Dk}(H:aw C g D)(m n:Int):aw C (g+1) (AY D m n)/\Cq D (AY D m n):=by
 by_cases h:Dv D m n=0
 ·have e:AY D m n=Nr D m n:=by grind [AY]
  rw [e];unfold Dv at h;have hm:nk D m n=0:=by omega
  rw [ifN (by rw [hm];simp)] at h;obtain⟨mR,hn⟩:=a5h hm;have hc8:=H.bE.tD m 0;have hn8:=H.bE.ok.nn (k:=8) rfl m 0;have hle:n<=1099511627776-balA (aA D.x.ms) (aA D.x.ss+1) D.l 8 m 0:=by grind [pS,XK]
  obtain⟨i,hi⟩:=Br (M:=aA D.x.ms) (A:=aA D.x.ss+1) (k:=7) (.inl rfl) mR (a:=0) (by omega) (by omega);obtain⟨j,hj⟩:=Br (M:=aA D.x.ms) (A:=aA D.x.ss+1) (k:=8) (.inr (.inl rfl)) mR (a:=0) (by omega) (by omega);have ho:=H.own m 0;have ki:=H.bE.big;have hh:=H.house 0;have h0:uZ D 7 m 8 m 0 n=0:=NM hi hj (by omega) (by omega) (by unfold aL;omega) (.inl rfl) (by unfold aL;omega) (by unfold aL;omega) H.bE.ok.len;obtain⟨G,hd⟩:=H.swap (e:=⟨17,m,0,n,0⟩) (.inl ⟨rfl,rfl⟩) mR hn h0 (λ_=>by grind) ⟨dJ _,by grind,.inl hn⟩ rfl;exact⟨G,a7y (.inl ⟨rfl,rfl⟩) (by simp) hd⟩
 have e:AY D m n=D:=by grind [AY]
 rw [e];exact⟨H.wide (dJ _) H.bE.big (by omega),Cq.refl D⟩
theorem aw.take {C:Int} {g:Nat} {D:Dk}(H:aw C g D)(m n:Int):aw C (g+1) (AX D m n)/\Cq D (AX D m n):=by
 by_cases h:Fe D m n=0
 ·have e:AX D m n=Nq D m n:=by grind [AX]
  rw [e];unfold Fe at h;have hm:nk D m n=0:=by omega
  rw [ifN (by rw [hm];simp)] at h;obtain⟨mR,hn⟩:=a5h hm;obtain⟨G,hd⟩:=H.swap (e:=⟨18,m,0,n,0⟩) (.inr ⟨rfl,rfl⟩) mR hn h (λe=>by omega) ⟨dJ _,by grind,.inl hn⟩ rfl;exact⟨G,a7y (.inr ⟨rfl,rfl⟩) (by simp) hd⟩
 have e:AX D m n=D:=by grind [AX]
 rw [e];exact⟨H.wide (dJ _) H.bE.big (by omega),Cq.refl D⟩
structure nx(Cf:Int)(D:Dk):Prop where
 hd:∀a,B D 1 0 a=dT (oF a) D.ob
 lo:∀m a,-Cf<=B D 7 m a+B D 8 m a+dT (oD m a) D.ob
 hi:∀m a,B D 7 m a+B D 8 m a+dT (oD m a) D.ob<=Cf
 es:∀a,B D 2 0 a<=Cf
theorem Rb {f f':Ob->Int}:∀ {L:List Ob},(∀x∈L,f x<=f' x)->dT f L<=dT f' L
 | [],_=>dJ _
 |x::L,h=>by have h1:=h x (by simp);have ih:=Rb (L:=L) (λy hy=>h y (dh _ hy));grind [dT]
theorem Dl {f:Ob->Int} {L:List Ob}(h:∀x∈L,f x=0):dT f L=0:=by
 induction L with
 |nil=>rfl
 |cons x L ih=>
  grind [dT]
theorem a6H {f:Ob->Int} {L:List Ob}(h:∀x∈L,0<=f x):0<=dT f L:=by
 have:=Rb (f:=λ_=>0) (f':=f) h
 rwa [Dl (λ_ _=>rfl)] at this
theorem Jt {M S:Nat} {ai:Int} {who:List Int} {L:List Ob}(h:kY M S ai who L)(m a:Int):0<=dT (oD m a) L/\dT (oD m a) L<=dT (oF a) L/\dT (oF a) L<=288230376151711744:=by
 have h1:∀x∈L,0<=oD m a x:=λx hx=>by have:=(h.ok x hx).d0;unfold oD;split<;>omega
 have h2:∀x∈L,oD m a x<=oF a x:=λx hx=>by have:=(h.ok x hx).d0;grind [oD,oF]
 have h3:∀x∈L,oF a x<=vJ a x:=λx hx=>by have d1:=(h.ok x hx).d1;grind [oF,vJ,Ob.size]
 have:=h.db a;have:=xY a;have:=Rb h3;exact⟨a6H h1,Rb h2,by omega⟩
theorem nx.dr {Cf:Int} {D:Dk}(F:nx Cf D) {M S:Nat} {ai:Int} {who:List Int}(h:kY M S ai who D.ob):
 (∀m a,-(Cf+576460752303423488)<=B D 7 m a+B D 8 m a-B D 1 0 a)/\(∀m a,B D 7 m a+B D 8 m a+B D 1 0 a<=Cf+576460752303423488)/\∀a,B D 2 0 a+B D 1 0 a<=Cf+576460752303423488:=by
 refine⟨λm a=> ?_,λm a=> ?_,λa=> ?_⟩
 ·have:=Jt h m a;have:=F.lo m a;have:=F.hd a;omega
 ·have:=Jt h m a;have:=F.hi m a;have:=F.hd a;omega
 have:=Jt h 0 a;have:=F.es a;have:=F.hd a;omega
theorem nx.swp {Cf:Int} {D D':Dk}(F:nx Cf D)(S:Cq D D'):nx Cf D':=
 ⟨λa=>by rw [S.k1,S.ob];exact F.hd a,λm a=>by rw [S.NC,S.ob];exact F.lo m a,λm a=>by rw [S.NC,S.ob];exact F.hi m a,λa=>by rw [S.k2];exact F.es a⟩
section
structure Co(D D':Dk):Prop where
 x:D'.x=D.x
 h:D'.h=D.h
 bx:D'.bx=D.bx
 ai:D'.ai=D.ai
 st:D'.st=D.st
 en:D'.en=D.en
 lg:∃t,D'.log=D.log++t/\∀e∈t,e.k≠15
theorem Co.refl(D:Dk):Co D D:=⟨rfl,rfl,rfl,rfl,rfl,rfl,[],by simp,by simp⟩
theorem a7M {D:Dk} {m a:Int}(h:oQ D m a=0):(1<=m/\m<=(aA D.x.ms:Int))/\0<=a/\a<=(aA D.x.ss:Int):=by
 unfold oQ at h;by_cases h0:jX D.x m=0
 ·refine⟨RN h0, ?_⟩;rw [ifN (by omega)] at h;by_cases ha:a=0
  ·omega
  rw [ifN ha] at h;have:=Rv h;omega
 omega
section
variable {C Cf:Int} {g:Nat} {D:Dk}
theorem kY.paid {M S:Nat} {ai:Int} {who:List Int} {L:List Ob}(h:kY M S ai who L) {m a d:Int} {x:Ob} {i:Nat}(hx:L[i]? =aC x)(ho:eZ x=aO)(hm:x.m=m)(ha:x.a=a)(hn:0<x.az)(h0:0<=x.done+d)(h1:x.done+d<=x.az):
 kY M S ai who (L.modify i λx=> {x with done:=x.done+d})/\(∀b,dT (oF b) (L.modify i λx=> {x with done:=x.done+d})=dT (oF b) L+if b=a then d else 0)/\∀q b,dT (oD q b) (L.modify i λx=> {x with done:=x.done+d})=dT (oD q b) L+if q=m/\b=a then d else 0:=by
 have hs:=ua.1 ho;have KM:=zQ hx;have E:=h.each x KM;have K:=h.ok x KM;have hsz:x.size=x.az:=by grind [Ob.size]
 refine⟨h.mod hx rfl rfl (λo=>o) ⟨E.m,E.a,E.big,E.c,E.st,λe=> ?_,λe=> ?_,λe=> ?_⟩ ⟨K.lo,K.hi,K.ne,h0, ?_⟩ (λb=>dJ _) (λb=>dJ _),λb=> ?_,λq b=> ?_⟩
 ·grind
 ·grind
 ·grind
 ·show x.done+d<=x.size;omega
 ·grind [NS,oF]
 grind [NS,oD]
theorem aw.moved(H:aw (Cf+576460752303423488) g D)(F:nx Cf D) {m a d n fk fm tk tm:Int} {e:Ev} {cR:List Ob}(Wo:(1<=m/\m<=(aA D.x.ms:Int))/\0<=a/\a<=(aA D.x.ss:Int))(hk:(fk=7/\fm=m/\tk=1/\tm=0/\d=n)\/(fk=1/\fm=0/\tk=7/\tm=m/\d= -n))(h1:1<=n)
 (ho:kY (aA D.x.ms) (aA D.x.ss) D.ai D.who cR) (Hu:∀b,dT (oF b) cR=dT (oF b) D.ob+if b=a then d else 0) (hdm:∀q b,dT (oD q b) cR=dT (oD q b) D.ob+if q=m/\b=a then d else 0) (he:e.a=a/\e.n=n/\yU e=d):
 aw (Cf+576460752303423488) (g+1) {D with ob:=cR,l:=bj D fk fm tk tm a n,log:=D.log++ [e]}/\nx Cf {D with ob:=cR,l:=bj D fk fm tk tm a n,log:=D.log++ [e]}:=by
 have ki:=H.bE.big;have hha:=F.hd a;have VY:B D 1 0 a=balA (aA D.x.ms) (aA D.x.ss+1) D.l 1 0 a:=rfl;have hdb:=Jt H.ob m a;have aMc:=Jt ho m a;have aGJ:=Hu a;rw [ifP rfl] at aGJ;have Qc:=H.own m a;have hoh:=H.house a;obtain⟨ih,QY⟩:=Na (M:=aA D.x.ms) (A:=aA D.x.ss+1) Wo.2.1 (by omega);obtain⟨io,WD⟩:=Br (M:=aA D.x.ms) (A:=aA D.x.ss+1) (k:=7) (.inl rfl) Wo.1 Wo.2.1 (by omega);have hP:∃i j,plcA (aA D.x.ms) (aA D.x.ss+1) fk fm a=aC i/\plcA (aA D.x.ms) (aA D.x.ss+1) tk tm a=aC j:=by grind
 obtain⟨i,j,hi,hj⟩:=hP;have h0:uZ D fk fm tk tm a n=0:=by
  rcases hk with⟨rfl,rfl,rfl,rfl,hd⟩|⟨rfl,rfl,rfl,rfl,hd⟩
  ·exact NM hi hj (by omega) (by omega) (by unfold aL;omega) (.inl rfl) (by unfold aL;omega) (by unfold aL;omega) H.bE.ok.len
  exact NM hi hj (by omega) (by omega) (by unfold aL;omega) (.inr ⟨by omega,by rw [Vu H.h8 (by decide)];omega⟩) (by unfold aL;omega) (by unfold aL;omega) H.bE.ok.len
 have hd:=RQ h0 H.bE.ok.len hi hj;have dR:nN (aA D.x.ms) (aA D.x.ss+1) (bj D fk fm tk tm a n):=nN.mv H.bE.ok H.hs.sl.2;have k1:∀b,balA (aA D.x.ms) (aA D.x.ss+1) (bj D fk fm tk tm a n) 1 0 b=balA (aA D.x.ms) (aA D.x.ss+1) D.l 1 0 b+if b=a then d else 0:=λb=>by grind
 have k7:∀q b,balA (aA D.x.ms) (aA D.x.ss+1) (bj D fk fm tk tm a n) 7 q b=balA (aA D.x.ms) (aA D.x.ss+1) D.l 7 q b-if q=m/\b=a then d else 0:=λq b=>by grind
 have ko:∀k q b,k≠1->k≠7->balA (aA D.x.ms) (aA D.x.ss+1) (bj D fk fm tk tm a n) k q b=balA (aA D.x.ms) (aA D.x.ss+1) D.l k q b:=λk q b e1 e7=>by grind
 have hF:nx Cf {D with ob:=cR,l:=bj D fk fm tk tm a n,log:=D.log++ [e]}:=by
  refine⟨λb=> ?_,λq b=> ?_,λq b=> ?_,λb=> ?_⟩
  ·have:=F.hd b;grind
  ·have:=F.lo q b;grind
  ·have:=F.hi q b;grind
  exact ju (rO (ko 2 0 b (by decide) (by decide))) (F.es b)
 obtain⟨r1,r2,r3⟩:=hF.dr ho;have gV:∀b,mr (D.log++ [e]) b=balA (aA D.x.ms) (aA D.x.ss+1) (bj D fk fm tk tm a n) 1 0 b:=λb=>by rw [DG,DI,H.fl b,he.1,he.2.2,k1];omega
 refine⟨⟨H.hs,⟨dR, ?_, ?_, ?_, ?_,r1,r2,r3,H.bE.big,H.bE.F0⟩,H.h8,H.hl,gV,H.lg.snoc ⟨by omega,by omega,.inl (by rw [he.2.1];exact h1)⟩ (λb=>by rw [gV];refine⟨dR.nn rfl 0 b, ?_⟩;have h5:=(Jt ho m b).2.2;have h6:=hF.hd b;have h7:B {D with ob:=cR,l:=bj D fk fm tk tm a n,log:=D.log++ [e]} 1 0 b=balA (aA D.x.ms) (aA D.x.ss+1) (bj D fk fm tk tm a n) 1 0 b:=rfl;have h8:dT (oF b) ({D with ob:=cR,l:=bj D fk fm tk tm a n,log:=D.log++ [e]}:Dk).ob=dT (oF b) cR:=rfl;omega), ?_,H.who,ho,H.bx,H.bl,H.st,H.ai⟩,hF⟩
 ·intro q b;exact ju (rO (ko 8 q b (by decide) (by decide))) (H.bE.tD q b)
 ·intro q b;exact ju (rO (ko 9 q b (by decide) (by decide))) (H.bE.zm q b)
 ·intro b;exact ju (rO (ko 3 0 b (by decide) (by decide))) (H.bE.AK b)
 ·intro b;exact ju (rO (ko 4 0 b (by decide) (by decide))) (H.bE.cap b)
 show aA (D.log++ [e])<=g+1;rw [cN];have:=H.gl;simp;omega
theorem aw.pay(H:aw (Cf+576460752303423488) g D)(F:nx Cf D)(m a n:Int):
 aw (Cf+576460752303423488) (g+1) (pR D m a n 7 m 1 0 5 (j6 m a n D.ob) (kS m a n D.ob))/\nx Cf (pR D m a n 7 m 1 0 5 (j6 m a n D.ob) (kS m a n D.ob))/\Co D (pR D m a n 7 m 1 0 5 (j6 m a n D.ob) (kS m a n D.ob)):=by
 unfold pR;by_cases hs:oQ D m a≠0
 ·rw [ifP hs];exact⟨H.wide (dJ _) H.bE.big (by omega),F,Co.refl D⟩
 rw [ifN hs];by_cases hp:j6 m a n D.ob≠0
 ·rw [ifP hp];have e:kS m a n D.ob=D.ob:=by grind [kS]
  rw [e];exact⟨H.wide (dJ _) H.bE.big (by omega),F,Co.refl D⟩
 rw [ifN hp];have gW:j6 m a n D.ob=0:=by omega
 have e:kS m a n D.ob=D.ob.modify (dS m a D.ob) λx=> {x with done:=x.done+n}:=by grind [kS]
 cases hf:D.ob[dS m a D.ob]? with
 |none=>grind [j6]
 |some x=>
  unfold j6 at gW;rw [hf] at gW;simp only at gW;obtain⟨ho,hm,ha⟩:=MI hf;have K:=H.ob.ok x (zQ hf);have QP:=K.d0;by_cases c1:x.az<0
  ·omega
  rw [ifN c1] at gW;by_cases c2:n<1
  ·omega
  rw [ifN c2] at gW;by_cases c3:x.az-x.done<n
  ·omega
  obtain⟨A1,A2,A3⟩:=H.ob.paid (d:=n) hf ho hm ha (by omega) (by omega) (by omega);rw [e];obtain⟨G,F'⟩:=H.moved F (d:=n) (n:=n) (fk:=7) (fm:=m) (tk:=1) (tm:=0) (e:=⟨5,m,a,n,0⟩) (a7M (by omega)) (.inl ⟨rfl,rfl,rfl,rfl,rfl⟩) (by omega) A1 A2 A3 ⟨rfl,rfl,rfl⟩;exact⟨G,F',⟨rfl,rfl,rfl,rfl,rfl,rfl,_,rfl,by simp⟩⟩
theorem aw.aJq(H:aw (Cf+576460752303423488) g D)(F:nx Cf D)(m a n:Int):
 aw (Cf+576460752303423488) (g+1) (pR D m a n 1 0 7 m 6 (lA m a n D.ob) (nu m a n D.ob))/\nx Cf (pR D m a n 1 0 7 m 6 (lA m a n D.ob) (nu m a n D.ob))/\Co D (pR D m a n 1 0 7 m 6 (lA m a n D.ob) (nu m a n D.ob)):=by
 unfold pR;by_cases hs:oQ D m a≠0
 ·rw [ifP hs];exact⟨H.wide (dJ _) H.bE.big (by omega),F,Co.refl D⟩
 rw [ifN hs];by_cases hp:lA m a n D.ob≠0
 ·rw [ifP hp];have e:nu m a n D.ob=D.ob:=by grind [nu]
  rw [e];exact⟨H.wide (dJ _) H.bE.big (by omega),F,Co.refl D⟩
 rw [ifN hp];have gW:lA m a n D.ob=0:=by omega
 have e:nu m a n D.ob=D.ob.modify (dS m a D.ob) λx=> {x with done:=x.done+ -n}:=by grind [nu]
 cases hf:D.ob[dS m a D.ob]? with
 |none=>grind [lA]
 |some x=>
  unfold lA at gW;rw [hf] at gW;simp only at gW;obtain⟨ho,hm,ha⟩:=MI hf;have K:=H.ob.ok x (zQ hf);have DN:=K.d1;by_cases c1:x.az<0
  ·omega
  rw [ifN c1] at gW;by_cases c2:n<1
  ·omega
  rw [ifN c2] at gW;by_cases c3:x.done<n
  ·omega
  have hsz:x.size=x.az:=by grind [Ob.size]
  obtain⟨A1,A2,A3⟩:=H.ob.paid (d:= -n) hf ho hm ha (by omega) (by omega) (by omega);rw [e];obtain⟨G,F'⟩:=H.moved F (d:= -n) (n:=n) (fk:=1) (fm:=0) (tk:=7) (tm:=m) (e:=⟨6,m,a,n,0⟩) (a7M (by omega)) (.inr ⟨rfl,rfl,rfl,rfl,rfl⟩) (by omega) A1 A2 A3 ⟨rfl,rfl,rfl⟩;exact⟨G,F',⟨rfl,rfl,rfl,rfl,rfl,rfl,_,rfl,by simp⟩⟩
theorem aD9 {x:ak} {d:Bd}(hx:GH x)(h:nS x d=0):(1<=d.m/\d.m<=(aA x.ms:Int))/\(1<=d.c/\d.c<=(aA x.ss:Int))/\(1<=d.q/\d.q<=274877906944)/\1<=d.p/\d.p<=1048576:=by
 unfold nS at h;by_cases c1:Gr x d=aO
 ·grind
 rw [ifN c1] at h;by_cases c2:Gs x d=aO
 ·grind
 rw [ifN c2] at h;by_cases c3:Gt d=aO
 ·grind
 rw [ifN c3] at h;by_cases c4:Jo d=aO
 ·grind
 rw [ifN c4] at h;by_cases c5:Gu x d=aO
 ·grind
 have hm:jX x d.m=0:=by simpa [Gr] using c1
 have hs:jI x d.c=0:=by simpa [Gs] using c2
 have h3:¬(d.q<1\/d.p<1):=by simpa [Gt] using c3
 have h4:¬d.q>274877906944:=by simpa [Jo] using c4
 have h5:¬d.p>(dY x d.c).b:=by simpa [Gu] using c5
 have hc:=Rv hs;have hb:(dY x d.c).b<=1048576:=by
  unfold dY;rw [ifP (show tU x d.c from hc)];have hl:(d.c-1).toNat<aA x.ss:=by omega
  rw [sV,iD hl];exact(hx.sI _ (cK hl)).2.2
 exact⟨RN hm,hc,by omega,by omega⟩
structure Bdd(D D':Dk):Prop where
 x:D'.x=D.x
 h:D'.h=D.h
 l:D'.l=D.l
 ob:D'.ob=D.ob
 ai:D'.ai=D.ai
 st:D'.st=D.st
 en:D'.en=D.en
 bx:D'.bx=D.bx\/D.st=2
 lg:∃t,D'.log=D.log++t/\∀e∈t,e.k≠15
theorem aw.M3(H:aw C g D)(d:Bd):aw C (g+1) (qG D d)/\Bdd D (qG D d):=by
 by_cases h:xD D d=0
 ·have e:qG D d=PZ D d:=by grind [qG]
  rw [e];unfold xD at h;by_cases hs:D.st≠2
  ·omega
  rw [ifN hs] at h;by_cases hb:nS D.x d≠0
  ·omega
  rw [ifN hb] at h;by_cases hw:hasB D.who d.m=aO
  ·grind
  rw [ifN hw] at h;by_cases hv:jK D d.c=0
  ·omega
  rw [ifN hv] at h;unfold xB at h;rw [ifN hb] at h;have hlen:¬D.x.bQ<=(aA D.bx:Int):=λh'=>by omega
  have bP:=H.hs.bd;have I:=aD9 H.hs (show nS D.x d=0 by omega);have G:=H.tell (e:=⟨11,d.m,d.c,d.q,(aA D.bx:Int)+1⟩) ⟨by show 0<=d.c;omega,I.2.1.2,.inl I.2.2.1.1⟩ rfl;refine⟨⟨G.hs,G.bE,G.h8,G.hl,G.fl,G.lg,G.gl,G.who,G.ob,λy hy=> ?_, ?_,G.st,G.ai⟩,⟨rfl,rfl,rfl,rfl,rfl,rfl,rfl,.inr (by omega),_,rfl,by simp⟩⟩
  ·have hy':=hy;rcases gJ.1 hy' with h|h
   ·exact H.bx y h
   obtain rfl:=List.mem_singleton.1 h;exact⟨I.1,I.2.1,I.2.2.1,I.2.2.2,by grind [aL]⟩
  show aA (D.bx++ [_])<=32;grind
 have e:qG D d=D:=by grind [qG]
 rw [e];exact⟨H.wide (dJ _) H.bE.big (by omega),⟨rfl,rfl,rfl,rfl,rfl,rfl,rfl,.inl rfl,[],by simp,by simp⟩⟩
end
end
def tS(x:ak)(a:Int):Int:=if jI x a=0 then (dY x a).a else 1
def DC(D:Dk):List Ob:=D.ob.filter λx=>x.st==1&&(λx=>decide (0<x.az)) x
def Nf(x:ak)(m:Int)(n:Int)(o:Ob):Int:=if o.m=m then fS (n+fS (o.az*tS x o.a)) else n
def FZ(x:ak)(m:Int)(L:List Ob):Int:=L.foldl (Nf x m) 0
def AR(D:Dk)(m:Int):Int:=FZ D.x m (DC D)
theorem aJu {x:ak} {m:Int} {L:List Ob} {k:Nat}(h:k<aA L):FZ x m (L.take (k+1))=Nf x m (FZ x m (L.take k)) L[k]:=by rw [fE h];unfold FZ;rw [List.foldl_append];rfl
theorem aF4(db:Nat)(p:Dp)(D:Dk)(m:Int)(w:aJ)(H:bW w db p D)(hO:fX D)(hI:∀x∈D.ob,aL x.a):
 aQ aM 58 #[π db,ν m] w λe w'=>e=aT (ν (AR D m))/\β w w':=by
 have HC:=η (λW (hW:β w W)=>(H.below hW).cells);have uA:Hid (aA D.ob<=1024):=η hO.ob.len;have z8:=η (aIR D.ob p.sv p.sb 0 w H.sh (by have:=uA.o;omega));have hde:(D.ob.filter λx=>x.st==1&&(λx=>decide (0<x.az)) x)=DC D:=rfl;rw [hde] at z8;have Th:Hid (AR D m=FZ D.x m (DC D)):=η rfl;have aMd:aA (DC D)<=1024:=bz (qd _ _) uA.o;have TG:Hid (∀x∈DC D,aL x.a):=η (λx hx=>hI x (jD.1 hx).1);have oz:=η (λW (hW:β w W) a (ha:aL a)=>Nh D.x a W (H.below hW).src ha);have c9:=H.cells.c9;generalize AR D m=R at*;unfold ak.val at oz;generalize DC D=L at*;go_enter func58,ntmps58
 go_upto_region 3 with (go_at_call 116;refine z8.o.mono ?_;rintro e w1 ⟨v1,rfl,eB,hb1⟩;obtain⟨A1,k1,AH⟩:=bK eB;subst AH;have cY:=η (aW.cA eB);have aR:=η hb1)
 clear z8 c9;go_loopw [5,7,8,9,10,17] (λn _ _ _ _ i wr=>∃k:Nat,k<=aA L/\i=ν (k:Int)/\n=ν (FZ D.x m (L.take k))/\Hid (β w1 wr)) (λ_ _ _ _ _ i _=>aA L-(ag i).toNat)
 case atStart=>exact⟨0,bL _,rfl,rfl,η (aX _ _)⟩
 case round=>
  skip
  obtain⟨k,hk,rfl,rfl,HB⟩:=hrel;by_cases hlt:k<aA L
  ·obtain⟨bl,ol,kO,hbl,l0,l1,l2,l3,l4,l5⟩:=vw ((cY.o.below HB.o).mono HB.o.size) hlt;have eY:(0:Int)<=(k:Int):=by omega
   have hkb:(k:Int)<(aA L:Int):=by omega
   have HL:=η (aJu (x:=D.x) (m:=m) hlt);have Om:=η (TG.o _ (cK hlt));subst kO;generalize FZ D.x m (L.take k)=n at*;generalize L[k]=x at*;obtain⟨xc,xm,xa,xn,xd,xs⟩:=x;simp only at l0 l1 l2 l3 l4 l5;have lN:Hid (Nf D.x m n ⟨xc,xm,xa,xn,xd,xs⟩=if xm=m then fS (n+fS (xn*tS D.x xa)) else n):=η rfl;have gG:Hid (β wr (wr.alloc (aK #[ν xc,ν xm,ν xa,ν xn,ν xd,ν xs] 59))):=η σ;have qZ:Hid ((wr.alloc (aK #[ν xc,ν xm,ν xa,ν xn,ν xd,ν xs] 59)).heap[wr.heap.size]? =aC (aK #[ν xc,ν xm,ν xa,ν xn,ν xd,ν xs] 59 (0,0))):=η (cO wr _);have vq:wr.heap.size<(wr.alloc (aK #[ν xc,ν xm,ν xa,ν xn,ν xd,ν xs] 59)).heap.size:=by simp
   go_upto_region 5 with (fail)
   generalize wr.alloc (aK #[ν xc,ν xm,ν xa,ν xn,ν xd,ν xs] 59)=w6 at*;obtain⟨bx,bT⟩:∃bx,bx=wr.heap.size:=⟨_,rfl⟩;rw [<-bT] at qZ vq ⊢;clear bT l0 l1 l2 l3 l4 l5;have cC:Hid (β w1 w6):=η (HB.o.trans (gG.o.mono HB.o.size));have fM:Hid (∀W,β w6 W->W.cell? ⟨bx,1,aB⟩=aC (ν xm)/\W.cell? ⟨bx,2,aB⟩=aC (ν xa)/\W.cell? ⟨bx,3,aB⟩=aC (ν xn)):=η (λW hW=>by have hd:=(hW.block bx vq).trans qZ.o;exact⟨ρ hd,ρ hd,ρ hd⟩);have e1:=(fM.o _ (aX _ _)).1;clear HB gG qZ;by_cases h1:xm=m
   case neg=>
    have hb:(xm==m)=aP:=by simpa using h1
    rw [ifN h1] at lN;clear h1;go_wp2_with fail
    go_roundw
    case rel=>exact⟨k+1,by omega,by go_num,by rw [HL.o,lN.o],cC⟩
    case measure=>simp [ag];omega
   subst h1;rw [ifP rfl] at lN;have eW:Hid (∀W,β w6 W->β w W):=η (λW hW=>aR.o.trans ((cC.o.trans (hW.mono cC.o.size)).mono aR.o.size));have uD:Hid (∀W,β w6 W->W.cell? ⟨db,0,aB⟩=aC (aH D.x.Am (aA D.x.ms) D.x.cm)/\W.cell? ⟨db,1,aB⟩=aC (aH D.x.As (aA D.x.ss) D.x.cs)/\W.cell? ⟨db,2,aB⟩=aC (aH D.x.Ac (aA D.x.cy) D.x.cc)/\W.cell? ⟨db,3,aB⟩=aC (ν D.x.line)/\W.cell? ⟨db,4,aB⟩=aC (ν D.x.bV)/\W.cell? ⟨db,5,aB⟩=aC (ν D.x.lead)/\W.cell? ⟨db,6,aB⟩=aC (ν D.x.tr)/\W.cell? ⟨db,7,aB⟩=aC (ν D.x.bQ)/\W.cell? ⟨bx,2,aB⟩=aC (ν xa)):=η (λW hW=>by have c:=HC.o W (eW.o W hW);exact⟨c.c0,c.c1,c.c2,c.c3,c.c4,c.c5,c.c6,c.c7,(fM.o W hW).2.1⟩);go_upto_region 7 with (fail)
   have bP:β w6 w6.drew:=(aX _ _).drew;have hdd:=uD.o _ bP;clear e1;go_region_held3 (λW=>W.cell? ⟨db,0,aB⟩=aC (aH D.x.Am (aA D.x.ms) D.x.cm)/\W.cell? ⟨db,1,aB⟩=aC (aH D.x.As (aA D.x.ss) D.x.cs)/\W.cell? ⟨db,2,aB⟩=aC (aH D.x.Ac (aA D.x.cy) D.x.cc)/\W.cell? ⟨db,3,aB⟩=aC (ν D.x.line)/\W.cell? ⟨db,4,aB⟩=aC (ν D.x.bV)/\W.cell? ⟨db,5,aB⟩=aC (ν D.x.lead)/\W.cell? ⟨db,6,aB⟩=aC (ν D.x.tr)/\W.cell? ⟨db,7,aB⟩=aC (ν D.x.bQ)/\W.cell? ⟨bx,2,aB⟩=aC (ν xa)) (first|(with_reducible assumption)|(refine uD.o _ (rC (by with_reducible assumption) (gT (by with_reducible assumption)) _))|(refine uD.o _ (uK _ (uK _ (rC (by with_reducible assumption) (gT (by with_reducible assumption)) _) (gT (by with_reducible assumption))) (gT (by with_reducible assumption))))|(refine uD.o _ (uK _ (uK _ (by with_reducible assumption) (aZ _)) (aZ _)))) (first|(go_at_call 117;refine(oz.o _ (eW.o _ (by with_reducible assumption)) xa Om.o).mono ?_;rintro e w7 ⟨rfl,fh⟩;have dX:β w6 w7:=jt (by with_reducible assumption) (fh.mono (gT (by with_reducible assumption)));have hcc:=uD.o _ dX;have gD:=(ez fh).1;have hbf:=(ez fh).2)|(go_at_call 117;refine(oz.o _ (eW.o _ (rC (by with_reducible assumption) (gT (by with_reducible assumption)) _)) xa Om.o).mono ?_;rintro e w7 ⟨rfl,fh⟩;have dX:β w6 w7:=jt (rC (by with_reducible assumption) (gT (by with_reducible assumption)) _) (fh.mono (gT (rC (by with_reducible assumption) (gT (by with_reducible assumption)) _)));have hcc:=uD.o _ dX;have gD:=(ez fh).1;have hbf:=(ez fh).2))
   all_goals
    first
    |(have hbl:=rC dX dX.size (aK #[ν (dY D.x xa).a,ν (dY D.x xa).b] 69)
      have ew:=η hbl;have e3:=(fM.o _ hbl).2.2;by_cases h2:jI D.x xa=0
      ·have Fx:Hid (tS D.x xa=(dY D.x xa).a):=η (by unfold tS;rw [ifP h2]);go_wp2_with fail
       go_roundw
       case rel=>exact⟨k+1,by omega,by go_num,(by rw [HL.o,lN.o,Fx.o];try simp),η (cC.o.trans (ew.o.mono cC.o.size))⟩
       case measure=>simp [ag];omega
      have Fx:Hid (tS D.x xa=1):=η (by unfold tS;rw [ifN h2]);go_wp2_with fail
      go_roundw
      case rel=>exact⟨k+1,by omega,by go_num,(by rw [HL.o,lN.o,Fx.o];try simp),η (cC.o.trans (ew.o.mono cC.o.size))⟩
      case measure=>simp [ag];omega)
    |(have hbl:=uK (i:=1) (ν (dY D.x xa).b) (uK (b:=w6.heap.size) (i:=0) (ν (dY D.x xa).a) dX (aZ _)) (aZ _)
      have ew:=η hbl;have e3:=(fM.o _ hbl).2.2;by_cases h2:jI D.x xa=0
      ·have Fx:Hid (tS D.x xa=(dY D.x xa).a):=η (by unfold tS;rw [ifP h2]);go_wp2_with fail
       go_roundw
       case rel=>exact⟨k+1,by omega,by go_num,(by rw [HL.o,lN.o,Fx.o];try simp),η (cC.o.trans (ew.o.mono cC.o.size))⟩
       case measure=>simp [ag];omega
      have Fx:Hid (tS D.x xa=1):=η (by unfold tS;rw [ifN h2]);go_wp2_with fail
      go_roundw
      case rel=>exact⟨k+1,by omega,by go_num,(by rw [HL.o,lN.o,Fx.o];try simp),η (cC.o.trans (ew.o.mono cC.o.size))⟩
      case measure=>simp [ag];omega)
  obtain rfl:k=aA L:=by omega
  rw [cT];go_wp2_with fail
  go_ret;exact⟨cW Th.o.symm,aR.o.trans (HB.o.mono aR.o.size)⟩
def Xf(E:Dk)(m:Int):Dk:= {E with h:=E.h++ [⟨m,8,m,0,min (Bz E m) (AR E m)⟩]}
def ku(E:Dk):Nat->Dk
 |0=>E
 |k+1=>Xf (ku E k) ((k:Int)+1)
def lT(D:Dk)(L:List Lg):Int:=
 if D.st≠0 then 11 else if (aA D.x.cy:Int)<=D.ai then 6 else if mB D.x L≠0 then mB D.x L else if oT (gY L) (dQ (aA D.x.ss+1)) 0≠0 then oT (gY L) (dQ (aA D.x.ss+1)) 0 else qy (D.ai+1) (gY L) D.ob
def FU(D:Dk)(L:List Lg):Dk:= {D with ob:=np (D.ai+1) (gY L) D.ob,ai:=D.ai+1,st:=1}
def Bo(D:Dk)(L:List Lg):Dk:=jy (FU D L) 4 (gY L)
def Di(D:Dk)(L:List Lg):Dk:=ku (Bo D L) (aA D.x.ms)
def xe(D:Dk)(L:List Lg):Dk:=if lT D L=0 then Di D L else D
structure P7(E:Dk)(m:Int):Prop where
 ok:fX E
 mI:aL m
 aI:∀x∈E.ob,aL x.a
 up:qD E.h
 pos:Dn E.h m=aA E.h
 is:vr E.h m=aP
 room:aA E.h<aA E.x.ms
 ms:aA E.x.ms<=100000
 n0:0<=min (Bz E m) (AR E m)
 NY:plcA (aA E.x.ms) (aA E.x.ss+1) 8 m 0≠aB
 bI:aL (balA (aA E.x.ms) (aA E.x.ss+1) E.l 8 m 0-iL E.h 8 m 0)
 le:min (Bz E m) (AR E m)<=balA (aA E.x.ms) (aA E.x.ss+1) E.l 8 m 0-iL E.h 8 m 0
structure UG(D:Dk)(L:List Lg):Prop where
 ok:fX D
 ml:aA D.x.ms<=100000
 sl:aA D.x.ss<=100000
 cI:aL D.ai/\D.ai<=1000
 nl:aA (gY L)<=2000
 good:lT D L=0->∀k,k<aA D.x.ms->P7 (ku (Bo D L) k) ((k:Int)+1)
theorem a5n {x:ak} {L:List Lg}(h:mB x L=0):∀y∈gY L,aL y.n:=by
 intro y hy;unfold gY mC at hy;obtain⟨q,hq,rfl⟩:=dW.1 hy;have tO:=(jD.1 hq).1;unfold mB at h;split at h
 ·cases h
 split at h
 ·rename_i h2;exact absurd h h2
 split at h
 ·cases h
 rename_i h3;by_cases hI:aL (sD L q)
 ·exact hI
 exact absurd (jv.2 ⟨q,tO,by rw [(gp hI).2];rfl⟩) h3
theorem bW.a2Y {w:aJ} {db:Nat} {p:Dp} {D:Dk}(H:bW w db p D)(s:Int):cu db p p {D with ai:=s} w (w.setCell ⟨db,12,aB⟩ (aG aF s)):=
 ⟨H.Pc 12 (ν s) rfl rfl rfl rfl rfl rfl ⟨rfl,rfl,rfl,rfl,rfl,rfl,rfl⟩ H.who H.log,rfl,rfl,rfl,rfl,(bC.refl _ _).setCell (p:=⟨db,12,aB⟩) (.inl (.inl rfl)) _,λ_ h=> .inl h⟩
theorem V9(db:Nat)(p:Dp)(D:Dk)(L:List Lg)(A:Option aj)(c:Nat)(w:aJ)(H:bW w db p D)(hs:aW w w.heap.size A (bA L))(hI:∀y∈L,y.ok)(hl:aA L<=100000)(P:UG D L):
 aQ aM 26 #[π db,aH A (aA L) c] w λe w'=>e=aT (ν (lT D L))/\aq db p (xe D L) w w':=by
 have hb0:β w (w.alloc (aK #[ν 0] 3)):=(aX _ _).alloc (aZ _) _;have jO:=η (Js db p D 0 (aC ⟨w.heap.size,0,aB⟩) 1 _ (H.below hb0) (λj u hu=>⟨w.heap.size,0,rfl,by simp,by
  match j,hu with
  |0,hu=>exact(cL w #[ν 0] 3 0 rfl).trans (by simpa using hu)
  |j+1,hu=>simp at hu⟩))
 have HF:=η H;have HP:=η P;have aY:=η hb0;have HE:Hid (lT D L=if D.st≠0 then 11 else if (aA D.x.cy:Int)<=D.ai then 6 else if mB D.x L≠0 then mB D.x L else if oT (gY L) (dQ (aA D.x.ss+1)) 0≠0 then oT (gY L) (dQ (aA D.x.ss+1)) 0 else qy (D.ai+1) (gY L) D.ob):=η rfl;have yy:Hid (∀er,lT D L=er->er≠0->∀W,aq db p D w W->(aT (ν er)=aT (ν (lT D L)))/\aq db p (xe D L) w W):=η (λer h hn W hW=>by
  have e1:xe D L=D:=by unfold xe;rw [ifN (by rw [h];exact hn)]
  rw [e1,h];exact⟨rfl,hW⟩)
 have TB:Hid (lT D L=0->∀W,aq db p (Di D L) w W->(aT (ν 0)=aT (ν (lT D L)))/\aq db p (xe D L) w W):=η (λh W hW=>by
  have e1:xe D L=Di D L:=by unfold xe;rw [ifP h]
  rw [e1,h];exact⟨rfl,hW⟩)
 have qU:=η (λW (hW:β w W)=>aIJ D.x L A c W (H.below hW).src ((hs.below hW).mono hW.size) hI hl);have HC:=η (λW (hW:β w W)=>(H.below hW).cells);have y9:Hid (lT D L=0->∀k,k<aA D.x.ms->P7 (ku (Bo D L) k) ((k:Int)+1)):=η P.good;have HXE:Hid ((Bo D L).x=D.x):=η rfl;have HTE:Hid (Bo D L=jy (FU D L) 4 (gY L)):=η rfl;have qT:Hid (FU D L= {D with ob:=np (D.ai+1) (gY L) D.ob,ai:=D.ai+1,st:=1}):=η rfl;have Fp:Hid (Di D L=ku (Bo D L) (aA D.x.ms)):=η rfl;unfold ak.val at qU;generalize lT D L=ee at*;generalize xe D L=DW at*;go_enter func26,ntmps26
 by_cases h1:D.st=0
 case neg=>
  rw [ifP h1] at HE;rw [ifN h1] at jO;go_wp2_with (go_at_call 51;refine jO.o.mono ?_;rintro e w1 ⟨rfl,hb1⟩;have aR:=τ aY hb1)
  go_ret;exact yy.o 11 HE.o (by decide) _ (aq.bZ HF.o aR.o)
 rw [ifN (by simpa using h1)] at HE;rw [ifP h1] at jO;go_upto_region 4 with (go_at_call 51;refine jO.o.mono ?_;rintro e w1 ⟨rfl,hb1⟩;have aR:=τ aY hb1)
 have c2:=(HC.o _ aR.o).c2;have c12:=(HC.o _ aR.o).c12;go_quiet (fail)
 have aV:Hid (β w (w1.drewN nq)):=η (below_drewN aR.o nq);clear aR c2 c12;generalize w1.drewN nq=w2 at*;by_cases h2:(aA D.x.cy:Int)<=D.ai
 ·have hd:decide ((aA D.x.cy:Int)<=D.ai)=aO:=decide_eq_true h2;rw [ifP h2] at HE;go_wp2_with fail
  go_ret;exact yy.o 6 HE.o (by decide) _ (aq.bZ HF.o aV.o)
 rw [ifN h2] at HE;obtain⟨c0,c1,c2,c3,c4,c5,c6,c7,c8,c9,c10,c11,c12,c13,c14,c15⟩:=HC.o _ aV.o;by_cases h3:mB D.x L=0
 case neg=>
  rw [ifP h3] at HE;have hb:(mB D.x L==0)=aP:=by simpa using h3
  have iP:=η h3;have OU:=η ((qU.o _ aV.o).mono (R':=λe w'=>e=aT (bB #[aH aB 0 0,ν (mB D.x L)])/\β w2 w') (by
   rintro e w' ⟨hb3,⟨q1,_⟩|⟨q1,rfl⟩⟩
   ·exact absurd q1 h3
   exact⟨rfl,hb3⟩))
  go_wp2_with (go_at_call 52;refine OU.o.mono ?_;rintro e w3 ⟨rfl,hb3⟩;have af:=τ aV hb3)
  go_ret;exact yy.o _ HE.o iP.o _ (aq.bZ HF.o af.o)
 rw [ifN (by simpa using h3)] at HE;have OT:Hid (∀y∈gY L,aL y.n):=η (a5n h3);have OU:=η ((qU.o _ aV.o).mono (R':=λe w'=>∃A c,e=aT (bB #[aH A (aA (gY L)) c,ν 0])/\w'.ownsRow w.heap.size 76 3 (aH A (aA (gY L)) c) (aA (gY L)) (bA (gY L))/\β w2 w') (by
  rintro e w' ⟨hb3,⟨q1,v,rfl,ho⟩|⟨q1,rfl⟩⟩
  ·obtain⟨A,c,rfl⟩:=bK ho;exact⟨A,c,rfl,iB ho aV.o.size,hb3⟩
  exact absurd h3 q1))
 have rI:Hid (aA (gY L)<=100000):=η (by have:=HP.o.nl;omega);generalize hM:gY L=Nn at*;go_upto_region 9 with (go_at_call 52;refine OU.o.mono ?_;rintro e w3 ⟨A3,k3,rfl,iz,hb3⟩;have af:=τ aV hb3;have cD:=η (iI.cA HF.o iz);have mM:=η iz)
 clear OU aV c0 c1 c2 c3 c4 c5 c6 c7;have Tv:=η (aFA db p D Nn A3 k3 w3 (HF.o.below af.o) cD.o.dt rI.o OT.o HP.o.sl);by_cases h4:oT Nn (dQ (aA D.x.ss+1)) 0=0
 case neg=>
  rw [ifP h4] at HE;have gH:=η h4;have hb:(oT Nn (dQ (aA D.x.ss+1)) 0==0)=aP:=by simpa using h4
  generalize oT Nn (dQ (aA D.x.ss+1)) 0=we at*;go_wp2_with (go_at_call 53;refine Tv.o.mono ?_;rintro e w4 ⟨rfl,hb4⟩;have ar:=τ af hb4)
  go_ret;exact yy.o _ HE.o gH.o _ (aq.bZ HF.o ar.o)
 rw [h4] at Tv;rw [ifN (by simpa using h4)] at HE;go_upto_region 12 with (go_at_call 53;refine Tv.o.mono ?_;rintro e w4 ⟨rfl,hb4⟩;have ar:=τ af hb4;have dV:=η (cD.o.below hb4))
 have Me:D.ai<=1000/\aL D.ai:=⟨HP.o.cI.2,HP.o.cI.1⟩;have hwc:aF.wrap (D.ai+1)=D.ai+1:=wE (by unfold aL at*;omega);have ZW:Hid (Nn≠ []->aA Nn<=k3):=η (λ_=>by
  rcases mM.o.2 with⟨e,h0⟩|⟨g,cap,cur,e,_,_,hle,_⟩
  ·omega
  injection e with _ _ e3;omega)
 have ZX:Hid (aA Nn<=k3):=η (by
  by_cases h0:Nn= []
  ·rw [h0];simp
  exact ZW.o h0)
 have hrw:bA Nn≠ []\/Nn= []:=by
  cases Nn with
  |nil=>exact .inr rfl
  |cons x l=>left;simp [bA,Lg.cells]
 have Zo:=η hrw;have Zi:Hid (∀W,β w4 W->aQ aM 54 #[π p.sb,ν (D.ai+1),aH A3 (aA Nn) k3] W λe W'=>e=aT (ν (qy (D.ai+1) Nn D.ob))/\aq db p {D with ob:=np (D.ai+1) Nn D.ob} W W'/\W'.cell? ⟨db,9,aB⟩=aC (π p.sb)/\W'.cell? ⟨db,5+7,aB⟩=aC (ν D.ai)):=η (λW hW=>by
  have ZF:=HF.o.below (ar.o.trans (hW.mono ar.o.size));have HOW:=dV.o.below hW;refine(aIV D.ob (D.ai+1) Nn A3 k3 p.sv p.sb 0 W ZF.sh HP.o.ok.ob HOW.dt (λhne q hq=> ?_) (bL _) rI.o ZX.o OT.o).mono ?_
  ·have hn:¬eV db p q.block:=HOW.o (Zo.o.resolve_right hne) q hq;exact⟨λe=>hn (.inr (.inr (.inl (.inl e)))),λe=>hn (.inr (.inr (.inl (.inr e.symm))))⟩
  intro e W' h;obtain⟨q1,q2⟩:=ZF.Fb h;obtain⟨p3,H3,f1,f2,f3,f4,qN,hs3⟩:=q2;exact⟨q1,⟨p3,H3,f1,f2,f3,f4,qN,hs3⟩,by rw [<-f2];exact H3.cells.c9,H3.cells.c12⟩)
 have Cb:Hid (∀W,β w4 W->W.cell? ⟨db,9,aB⟩=aC (π p.sb)/\W.cell? ⟨db,12,aB⟩=aC (ν D.ai)):=η (λW hW=>by have c:=HC.o W (ar.o.trans (hW.mono ar.o.size));exact⟨c.c9,c.c12⟩);have bP:β w4 w4.drew:=(aX _ _).drew;have hdd:=Cb.o _ bP;go_region_held3 (λW=>W.cell? ⟨db,9,aB⟩=aC (π p.sb)/\W.cell? ⟨db,12,aB⟩=aC (ν D.ai)) (first|(with_reducible assumption)) ((go_at_call 54;refine(Zi.o _ (by with_reducible assumption)).mono ?_;rintro e w5 ⟨rfl,hop,hk9,QZ⟩;have WL:=kT hk9 QZ))
 have CV:Hid (aq db p {D with ob:=np (D.ai+1) Nn D.ob} w w5):=η (aq.trans (bC.bZ _ (ar.o.trans (bP.mono ar.o.size))) (λ_ h=> .inl h) ⟨rfl,rfl,rfl,rfl⟩ hop);have Zk:Hid (aq db p {D with ob:=np (D.ai+1) Nn D.ob} w4 w5):=η (aq.trans (bC.bZ _ bP) (λ_ h=> .inl h) ⟨rfl,rfl,rfl,rfl⟩ hop);clear hop WL hk9 bP hdd Zi Cb ZW ZX Zo af HC;by_cases h5:qy (D.ai+1) Nn D.ob=0
 case neg=>
  have og:=η h5;have hb:(qy (D.ai+1) Nn D.ob==0)=aP:=by simpa using h5
  have JN:Hid (aq db p D w w5):=η (by have h:=CV.o;rw [show np (D.ai+1) Nn D.ob=D.ob from by unfold np;rw [ifN h5]] at h;exact h);clear h5 QZ;generalize qy (D.ai+1) Nn D.ob=oe at*;go_wp2_with fail
  go_ret;exact yy.o _ HE.o og.o _ JN.o
 rw [h5] at HE;obtain⟨p5,Ba⟩:=Zk.o.q;have fL:=η (dV.o.step Ba);have ot:Hid (cu db p p5 {D with ob:=np (D.ai+1) Nn D.ob} w w5):=η ((cu.bZ HF.o ar.o).trans Ba);have f12:w5.frozen? ⟨db,12,aB⟩=aP:=by have hb:=Ba.at.blk;simp [iJ,hb]
 have OB:=η (y9.o HE.o);clear Ba CV Zk dV ar;rw [show (⟨db,5+7,aB⟩:aj)=⟨db,12,aB⟩ from rfl] at QZ;rw [h5];clear h5;go_upto_region 16 with (fail)
 have ou:=η (ot.o.trans (ot.o.at.a2Y (D.ai+1)));have kL:=η (fL.o.step (ot.o.at.a2Y (D.ai+1)));clear ot fL QZ f12;generalize (w5.setCell ⟨db,12,aB⟩ (ν (D.ai+1)))=w6 at*;have f13:w6.frozen? ⟨db,13,aB⟩=aP:=by have hb:=ou.o.at.blk;simp [iJ,hb]
 have c13:=ou.o.at.cells.c13;go_upto_region 17 with (fail)
 have qW:Hid (cu db p p5 (FU D L) w (w6.setCell ⟨db,13,aB⟩ (ν 1))):=η (by rw [qT.o];exact ou.o.trans (ou.o.at.Ry 1));have oh:=η (kL.o.step (ou.o.at.Ry 1));have HLG:Hid ((FU D L).log.length<=90000):=η (by rw [qT.o];exact HP.o.ok.gl);have a9R:Hid (aA Nn<=2000):=η (by rw [<-hM];exact HP.o.nl);have wU:Hid (aA D.x.ms<=100000):=η HP.o.ml;clear ou kL c13 f13 qT HP hwc;generalize (w6.setCell ⟨db,13,aB⟩ (ν 1))=w7 at*;generalize FU D L=E0 at*;generalize Bo D L=T0 at*;have pM:=a9R.o;go_upto_region 18 with (fail)
 have iX:Hid (cu db p p5 (jy E0 4 (Nn.take 0)) w w7):=η (by
  have e:jy E0 4 (Nn.take 0)=E0:=by unfold jy;simp
  rw [e];exact qW.o)
 clear qW;go_loopw [11,75] (λ_ i wr=>∃(k:Nat) (pk:Dp),k<=aA Nn/\i=ν (k:Int)/\Hid (cu db p pk (jy E0 4 (Nn.take k)) w wr)/\Hid (iI db pk wr A3 (bA Nn))) (λ_ i _=>aA Nn-(ag i).toNat)
 case atStart=>exact⟨0,p5,bL _,rfl,iX,oh⟩
 case round=>
  clear iX oh;obtain⟨k,pk,hk,rfl,HQ,HO⟩:=hrel;by_cases hlt:k<aA Nn
  ·obtain⟨bl,ol,kO,hbl,l0,l1,l2⟩:=oL HO.o.dt hlt;have hkb:(k:Int)<(aA Nn:Int):=by omega
   have L5:Hid ((jy E0 4 (Nn.take k)).log.length<=100000):=η (by unfold jy;simp only [cN,iR,uz];have:=HLG.o;omega);have HL:=η (a3A (D:=E0) (kd:=4) hlt);subst kO;generalize jy E0 4 (Nn.take k)=E at*;generalize Nn[k]=x at*;obtain⟨xm,xa,xn⟩:=x;simp only at l0 l1 l2;have ny:Hid (β wr ((wr.alloc (aK #[ν xm,ν xa,ν xn] 76)).alloc (aK #[ν 4,ν xm,ν xa,ν xn,ν 0] 45))):=η (σ.alloc (by simp) _);have kW:=η (xK db pk E [⟨4,xm,xa,xn,0⟩] (wr.heap.size+1) 1 _ (HQ.o.at.below ny.o) (dN (wr.alloc (aK #[ν xm,ν xa,ν xn] 76)) 45 #[ν 4,ν xm,ν xa,ν xn,ν 0] (by simp)) (by simp) (by simp) (by have:=L5.o;omega));have ow:=η (HQ.o.below ny.o);have tz:=η (HO.o.below ny.o);clear HQ HO;go_wp2_with (go_at_call 55;refine kW.o.mono ?_;rintro e w8 ⟨rfl,h8⟩;obtain⟨p9,AD,FH⟩:=ow.o.then h8;have sO:=η AD;have wW:=η (tz.o.step FH);clear h8 AD FH)
   go_roundw
   case rel=>exact⟨k+1,p9,by omega,by go_num,η (by rw [HL.o];exact sO.o),wW⟩
   case measure=>simp [ag];omega
  obtain rfl:k=aA Nn:=by omega
  rw [cT,<-HTE.o] at HQ;clear HO;have c0:=HQ.o.at.cells.c0;rw [HXE.o] at c0;have ij:=wU.o;go_upto_region 23 with (fail)
  clear c0;generalize hMM:aA D.x.ms=M at*;have o6:Hid (cu db p pk (ku T0 0) w wr):=η HQ.o;clear HQ;go_loopw [12,13,96] (λ_ _ i wr=>∃(k:Nat) (pk:Dp),k<=M/\i=ν (k:Int)/\Hid (cu db p pk (ku T0 k) w wr)) (λ_ _ i _=>M-(ag i).toNat)
  case atStart=>exact⟨0,pk,bL _,rfl,o6⟩
  case round=>
   clear o6;obtain⟨k,pk,hk,rfl,HQ⟩:=hrel;by_cases hlt:k<M
   ·have eY:(0:Int)<=(k:Int):=by omega
    have hkb:(k:Int)<(M:Int):=by omega
    have eI:=η (OB.o k hlt);have cG:Hid (ku T0 (k+1)=Xf (ku T0 k) ((k:Int)+1)):=η rfl;have EG:Hid (aL ((k:Int)+1)):=η eI.o.mI;have Ts:=η (aEl db pk (ku T0 k) ((k:Int)+1) wr HQ.o.at EG.o eI.o.ok.lI (by have:=eI.o.ok.hl;omega));have Ti:=η (λW (hW:β wr W)=>aF4 db pk (ku T0 k) ((k:Int)+1) W (HQ.o.at.below hW) eI.o.ok eI.o.aI);have hp8:∀(E:Dk) (m:Int) (W:aJ) (pw:Dp),P7 E m->bW W db pw E->aQ aM 57 #[π pw.vb,ν m,bU #[ν 8,ν m,ν 0,ν (min (Bz E m) (AR E m))]] W λe W'=>e=aT (ν 0)/\aq db pw (Xf E m) W W'/\W'.cell? ⟨db,8,aB⟩=aC (π pw.vb):=by intro E m W pw P H;refine(aLY pw.vb pw.vp (aA E.x.ms) (aA E.x.ss+1) (aA E.x.ms) E.l E.h ⟨m,8,m,0,min (Bz E m) (AR E m)⟩ W H.vt P.ok.lI (by have:=P.ok.hl;omega) P.up P.pos P.is ⟨by have:=P.room;omega,by have:=P.ms;omega⟩ (by decide:aL 8) P.mI rfl P.n0 P.NY P.bI P.le).mono ?_;intro e W' h;obtain⟨q1,q2⟩:=H.held h;obtain⟨p3,H3,f1,f2,f3,f4,qN,hs3⟩:=q2;exact⟨q1,⟨p3,H3,f1,f2,f3,f4,qN,hs3⟩,by rw [<-f1];exact H3.cells.c8⟩
    have CX:=η (λW (hW:β wr W)=>hp8 (ku T0 k) ((k:Int)+1) W pk eI.o (HQ.o.at.below hW));have BA:=η (λW (hW:β wr W)=>(HQ.o.at.below hW).cells.c8);rw [<-cG.o] at CX;clear hp8 eI;generalize ku T0 k=E at*;generalize MT:ku T0 (k+1)=E1 at*;have xz:=η MT;clear MT;generalize Bz E ((k:Int)+1)=un at*;generalize AR E ((k:Int)+1)=rk at*;have BW:aF.wrap ((k:Int)+1)=(k:Int)+1:=wE EG.o;go_upto_region 26 with (go_at_call 56;refine Ts.o.mono ?_;rintro e wu ⟨rfl,hbu⟩;have HBU:=η hbu;clear hbu)
    rw [<-BW] at CX Ti;clear BW;have bP:β wr wu.drew:=HBU.o.drew;have hdd:=BA.o _ bP;go_region_held3 (λW=>W.cell? ⟨db,8,aB⟩=aC (π pk.vb)) (first|(with_reducible assumption)) (first|(go_at_call 47;with_reducible refine tY (za (aF.wrap ((k:Int)+1)) _) ?_;rintro e wa ⟨rfl,nA⟩;have yX:β wr wa:=jt (by with_reducible assumption) (nA.mono (gT (by with_reducible assumption)));have qp:=BA.o _ yX)|(go_at_call 58;with_reducible refine tY (Ti.o _ (by with_reducible assumption)) ?_;rintro e wb ⟨rfl,iy⟩;have rY:β wr wb:=jt (by with_reducible assumption) (iy.mono (gT (by with_reducible assumption)));have hcb:=BA.o _ rY)|(go_at_call 57;with_reducible refine tY (CX.o _ (by with_reducible assumption)) ?_;rintro e wc ⟨rfl,hpl,hcc⟩))
    all_goals
     have JN:Hid (aq db pk E1 wr wc):=η (aq.trans (bC.bZ _ (by with_reducible assumption)) (λ_ h=> .inl h) ⟨rfl,rfl,rfl,rfl⟩ hpl);obtain⟨pc,Mv,_⟩:=HQ.o.then JN.o;have Te:=η Mv;clear hpl hcc nA yX qp iy rY hcb bP hdd CX BA Ti HQ Mv JN;go_wp2_with fail
     go_roundw
     case rel=>exact⟨k+1,pc,by omega,by go_num,η (by rw [xz.o];exact Te.o)⟩
     case measure=>simp [ag];omega
   obtain rfl:k=M:=by omega
   go_wp2_with fail
   go_ret;exact TB.o HE.o _ (by rw [Fp.o];exact HQ.o.p)
theorem a4l(q:Int×Int):∀l,aA (insSd q l)<=aA l+1
 | []=>by simp [insSd]
 |p::l=>by have:=a4l q l;grind [insSd]
theorem aKI(L:List Lg):aA (fw L)<=aA L:=by
 induction L with
 |nil=>simp [fw]
 |cons x L ih=>
  grind [a4l,fw]
theorem a5o(L:List Lg):aA (gY L)<=aA L:=by grind [gY,mC,aKI]
theorem aIC {x:ak} {L:List Lg}(h:mB x L=0):∀z∈L,mX x z=0:=by grind [Ei,mB]
theorem aI7 {x:ak} {y:Lg}(h:mX x y=0):(1<=y.m/\y.m<=(aA x.ms:Int))/\0<=y.a/\y.a<=(aA x.ss:Int):=by
 unfold mX at h;by_cases h1:jX x y.m=0
 ·rw [ifN (by omega)] at h;refine⟨RN h1, ?_⟩;by_cases h2:y.a=0
  ·omega
  rw [ifN h2] at h;have:=Rv h;omega
 omega
theorem YY {L:List Lg}:∀(ks:List Nat) (r:Int),oT L ks r=0->∀a∈ks,Dx L (a:Int)=aP
 | [],_,_,a,ha=>by simp at ha
 |k::ks,r,h,a,ha=>by
  unfold oT at h;by_cases hb:Dx L (k:Int)=aO
  ·grind
  rw [ifN hb] at h;rcases fC.1 ha with rfl|ha
  ·simpa using hb
  by_cases hs:jq L (k:Int)=lU L (k:Int)
  ·rw [ifP hs] at h;exact YY ks r h a ha
  rw [ifN hs] at h;exact YY ks 17 h a ha
structure a0M(x:ak)(N:List Lg):Prop where
 pP:∀y∈N,(1<=y.m/\y.m<=(aA x.ms:Int))/\(0<=y.a/\y.a<=(aA x.ss:Int))/\y.n≠0/\aL y.n
 wC:N.Pairwise λy z=>y.m<z.m\/(y.m=z.m/\y.a<z.a)
 sid:∀a:Int,0<=a->a<=(aA x.ss:Int)->jq N a<=kR a/\lU N a<=kR a
theorem aIF {x:ak}(hx:GH x) {L:List Lg}(h:mB x L=0)(hw:oT (gY L) (dQ (aA x.ss+1)) 0=0)(hI:∀y∈L,y.ok):a0M x (gY L):=by
 have hc:=aIC h;have hq:∀q∈fw L,(1<=q.1/\q.1<=(aA x.ms:Int))/\0<=q.2/\q.2<=(aA x.ss:Int):=λq hq=>by obtain⟨z,hz,rfl⟩:=(Ru L q).1 hq;exact aI7 (hc z hz)
 have jk:=hx.sl;refine⟨λy hy=> ?_, ?_,λa h0 h1=> ?_⟩
 ·have aMy:=a5n h y hy;obtain⟨q,tO,rfl⟩:=dW.1 hy;grind
 ·unfold gY mC;rw [BG];refine Ow ?_ ((a7D (λy hy=>(hI y hy).a)).filter _);grind [pQ]
 have:=YY _ _ hw a.toNat (by grind);grind [Dx]
theorem Ra(f:Ob->Int)(L R:List Ob):dT f (L++R)=dT f L+dT f R:=by grind [dT]
theorem XW {f:Ob->Int}:∀ {L:List Ob},(∀x∈L,0<=f x)->∀x∈L,f x<=dT f L
 | [],_,x,hx=>by simp at hx
 |y::L,h,x,hx=>by
  have h1:=h y (by simp);have h2:=a6H (f:=f) (L:=L) (λz hz=>h z (dh _ hz));have e:dT f (y::L)=f y+dT f L:=by simp [dT]
  rw [e];rcases fC.1 hx with rfl|hx
  ·omega
  have:=XW (f:=f) (L:=L) (λz hz=>h z (dh _ hz)) x hx;omega
theorem a6G(f:Ob->Int)(y:Ob)(L:List Ob):dT f (y::L)=f y+dT f L:=by simp [dT]
theorem aKZ(y:Lg)(N:List Lg)(a:Int):jq (y::N) a=(if 0<y.n/\y.a=a then y.n else 0)+jq N a:=by grind [jq,kZ,lj,jF,sumI]
theorem aKY(y:Lg)(N:List Lg)(a:Int):lU (y::N) a=(if y.n<0/\y.a=a then-y.n else 0)+lU N a:=by grind [lU,kZ,jH,jF,sumI]
theorem Pn(c a:Int):∀N:List Lg,dT (vJ a) (N.map (ft c))=jq N a
 | []=>rfl
 |y::N=>by rw [yM,a6G,Pn c a N,aKZ];unfold vJ ft;simp
theorem Pg(c a:Int):∀N:List Lg,dT (qI a) (N.map (ft c))=lU N a
 | []=>rfl
 |y::N=>by rw [yM,a6G,Pg c a N,aKY];unfold qI ft;simp
theorem aF1(c a:Int)(N:List Lg):dT (oF a) (N.map (ft c))=0:=Dl λx hx=>by grind [oF,ft]
theorem aEx(c m a:Int)(N:List Lg):dT (oD m a) (N.map (ft c))=0:=Dl λx hx=>by grind [oD,ft]
theorem aKX {L:List Ob}(h:L.any eZ=aP):∀x∈L,x.st≠1:=λx hx e=>by grind [ua]
theorem kY.opened {x:ak} {ai:Int} {who:List Int} {L:List Ob} {N:List Lg}(h:kY (aA x.ms) (aA x.ss) ai who L)(F:a0M x N)(hl:aA N<=120)(hs:L.any eZ=aP):
 kY (aA x.ms) (aA x.ss) (ai+1) who (L++N.map (ft (ai+1))):=by
 have rr:=aKX hs;have hnz:∀(f:Ob->Int),(∀x,x.st≠1->f x=0)->dT f L=0:=λf hf=>Dl (λx hx=>hf x (rr x hx))
 have key:∀a:Int,jq N a<=kR a/\lU N a<=kR a:=λa=>by
  by_cases ha:0<=a/\a<=(aA x.ss:Int)
  ·exact F.sid a ha.1 ha.2
  have hm:=xY a;have h1:jq N a=0:=by
   rw [<-Pn 0];refine Dl λz hz=> ?_
   obtain⟨y,hy,rfl⟩:=dW.1 hz;have:=(F.pP y hy).2.1;grind [vJ,ft]
  have h2:lU N a=0:=by
   rw [<-Pg 0];refine Dl λz hz=> ?_
   obtain⟨y,hy,rfl⟩:=dW.1 hz;have:=(F.pP y hy).2.1;grind [qI,ft]
  omega
 have ki:∀y∈N,-kR y.a<=y.n/\y.n<=kR y.a:=λy hy=>by have hk:=key y.a;have hm:=xY y.a;have d1:=XW (f:=vJ y.a) (L:=N.map (ft 0)) (λz _=>a2d _ z) (ft 0 y) (dW.2 ⟨y,hy,rfl⟩);have d2:=XW (f:=qI y.a) (L:=N.map (ft 0)) (λz _=>a2I _ z) (ft 0 y) (dW.2 ⟨y,hy,rfl⟩);grind [Pn,Pg,vJ,ft,qI]
 refine⟨λz hz=> ?_,λz hz=> ?_, ?_,λa=> ?_,λa=> ?_, ?_⟩
 ·rcases gJ.1 hz with hz|hz
  ·have E:=h.each z hz;exact⟨E.m,E.a,E.big,by have:=E.c;omega,E.st,E.Y3,E.o,E.cmp⟩
  obtain⟨y,hy,rfl⟩:=dW.1 hz;have I:=F.pP y hy;exact⟨I.1,I.2.1,ki y hy,dJ _,by show (1:Int)<=1/\(1:Int)<=5;omega,λe=>by have:(1:Int)=2:=e;omega,λe=>by have:(1:Int)=3:=e;omega,λe=>by have:(1:Int)=4\/(1:Int)=5:=e;omega⟩
 ·rcases gJ.1 hz with hz|hz
  ·exact h.ok z hz
  obtain⟨y,hy,rfl⟩:=dW.1 hz;have I:=F.pP y hy;have hb:=ki y hy;have hm:=xY y.a;refine⟨?_, ?_,I.2.2.1,dJ _, ?_⟩
  ·show fJ<y.n;unfold fJ;omega
  ·show y.n<=_;omega
  grind [Ob.size,ft]
 ·rw [Le];refine⟨h.ord, ?_,λz hz u hu o1 o2=>absurd (ua.1 o1) (rr z hz)⟩;rw [BG];exact F.wC.imp (λ{y z} h _ _=>h)
 ·rw [Ra,hnz _ (λx hx=>a2J hx),Pg];grind
 ·rw [Ra,hnz _ (λx hx=>a2e hx),Pn];grind
 rw [cN,iR];have:=h.len;omega
theorem Xt {x:ak} {m:Int}:∀(L:List Ob) (n:Int),(∀o∈L,0<=o.az*tS x o.a/\o.az*tS x o.a<=288230376151711744)->0<=n->n+(aA (L.filter λo=>o.m==m):Int)*288230376151711744<=9*288230376151711744->0<=L.foldl (Nf x m) n
 | [],n,_,h0,_=>h0
 |o::L,n,h,h0,h1=>by
  have ho:=h o (by simp);have hr:∀z∈L,0<=z.az*tS x z.a/\z.az*tS x z.a<=288230376151711744:=λz hz=>h z (dh _ hz)
  rw [Ck];unfold Nf;by_cases hm:o.m=m
  ·rw [ifP hm,List.filter_cons_of_pos (by simpa using hm),uF] at*;have hle:(0:Int)<=(aA (L.filter λo=>o.m==m):Int)*288230376151711744:=by omega
   rw [wrap64_in (by unfold aL;omega:aL (o.az*tS x o.a)),wrap64_in (by unfold aL;omega)];exact Xt L _ hr (by omega) (by omega)
  rw [ifN hm];rw [List.filter_cons_of_neg (by simpa using hm)] at h1;exact Xt L n hr h0 h1
theorem aw.aJt {C:Int} {g:Nat} {D:Dk}(H:aw C g D)(m:Int):0<=AR D m:=by
 unfold AR FZ;have jk:=H.hs.sl;refine Xt _ 0 (λo ho=> ?_) (dJ _) ?_
 ·unfold DC at ho;obtain⟨h1,h2⟩:=jD.1 ho;simp only [jb,beq_iff_eq,decide_eq_true_eq] at h2;have E:=H.ob.each o h1;have hb:=E.big.2;unfold tS;by_cases hs:jI D.x o.a=0
  ·rw [ifP hs];have DZ:=Rv hs;have hp:1<=(dY D.x o.a).a/\(dY D.x o.a).a<=1048576:=by
    unfold dY;rw [ifP (show tU D.x o.a from DZ)];have hl:(o.a-1).toNat<aA D.x.ss:=by omega
    rw [sV,iD hl];exact(H.hs.sI _ (cK hl)).1
   generalize (dY D.x o.a).a=p at hp;unfold kR at hb;rw [ifN (by omega)] at hb;refine⟨Int.mul_nonneg (by omega) (by omega), ?_⟩;have:=Int.mul_le_mul hb hp.2 (by omega) (by omega);omega
  rw [ifN hs];have:=xY o.a;omega
 have hl:aA ((DC D).filter λo=>o.m==m)<=9:=by
  have hp:(((DC D).filter λo=>o.m==m).map (·.a)).Pairwise (· < ·):=by rw [BG];refine Ow ?_ ((H.ob.ord.filter _).filter _);intro y z hy hz N6;obtain⟨IM,nE⟩:=jD.1 hy;obtain⟨hz1,hz2⟩:=jD.1 hz;have vn:=(jD.1 IM).2;have hz3:=(jD.1 hz1).2;simp only [jb,beq_iff_eq,decide_eq_true_eq] at nE hz2 vn hz3;have:=N6 (ua.2 vn.1) (ua.2 hz3.1);omega
  have:=SN (k:=9) (lo:= -1) hp (λa ha=>by obtain⟨y,hy,rfl⟩:=dW.1 ha;have IM:=(jD.1 (jD.1 hy).1).1;have:=(H.ob.each y IM).a;omega)
  rwa [iR] at this
 omega
structure aAP(E V:Dk)(k:Nat):Prop where
 x:V.x=E.x
 l:V.l=E.l
 ob:V.ob=E.ob
 bx:V.bx=E.bx
 who:V.who=E.who
 ai:V.ai=E.ai
 st:V.st=E.st
 en:V.en=E.en
 log:V.log=E.log
 row:∀r∈V.h,r.s=8/\r.m=r.i/\1<=r.i/\r.i<=(k:Int)
 up:qD V.h
 len:aA V.h=k
theorem Re {E:Dk}(hh:E.h= []):∀k,aAP E (ku E k) k
 |0=>by
  refine⟨rfl,rfl,rfl,rfl,rfl,rfl,rfl,rfl,rfl, ?_, ?_, ?_⟩
  ·show∀r∈E.h,_;rw [hh];simp
  ·show qD E.h;rw [hh];exact U5
  show aA E.h=0;rw [hh];rfl
 |k+1=>by
  have I:=Re hh k;refine⟨I.x,I.l,I.ob,I.bx,I.who,I.ai,I.st,I.en,I.log, ?_, ?_, ?_⟩
  ·intro r hr;have FE:=hr;rcases gJ.1 FE with h|h
   ·have:=I.row r h
    push_cast
    omega
   grind
  ·show qD ((ku E k).h++ [_]);unfold qD;rw [Le];refine⟨I.up,by simp,λr hr u hu=> ?_⟩;obtain rfl:=List.mem_singleton.1 hu;have:=I.row r hr;simp only;omega
  show aA ((ku E k).h++ [_])=k+1;rw [cN,I.len];rfl
theorem aw.a6U {C:Int} {g:Nat} {E:Dk}(H:aw C g E)(hh:E.h= []) {k:Nat}(hk:k<=aA E.x.ms):aw C g (ku E k):=by have I:=Re hh k;have ij:=H.hs.ml;refine⟨by rw [I.x];exact H.hs,by rw [I.x,I.l,I.en];exact H.bE,λr hr=>(I.row r hr).1,by rw [I.len];omega,λa=>by rw [I.log,I.x,I.l];exact H.fl a,by rw [I.x,I.log];exact H.lg,by rw [I.log];exact H.gl,by rw [I.x,I.who];exact H.who,by rw [I.x,I.ai,I.who,I.ob];exact H.ob,by rw [I.bx,I.x];exact H.bx,by rw [I.bx];exact H.bl,by rw [I.st];exact H.st,by rw [I.ai];exact H.ai⟩
theorem aGN:∀(h:List Hr) (m:Int),(∀r∈h,r.m≠m)->iL h 8 m 0=0:=by
 intro h m hh
 suffices S:∀(h:List Hr) (n:Int),(∀r∈h,r.m≠m)->h.foldl (λn r=>if r.s==8&&r.m==m&&r.a==0 then fS (n+r.n) else n) n=n from S h 0 hh
 intro h;induction h with
 |nil=>intro n _;rfl
 |cons r h ih=>
  grind
theorem aw.aJR {C:Int} {g:Nat} {E:Dk}(H:aw C g E)(hh:E.h= [])(hg:g<=90000) {k:Nat}(hk:k<aA E.x.ms):P7 (ku E k) ((k:Int)+1):=by
 have I:=Re hh k;have G:=H.a6U hh (k:=k) (by omega);have ij:=H.hs.ml;have hlt:∀r∈(ku E k).h,r.i<(k:Int)+1:=λr hr=>by have:=I.row r hr;omega
 have hhe:iL (ku E k).h 8 ((k:Int)+1) 0=0:=aGN _ _ (λr hr=>by have:=I.row r hr;omega);have h8:=G.bE.tD ((k:Int)+1) 0;have h8n:=G.bE.ok.nn (k:=8) rfl ((k:Int)+1) 0;have hpl:∃n,plcA (ku E k).x.ms.length ((ku E k).x.ss.length+1) 8 ((k:Int)+1) 0=aC n:=by rw [I.x];exact Br (.inr (.inl rfl)) ⟨by omega,by omega⟩ (by omega) (by omega)
 obtain⟨n,hn⟩:=hpl;have hu:Bz (ku E k) ((k:Int)+1)=balA (ku E k).x.ms.length ((ku E k).x.ss.length+1) (ku E k).l 8 ((k:Int)+1) 0:=by grind [Bz,eA,aL]
 have hr:=G.aJt ((k:Int)+1);refine⟨G.ok hg,by unfold aL;omega,λx hx=> ?_,I.up, ?_, ?_,by rw [I.len,I.x];exact hk,by rw [I.x];omega,by rw [hu];omega,by rw [hn];simp,by grind [aL],by rw [hu,hhe];omega⟩
 ·have:=(G.ob.each x hx).a;have:=G.hs.sl;unfold aL;omega
 ·refine Xi (aZ _) (λj hj _=>hlt _ (cK hj)) (λhj=>absurd hj (Nat.lt_irrefl _))
 grind [vr]
structure aAF(K:Int)(g:Nat)(D D':Dk):Prop where
 ig:aw (K+576460752303423488) (g+120) D'
 Q2:nx K D'
 x:D'.x=D.x
 en:D'.en=D.en
 ai:D'.ai=D.ai+1
 up:qD D'.h
 bx:D'.bx=D.bx
 st:D'.st=1
 lg:∃t,D'.log=D.log++t/\∀e∈t,e.k≠15
theorem aw.az {K:Int} {g:Nat} {D:Dk}(H:aw (K+576460752303423488) g D)(F:nx K D)(hst:D.st=0->D.h= []) {L:List Lg}(hl:aA L<=120)(hI:∀y∈L,y.ok)(hg:g+120<=90000):UG D L/\(lT D L=0->aAF K g D (Di D L)):=by
 have ij:=H.hs.ml;have jk:=H.hs.sl;have hcy:=H.ai;have pM:=a5o L;have key:lT D L=0->aw (K+576460752303423488) (g+120) (Bo D L)/\(Bo D L).h= []/\nx K (Bo D L):=λh0=>by
  unfold lT at h0;by_cases c1:D.st≠0
  ·omega
  rw [ifN c1] at h0;by_cases c2:(aA D.x.cy:Int)<=D.ai
  ·omega
  rw [ifN c2] at h0;by_cases c3:mB D.x L≠0
  ·omega
  rw [ifN c3] at h0;by_cases c4:oT (gY L) (dQ (aA D.x.ss+1)) 0≠0
  ·omega
  rw [ifN c4] at h0;have NF:=aIF H.hs (L:=L) (by omega) (by omega) hI;have hop:D.ob.any eZ=aP:=by grind [qy]
  have eO:np (D.ai+1) (gY L) D.ob=D.ob++(gY L).map (ft (D.ai+1)):=by grind [np]
  have hO:=H.ob.opened NF (by omega) hop;have jz:=H.hs.cl
  have G0:aw (K+576460752303423488) g (FU D L):=
   ⟨H.hs,H.bE,H.h8,H.hl,H.fl,H.lg,H.gl,H.who,by show kY _ _ _ _ (np _ _ _);rw [eO];exact hO,H.bx,H.bl,by show (0:Int)<=1/\(1:Int)<=2;omega,by show 0<=D.ai+1/\D.ai+1<=4;omega⟩
  have G1:=aw.Pw (kd:=4) (.inl rfl) (gY L) G0 (λy hy=>⟨(NF.pP y hy).2.1,.inr rfl⟩);refine⟨G1.wide (dJ _) H.bE.big (by omega),hst (by omega), ?_⟩;have ly:∀a,dT (oF a) (np (D.ai+1) (gY L) D.ob)=dT (oF a) D.ob:=λa=>by rw [eO,Ra,aF1];omega
  have Qb:∀m a,dT (oD m a) (np (D.ai+1) (gY L) D.ob)=dT (oD m a) D.ob:=λm a=>by rw [eO,Ra,aEx];omega
  exact⟨λa=>(F.hd a).trans (ly a).symm,λm a=>by
   show _<=B D 7 m a+B D 8 m a+dT (oD m a) (np (D.ai+1) (gY L) D.ob);rw [Qb];exact F.lo m a,λm a=>by
   show B D 7 m a+B D 8 m a+dT (oD m a) (np (D.ai+1) (gY L) D.ob)<=_;rw [Qb];exact F.hi m a,F.es⟩
 refine⟨⟨H.ok (by omega),by omega,by omega,⟨by unfold aL;omega,by omega⟩,by omega,λh0 k hk=>(key h0).1.aJR (key h0).2.1 hg hk⟩,λh0=> ?_⟩;obtain⟨G,hh,FT⟩:=key h0;have I:=Re hh (aA D.x.ms);have GP:=G.a6U hh (k:=aA D.x.ms) (aZ _);refine⟨GP,⟨λa=> ?_,λm a=> ?_,λm a=> ?_,λa=> ?_⟩,I.x,I.en,I.ai,I.up,I.bx,I.st, ?_⟩
 ·unfold B;unfold Di;rw [I.x,I.l,I.ob];exact FT.hd a
 ·unfold B;unfold Di;rw [I.x,I.l,I.ob];exact FT.lo m a
 ·unfold B;unfold Di;rw [I.x,I.l,I.ob];exact FT.hi m a
 ·unfold B;unfold Di;rw [I.x,I.l];exact FT.es a
 obtain⟨t,e,ht⟩:=(a2z (FU D L) (kd:=4) (by decide) (gY L)).lg;exact⟨t,I.log.trans e,ht⟩
theorem aKu(l r:List Int):sumI (l++r)=sumI l+sumI r:=by
 induction l with
 |nil=>simp [sumI]
 |cons x l ih=>grind [sumI]
theorem S9(l r:List En)(q:Int×Int×Int):fA (l++r) q=fA l q+fA r q:=by unfold fA gu;grind [aKu]
theorem SB(fk fm tk tm n:Int)(k m a:Int):fA (gX fk fm tk tm n) (k,m,a)=(if k=fk/\m=fm/\a=0 then-n else 0)+(if k=tk/\m=tm/\a=0 then n else 0):=by have h:=SA fk fm tk tm 0 n (k,m,a);grind [kr,gX]
def Ju(D:Dk)(k m:Int):Int:=if k=7 then-((kq D (m-1).toNat).a+(kq D (m-1).toNat).b) else if k=8 then (kq D (m-1).toNat).a else if k=9 then (kq D (m-1).toNat).b else 0
theorem a7t(D:Dk)(k m a:Int):∀n:Nat,fA (nU D n) (k,m,a)=if a=0/\1<=m/\m<=(n:Int) then Ju D k m else 0
 |0=>by rw [ifN (by omega)];rfl
 |n+1=>by
  unfold nU;rw [S9,S9,a7t D k m a n,SB,SB];by_cases hm:m=(n:Int)+1
  ·have hn:(m-1).toNat=n:=by omega
   grind [Ju]
  grind
structure Nz(C:Int)(g:Nat)(D D':Dk):Prop where
 ig:aw (C+1099511627776) g D'
 x:D'.x=D.x
 h:D'.h=D.h
 ob:D'.ob=D.ob
 bx:D'.bx=D.bx
 who:D'.who=D.who
 ai:D'.ai=D.ai
 st:D'.st=D.st
 en:D.en=aP/\D'.en=aO
 log:D'.log=D.log
 k1:∀a,B D' 1 0 a=B D 1 0 a
 k2:∀a,B D' 2 0 a=B D 2 0 a
 lo:∀m a,B D 7 m a+B D 8 m a-1099511627776<=B D' 7 m a+B D' 8 m a
 hi:∀m a,B D' 7 m a+B D' 8 m a<=B D 7 m a+B D 8 m a
theorem aw.Jv {C:Int} {g:Nat} {D:Dk}(H:aw C g D)(hg:g<=90000)(hC:C+1099511627776<=4611686018427387904+1125899906842624):J1 D/\(vK D=D\/Nz C g D (vK D)):=by
 have ij:=H.hs.ml;refine⟨⟨H.ok hg,by omega,λk hk=> ?_,λy hy=> ?_, ?_, ?_⟩, ?_⟩
 ·have h8:=H.bE.tD ((k:Int)+1) 0;have h8n:=H.bE.ok.nn (k:=8) rfl ((k:Int)+1) 0;unfold aL;omega
 ·have:=H.hs.mI y hy;unfold aL;omega
 ·have:=H.hs.li;unfold aL;omega
 ·have:=H.hs.ca;unfold aL;omega
 unfold vK;by_cases he:D.en=aO
 ·grind
 rw [ifN he];have Mf:D.en=aP:=by simpa using he
 by_cases hb:Ef D=aO
 ·grind
 rw [ifN hb];refine .inr ?_;have hF:∀v:Int,v<=(if D.en=aO then (1099511627776:Int) else 0)->v<=0:=λv hv=>by grind
 by_cases hv:lV (aA D.x.ms) (aA D.x.ss+1) D.l D.h (fV D)=0
 ·have el:eK D (fV D)=kD (aA D.x.ms) (aA D.x.ss+1) D.l (fV D):=by grind [eK]
  obtain⟨hc,_⟩:=YW hv;have dR:nN (aA D.x.ms) (aA D.x.ss+1) (eK D (fV D)):=by rw [el];exact nN.post H.bE.ok (by have:=H.hs.sl;omega) hv
  have hd:∀k m a,balA (aA D.x.ms) (aA D.x.ss+1) (eK D (fV D)) k m a=balA (aA D.x.ms) (aA D.x.ss+1) D.l k m a+((if a=0/\1<=m/\m<=(aA D.x.ms:Int) then Ju D k m else 0)+((if k=5/\m=0/\a=0 then-D.x.line else 0)+(if k=3/\m=0/\a=0 then D.x.line else 0))+((if k=6/\m=0/\a=0 then-D.x.bV else 0)+(if k=4/\m=0/\a=0 then D.x.bV else 0))):=λk m a=>by rw [el,a6Y H.bE.ok.len hc];unfold fV;rw [S9,S9,a7t,SB,SB]
  have Wa:∀m:Int,1<=m->m<=(aA D.x.ms:Int)->(0<=(kq D (m-1).toNat).a/\(kq D (m-1).toNat).a<=1099511627776-balA (aA D.x.ms) (aA D.x.ss+1) D.l 8 m 0)/\0<=(kq D (m-1).toNat).b/\(kq D (m-1).toNat).b<=1099511627776:=λm h1 h2=>by
   have hl:(m-1).toNat<aA D.x.ms:=by omega
   have hi:(kq D (m-1).toNat)=D.x.ms[(m-1).toNat]:=by unfold kq;rw [sV,iD hl,P4]
   have hI:=H.hs.mI _ (cK hl);have hb':DF D (m-1).toNat=aP:=by grind [Ef]
   grind [DF]
  have e8:∀m a,balA (aA D.x.ms) (aA D.x.ss+1) (eK D (fV D)) 8 m a=balA (aA D.x.ms) (aA D.x.ss+1) D.l 8 m a+(if a=0/\1<=m/\m<=(aA D.x.ms:Int) then (kq D (m-1).toNat).a else 0):=λm a=>by rw [hd];simp [Ju]
  have e9:∀m a,balA (aA D.x.ms) (aA D.x.ss+1) (eK D (fV D)) 9 m a=balA (aA D.x.ms) (aA D.x.ss+1) D.l 9 m a+(if a=0/\1<=m/\m<=(aA D.x.ms:Int) then (kq D (m-1).toNat).b else 0):=λm a=>by rw [hd];simp [Ju]
  have e7:∀m a,balA (aA D.x.ms) (aA D.x.ss+1) (eK D (fV D)) 7 m a=balA (aA D.x.ms) (aA D.x.ss+1) D.l 7 m a+(if a=0/\1<=m/\m<=(aA D.x.ms:Int) then-((kq D (m-1).toNat).a+(kq D (m-1).toNat).b) else 0):=λm a=>by rw [hd];simp [Ju]
  have e3:∀a,balA (aA D.x.ms) (aA D.x.ss+1) (eK D (fV D)) 3 0 a=balA (aA D.x.ms) (aA D.x.ss+1) D.l 3 0 a+(if a=0 then D.x.line else 0):=λa=>by rw [hd];simp
  have e4:∀a,balA (aA D.x.ms) (aA D.x.ss+1) (eK D (fV D)) 4 0 a=balA (aA D.x.ms) (aA D.x.ss+1) D.l 4 0 a+(if a=0 then D.x.bV else 0):=λa=>by rw [hd];simp
  have e1:∀a,balA (aA D.x.ms) (aA D.x.ss+1) (eK D (fV D)) 1 0 a=balA (aA D.x.ms) (aA D.x.ss+1) D.l 1 0 a:=λa=>by rw [hd];simp
  have e2:∀a,balA (aA D.x.ms) (aA D.x.ss+1) (eK D (fV D)) 2 0 a=balA (aA D.x.ms) (aA D.x.ss+1) D.l 2 0 a:=λa=>by rw [hd];simp
  have lo:∀m a,balA (aA D.x.ms) (aA D.x.ss+1) D.l 7 m a+balA (aA D.x.ms) (aA D.x.ss+1) D.l 8 m a-1099511627776<=balA (aA D.x.ms) (aA D.x.ss+1) (eK D (fV D)) 7 m a+balA (aA D.x.ms) (aA D.x.ss+1) (eK D (fV D)) 8 m a:=λm a=>by
   rw [e7,e8];by_cases c:a=0/\1<=m/\m<=(aA D.x.ms:Int)
   ·grind
   omega
  have hi:∀m a,balA (aA D.x.ms) (aA D.x.ss+1) (eK D (fV D)) 7 m a+balA (aA D.x.ms) (aA D.x.ss+1) (eK D (fV D)) 8 m a<=balA (aA D.x.ms) (aA D.x.ss+1) D.l 7 m a+balA (aA D.x.ms) (aA D.x.ss+1) D.l 8 m a:=λm a=>by
   rw [e7,e8];by_cases c:a=0/\1<=m/\m<=(aA D.x.ms:Int)
   ·grind
   omega
  refine⟨⟨H.hs,⟨dR,λm a=> ?_,λm a=> ?_,λa=> ?_,λa=> ?_,λm a=> ?_,λm a=> ?_,λa=> ?_,hC,by omega⟩,H.h8,H.hl,λa=>(H.fl a).trans (e1 a).symm,H.lg,H.gl,H.who,H.ob,H.bx,H.bl,H.st,H.ai⟩,rfl,rfl,rfl,rfl,rfl,rfl,rfl,⟨Mf,rfl⟩,rfl,e1,e2,lo,hi⟩
  ·refine ju (rO (e8 m a)) ?_;have:=H.bE.tD m a;by_cases c:a=0/\1<=m/\m<=(aA D.x.ms:Int)
   ·grind
   rw [ifN c];omega
  ·refine ju (rO (e9 m a)) ?_;have:=hF _ (H.bE.zm m a);show _<=(1099511627776:Int);by_cases c:a=0/\1<=m/\m<=(aA D.x.ms:Int)
   ·grind
   rw [ifN c];omega
  ·refine ju (rO (e3 a)) ?_;have:=hF _ (H.bE.AK a);have:=H.hs.li;show _<=(1099511627776:Int);split<;>omega
  ·refine ju (rO (e4 a)) ?_;have:=hF _ (H.bE.cap a);have:=H.hs.ca;show _<=(1099511627776:Int);split<;>omega
  ·have h1:=H.bE.lo m a;have h2:=lo m a;have h3:=e1 a;show _<=balA (aA D.x.ms) (aA D.x.ss+1) (eK D (fV D)) 7 m a+balA (aA D.x.ms) (aA D.x.ss+1) (eK D (fV D)) 8 m a-balA (aA D.x.ms) (aA D.x.ss+1) (eK D (fV D)) 1 0 a;omega
  ·have h1:=H.bE.hi m a;have h2:=hi m a;have h3:=e1 a;show balA (aA D.x.ms) (aA D.x.ss+1) (eK D (fV D)) 7 m a+balA (aA D.x.ms) (aA D.x.ss+1) (eK D (fV D)) 8 m a+balA (aA D.x.ms) (aA D.x.ss+1) (eK D (fV D)) 1 0 a<=_;omega
  have h1:=H.bE.es a;have h2:=e2 a;have h3:=e1 a;show balA (aA D.x.ms) (aA D.x.ss+1) (eK D (fV D)) 2 0 a+balA (aA D.x.ms) (aA D.x.ss+1) (eK D (fV D)) 1 0 a<=_;omega
 have el:eK D (fV D)=D.l:=by grind [eK]
 have eD:MC D= {D with en:=aO}:=by unfold MC;rw [el]
 rw [eD];have h8:=H.bE;refine⟨⟨H.hs,⟨h8.ok,h8.tD,λm a=> ?_,λa=> ?_,λa=> ?_,λm a=> ?_,λm a=> ?_,λa=> ?_,hC,by omega⟩,H.h8,H.hl,H.fl,H.lg,H.gl,H.who,H.ob,H.bx,H.bl,H.st,H.ai⟩,rfl,rfl,rfl,rfl,rfl,rfl,rfl,⟨Mf,rfl⟩,rfl,λ_=>rfl,λ_=>rfl,λm a=> ?_,λm a=>dJ _⟩
 ·have:=hF _ (h8.zm m a);show _<=(1099511627776:Int);exact ju this (by decide)
 ·have:=hF _ (h8.AK a);show _<=(1099511627776:Int);exact ju this (by decide)
 ·have:=hF _ (h8.cap a);show _<=(1099511627776:Int);exact ju this (by decide)
 ·have:=h8.lo m a;show-(C+1099511627776)<=balA (aA D.x.ms) (aA D.x.ss+1) D.l 7 m a+balA (aA D.x.ms) (aA D.x.ss+1) D.l 8 m a-balA (aA D.x.ms) (aA D.x.ss+1) D.l 1 0 a;omega
 ·have:=h8.hi m a;show balA (aA D.x.ms) (aA D.x.ss+1) D.l 7 m a+balA (aA D.x.ms) (aA D.x.ss+1) D.l 8 m a+balA (aA D.x.ms) (aA D.x.ss+1) D.l 1 0 a<=_;omega
 ·have:=h8.es a;show balA (aA D.x.ms) (aA D.x.ss+1) D.l 2 0 a+balA (aA D.x.ms) (aA D.x.ss+1) D.l 1 0 a<=_;omega
 grind
def Bn(x:ak):Dk:=⟨x,gP ((aA x.ss+1)*(6+3*aA x.ms)) 0,[],[],[],[],0,0,aP,[]⟩
def a8v(x:ak)(w:aJ)(e:dU)(w':aJ):Prop:=∃db p Am cm As cs Ac cc,e=aT (bB #[bF (aC ⟨db,0,aB⟩),aG aF 0])/\bW w' db p (Bn {x with Am:=Am,cm:=cm,As:=As,cs:=cs,Ac:=Ac,cc:=cc})/\(∀k,eV db p k->w.heap.size<=k)/\aa w.heap.size w w'
theorem fN.made(w:aJ):fN (w.alloc (aK #[aH aB 0 0] 146)) w.heap.size 0 (aH aB 0 0) []:=⟨cO w _,gC _ _ _ _⟩
theorem a2R(x:ak)(w:aJ)(h:uh w x)(hk:zh x=0)(hm:aA x.ms<=16)(hs:aA x.ss<=8)(hc:aA x.cy<=100):
 aQ aM 10 #[x.val] w (a8v x w):=by
 have aY:Hid (β w (w.alloc (aK #[aH x.Am (aA x.ms) x.cm,aH x.As (aA x.ss) x.cs,aH x.Ac (aA x.cy) x.cc,ν x.line,ν x.bV,ν x.lead,ν x.tr,ν x.bQ] 26))):=η σ;have cZ:Hid ((w.alloc (aK #[aH x.Am (aA x.ms) x.cm,aH x.As (aA x.ss) x.cs,aH x.Ac (aA x.cy) x.cc,ν x.line,ν x.bV,ν x.lead,ν x.tr,ν x.bQ] 26)).heap[w.heap.size]? =aC (aK #[aH x.Am (aA x.ms) x.cm,aH x.As (aA x.ss) x.cs,aH x.Ac (aA x.cy) x.cc,ν x.line,ν x.bV,ν x.lead,ν x.tr,ν x.bQ] 26 (0,0))):=η (cO w _);have hz0:w.heap.size<(w.alloc (aK #[aH x.Am (aA x.ms) x.cm,aH x.As (aA x.ss) x.cs,aH x.Ac (aA x.cy) x.cc,ν x.line,ν x.bV,ν x.lead,ν x.tr,ν x.bQ] 26)).heap.size:=by simp
 have bX:=η (λW (hW:β w W)=>(aM5 x W (h.below hW) (by omega) (by omega) (by omega)).mono (R':=λe w'=>∃nb Am cm As cs Ac cc,e=aT (bB #[π nb,ν 0])/\jA w' nb ({x with Am:=Am,cm:=cm,As:=As,cs:=cs,Ac:=Ac,cc:=cc}:ak) (aH aB 0 0) []/\wJ w' W.heap.size ({x with Am:=Am,cm:=cm,As:=As,cs:=cs,Ac:=Ac,cc:=cc}:ak)/\W.heap.size<=nb/\β W w') (by
  rintro e w' ⟨hb,⟨q1,_⟩|⟨_,nb,Am,cm,As,cs,Ac,cc,q2,q3,q4,q5⟩⟩
  ·exact absurd hk q1
  exact⟨nb,Am,cm,As,cs,Ac,cc,q2,q3,q4,q5,hb⟩))
 have JM:=η (λW=>aLX (aA x.ms) (aA x.ss+1) (aA x.ms) hm (by omega) (by omega) W);have Ai:=η (λW (hW:β w W)=>a2T x W (h.below hW) (by omega) (by omega) (by omega));have HNS:=η (λW=>aIT W);clear h hk;unfold ak.val at bX Ai ⊢;go_enter func10,ntmps10
 go_upto_region 1 with (fail)
 generalize w.alloc (aK #[aH x.Am (aA x.ms) x.cm,aH x.As (aA x.ss) x.cs,aH x.Ac (aA x.cy) x.cc,ν x.line,ν x.bV,ν x.lead,ν x.tr,ν x.bQ] 26)=w0 at*;obtain⟨bx,bT⟩:∃bx,bx=w.heap.size:=⟨_,rfl⟩;rw [<-bT] at cZ hz0 ⊢;clear bT;have fM:Hid (∀W,β w0 W->W.cell? ⟨bx,0,aB⟩=aC (aH x.Am (aA x.ms) x.cm)/\W.cell? ⟨bx,1,aB⟩=aC (aH x.As (aA x.ss) x.cs)/\W.cell? ⟨bx,2,aB⟩=aC (aH x.Ac (aA x.cy) x.cc)/\W.cell? ⟨bx,3,aB⟩=aC (ν x.line)/\W.cell? ⟨bx,4,aB⟩=aC (ν x.bV)/\W.cell? ⟨bx,5,aB⟩=aC (ν x.lead)/\W.cell? ⟨bx,6,aB⟩=aC (ν x.tr)/\W.cell? ⟨bx,7,aB⟩=aC (ν x.bQ)):=η (λW hW=>by have hd:=(hW.block bx hz0).trans cZ.o;exact⟨ρ hd,ρ hd,ρ hd,ρ hd,ρ hd,ρ hd,ρ hd,ρ hd⟩);have eW:Hid (∀W,β w0 W->β w W):=η (λW hW=>aY.o.trans (hW.mono aY.o.size));obtain⟨d0,d1,d2,d3,d4,d5,d6,d7⟩:=fM.o w0 (aX _ _);go_upto_region 2 with (go_at_call 30;refine(bX.o _ aY.o).mono ?_;rintro e w1 ⟨nb,Am1,cm1,As1,cs1,Ac1,cc1,rfl,hx1,hc1,kB,hb1⟩;have O2:Hid (β w0 w1):=η hb1;have o7:=η hx1;have wO:=η hc1;have uq:Hid (w.heap.size<=nb):=η (bz aY.o.size kB);clear hx1 hc1 kB hb1)
 clear bX d0 d1 d2 d3 d4 d5 d6 d7 cZ;obtain⟨d0,d1,d2,d3,d4,d5,d6,d7⟩:=fM.o w1 O2.o;have yH:=η (JM.o w1);rw [show (((aA x.ss+1:Nat)):Int)=(aA x.ss:Int)+1 from by omega] at yH;go_upto_region 5 with (go_at_call 31;refine yH.o.mono ?_;rintro e w2 ⟨vb,vp,rfl,hv2,hs2,hb2⟩;have th:Hid (β w0 w2):=τ O2 hb2;have kM:=η (o7.o.below hb2);have kJ:=η (wO.o.below hb2);have Tt:=η hv2;have cM:Hid (∀k,qF vb vp k->w.heap.size<=k):=η (λk hk=>bz (eW.o _ O2.o).size (hs2 k hk));clear hv2 hs2 hb2)
 clear JM yH O2 o7 wO d0 d1 d2 d3 d4 d5 d6 d7;obtain⟨d0,d1,d2,d3,d4,d5,d6,d7⟩:=fM.o w2 th.o;go_wp2_with (first|(go_at_call 32;refine(Ai.o _ (eW.o _ th.o)).mono ?_;rintro e w3 ⟨Am,cm,As,cs,Ac,cc,rfl,hc3,hb3⟩;have J4:Hid (β w0 w3):=τ th hb3;have o8:=η (kM.o.below hb3);have J6:=η (kJ.o.below hb3);have JU:=η (Tt.o.below hb3);have Kw:=η hc3;(try unfold ak.val);(try simp only);clear hc3 hb3)|(go_at_call 33;refine(HNS.o _).mono ?_;rintro e w4 ⟨rfl,rfl⟩))
 go_ret2;have hA:β w3 (w3.alloc (aK #[aH aB 0 0] 146)):=(aX _ _).alloc (aZ _) _;have hB:∀o,β w3 ((w3.alloc (aK #[aH aB 0 0] 146)).alloc o):=λo=>hA.alloc (by simp) _
 have hS:∀o,aa (w3.alloc (aK #[aH aB 0 0] 146)).heap.size (w3.alloc (aK #[aH aB 0 0] 146)) ((w3.alloc (aK #[aH aB 0 0] 146)).alloc o):=λo=>(aX _ _).alloc (aZ _) _
 have hw3:w.heap.size<=w3.heap.size:=(eW.o _ J4.o).size;refine⟨w3.heap.size+1,⟨vb,vp,w3.heap.size,aH aB 0 0,nb,_,aH aB 0 0,aH aB 0 0,aH aB 0 0⟩,Am,cm,As,cs,Ac,cc,rfl,⟨Mg _ _ (by simp),⟨iB (iA Kw.o.m (hB _)) (bL _),iB (iA Kw.o.s (hB _)) (bL _),iB (iA Kw.o.c (hB _)) (bL _)⟩,JU.o.below (hB _),(fN.made w3).below (hS _),o8.o.below (hB _),⟨iB (iA J6.o.m (hB _)) (bL _),iB (iA J6.o.s (hB _)) (bL _),iB (iA J6.o.c (hB _)) (bL _)⟩,⟨rfl,rfl,rfl,rfl⟩,gC _ _ _ _,gC _ _ _ _⟩, ?_,(eW.o _ J4.o).trans ((hB _).mono hw3)⟩;rintro k (e|e|(e|e)|(e|e)|e|e)
 ·subst e;omega
 ·exact cM.o k e
 ·have e':k=w3.heap.size:=e;omega
 ·simp [dy] at e
 ·have e':k=nb:=e;have:=uq.o;omega
 ·simp [dy] at e
 ·simp [dy] at e
 simp [dy] at e
def a8t(D:Dk)(w:aJ)(e:dU)(w':aJ):Prop:=∃db p,e=aT (bF (aC ⟨db,0,aB⟩))/\bW w' db p D/\(∀k,eV db p k->w.heap.size<=k)/\aa w.heap.size w w'
theorem aEg(db:Nat)(p:Dp)(D:Dk)(w:aJ)(H:bW w db p D)(hO:fX D):
 aQ aM 42 #[π db] w (a8t D w):=by
 obtain⟨Aw,cw,hv⟩:=bK H.who;obtain⟨Al,cl,IK⟩:=bK H.log;have HF:=η H;have HO:=η hO;have cZ:Hid ((w.alloc (aK #[aH D.x.Am (aA D.x.ms) D.x.cm,aH D.x.As (aA D.x.ss) D.x.cs,aH D.x.Ac (aA D.x.cy) D.x.cc,ν D.x.line,ν D.x.bV,ν D.x.lead,ν D.x.tr,ν D.x.bQ,π p.vb,π p.sb,π p.xb,aH Aw (aA D.who) cw,ν D.ai,ν D.st,bJ D.en,aH Al (aA D.log) cl] 90)).heap[w.heap.size]? =aC (aK #[aH D.x.Am (aA D.x.ms) D.x.cm,aH D.x.As (aA D.x.ss) D.x.cs,aH D.x.Ac (aA D.x.cy) D.x.cc,ν D.x.line,ν D.x.bV,ν D.x.lead,ν D.x.tr,ν D.x.bQ,π p.vb,π p.sb,π p.xb,aH Aw (aA D.who) cw,ν D.ai,ν D.st,bJ D.en,aH Al (aA D.log) cl] 90 (0,0))):=η (cO w _);have aY:Hid (β w (w.alloc (aK #[aH D.x.Am (aA D.x.ms) D.x.cm,aH D.x.As (aA D.x.ss) D.x.cs,aH D.x.Ac (aA D.x.cy) D.x.cc,ν D.x.line,ν D.x.bV,ν D.x.lead,ν D.x.tr,ν D.x.bQ,π p.vb,π p.sb,π p.xb,aH Aw (aA D.who) cw,ν D.ai,ν D.st,bJ D.en,aH Al (aA D.log) cl] 90))):=η σ;have hz0:w.heap.size<(w.alloc (aK #[aH D.x.Am (aA D.x.ms) D.x.cm,aH D.x.As (aA D.x.ss) D.x.cs,aH D.x.Ac (aA D.x.cy) D.x.cc,ν D.x.line,ν D.x.bV,ν D.x.lead,ν D.x.tr,ν D.x.bQ,π p.vb,π p.sb,π p.xb,aH Aw (aA D.who) cw,ν D.ai,ν D.st,bJ D.en,aH Al (aA D.log) cl] 90)).heap.size:=by simp
 have Zu:=η (λW (hW:β w W)=>aLU p.vb p.vp (aA D.x.ms) (aA D.x.ss+1) (aA D.x.ms) D.l D.h W (H.below hW).vt (by have:=hO.hl;omega));have sQ:=η (λW (hW:β w W)=>aIQ D.ob p.sv p.sb 0 W (H.below hW).sh (by have:=hO.ob.len;omega));have GD:=η (λW (hW:β w W)=>aM4 p.xc p.xv D.bx p.xb W (H.below hW).bx (by have:=hO.bl;omega));have xP:=H.lt;obtain⟨c0,c1,c2,c3,c4,c5,c6,c7,c8,c9,c10,c11,c12,c13,c14,c15⟩:=H.cells;rw [hv] at c11;rw [IK] at c15;have HV:=η hv;have rM:=η IK;clear H hO hv IK;go_enter func42,ntmps42
 go_upto_region 4 with (fail)
 clear c0 c1 c2 c3 c4 c5 c6 c7 c8 c9 c10 c11 c12 c13 c14 c15;generalize w.alloc (aK #[aH D.x.Am (aA D.x.ms) D.x.cm,aH D.x.As (aA D.x.ss) D.x.cs,aH D.x.Ac (aA D.x.cy) D.x.cc,ν D.x.line,ν D.x.bV,ν D.x.lead,ν D.x.tr,ν D.x.bQ,π p.vb,π p.sb,π p.xb,aH Aw (aA D.who) cw,ν D.ai,ν D.st,bJ D.en,aH Al (aA D.log) cl] 90)=w1 at*;obtain⟨bx,bT⟩:∃bx,bx=w.heap.size:=⟨_,rfl⟩;have dH:=η bT;rw [<-bT] at cZ hz0 ⊢;clear bT;have aR:Hid (β w w1.drew):=η aY.o.drew;have py:Hid (∀W,β w W->W.cell? ⟨db,8,aB⟩=aC (π p.vb)/\W.cell? ⟨db,9,aB⟩=aC (π p.sb)/\W.cell? ⟨db,10,aB⟩=aC (π p.xb)):=η (λW hW=>by have c:=(HF.o.below hW).cells;exact⟨c.c8,c.c9,c.c10⟩);have d0:=py.o _ aR.o;have o7:Hid (w1.drew.heap[bx]? =aC (aK #[aH D.x.Am (aA D.x.ms) D.x.cm,aH D.x.As (aA D.x.ss) D.x.cs,aH D.x.Ac (aA D.x.cy) D.x.cc,ν D.x.line,ν D.x.bV,ν D.x.lead,ν D.x.tr,ν D.x.bQ,π p.vb,π p.sb,π p.xb,aH Aw (aA D.who) cw,ν D.ai,ν D.st,bJ D.en,aH Al (aA D.log) cl] 90 (0,0))):=η cZ.o;have gy:bx<w1.drew.heap.size:=hz0;clear cZ aY hz0;refine Yc (S:=λW=>W.cell? ⟨db,8,aB⟩=aC (π p.vb)/\W.cell? ⟨db,9,aB⟩=aC (π p.sb)/\W.cell? ⟨db,10,aB⟩=aC (π p.xb)) [15,16,17,18,19,20] (by kernel_rfl) d0 (λhHeld=> ?_);clear d0;generalize w1.drew=w2 at*;refine lW (i:=0) (v:=π db) rfl (by kernel_rfl) (by kernel_rfl) (by kernel_rfl) (by kernel_rfl) (by kernel_rfl) (by kernel_rfl) (λ_ _ _ h=>h) (aS ⟨by rfl,λw' hSw=>by obtain⟨s0,s1,s2⟩:=hSw;go_simp⟩) hHeld ?_;refine lW (i:=1) (v:=π db) rfl (by kernel_rfl) (by kernel_rfl) (by kernel_rfl) (by kernel_rfl) (by kernel_rfl) (by kernel_rfl) (λ_ _ _ h=>h) (aS ⟨by rfl,λw' hSw=>by obtain⟨s0,s1,s2⟩:=hSw;go_simp⟩) hHeld ?_;refine lW (i:=2) (v:=bF (aC ⟨db,8,aB⟩)) rfl (by kernel_rfl) (by kernel_rfl) (by kernel_rfl) (by kernel_rfl) (by kernel_rfl) (by kernel_rfl) (λ_ _ _ h=>h) (aS ⟨by rfl,λw' hSw=>by obtain⟨s0,s1,s2⟩:=hSw;go_simp⟩) hHeld ?_;refine lW (i:=3) (v:=π p.vb) rfl (by kernel_rfl) (by kernel_rfl) (by kernel_rfl) (by kernel_rfl) (by kernel_rfl) (by kernel_rfl) (λ_ _ _ h=>h) (aS ⟨by rfl,λw' hSw=>by obtain⟨s0,s1,s2⟩:=hSw;go_simp⟩) hHeld ?_;refine lW (i:=5) (v:=π db) rfl (by kernel_rfl) (by kernel_rfl) (by kernel_rfl) (by kernel_rfl) (by kernel_rfl) (by kernel_rfl) (λ_ _ _ h=>h) (aS ⟨by rfl,λw' hSw=>by obtain⟨s0,s1,s2⟩:=hSw;go_simp⟩) hHeld ?_;refine lW (i:=6) (v:=π db) rfl (by kernel_rfl) (by kernel_rfl) (by kernel_rfl) (by kernel_rfl) (by kernel_rfl) (by kernel_rfl) (λ_ _ _ h=>h) (aS ⟨by rfl,λw' hSw=>by obtain⟨s0,s1,s2⟩:=hSw;go_simp⟩) hHeld ?_;refine lW (i:=7) (v:=bF (aC ⟨db,9,aB⟩)) rfl (by kernel_rfl) (by kernel_rfl) (by kernel_rfl) (by kernel_rfl) (by kernel_rfl) (by kernel_rfl) (λ_ _ _ h=>h) (aS ⟨by rfl,λw' hSw=>by obtain⟨s0,s1,s2⟩:=hSw;go_simp⟩) hHeld ?_;refine lW (i:=8) (v:=π p.sb) rfl (by kernel_rfl) (by kernel_rfl) (by kernel_rfl) (by kernel_rfl) (by kernel_rfl) (by kernel_rfl) (λ_ _ _ h=>h) (aS ⟨by rfl,λw' hSw=>by obtain⟨s0,s1,s2⟩:=hSw;go_simp⟩) hHeld ?_;refine lW (i:=10) (v:=π db) rfl (by kernel_rfl) (by kernel_rfl) (by kernel_rfl) (by kernel_rfl) (by kernel_rfl) (by kernel_rfl) (λ_ _ _ h=>h) (aS ⟨by rfl,λw' hSw=>by obtain⟨s0,s1,s2⟩:=hSw;go_simp⟩) hHeld ?_;refine lW (i:=11) (v:=π db) rfl (by kernel_rfl) (by kernel_rfl) (by kernel_rfl) (by kernel_rfl) (by kernel_rfl) (by kernel_rfl) (λ_ _ _ h=>h) (aS ⟨by rfl,λw' hSw=>by obtain⟨s0,s1,s2⟩:=hSw;go_simp⟩) hHeld ?_;refine lW (i:=12) (v:=bF (aC ⟨db,10,aB⟩)) rfl (by kernel_rfl) (by kernel_rfl) (by kernel_rfl) (by kernel_rfl) (by kernel_rfl) (by kernel_rfl) (λ_ _ _ h=>h) (aS ⟨by rfl,λw' hSw=>by obtain⟨s0,s1,s2⟩:=hSw;go_simp⟩) hHeld ?_;refine lW (i:=13) (v:=π p.xb) rfl (by kernel_rfl) (by kernel_rfl) (by kernel_rfl) (by kernel_rfl) (by kernel_rfl) (by kernel_rfl) (λ_ _ _ h=>h) (aS ⟨by rfl,λw' hSw=>by obtain⟨s0,s1,s2⟩:=hSw;go_simp⟩) hHeld ?_;clear hHeld;refine tX (rs:= [4]) (by kernel_rfl) (by simp) ?_;refine gg.cons rfl (λK hK=> ?_) gg.nil;go_simp
 go_at_call 93
 refine(Zu.o _ aR.o).mono ?_;rintro e w3 ⟨FV,nvp,rfl,hv3,nh,hb3⟩;have iH:Hid (β w2 w3):=η hb3;have af:Hid (β w w3):=τ aR hb3;have JU:=η hv3;have iP:Hid (∀k,qF FV nvp k->w.heap.size<=k):=η (λk hk=>bz aR.o.size (nh k hk));clear hv3 nh hb3;go_wp2_with fail
 refine hK.o _ _ (λ_=>py.o _ af.o) (λ_=> ?_);clear hK K;refine tX (rs:= [9]) (by kernel_rfl) (by simp) ?_;refine gg.cons rfl (λK hK=> ?_) gg.nil;go_simp
 go_at_call 94
 refine(sQ.o _ af.o).mono ?_;rintro e w4 ⟨Dh,nsv,rfl,j5,hn4,hb4⟩;have ny:Hid (β w2 w4):=τ iH hb4;have ar:Hid (β w w4):=τ af hb4;have Oi:=η (JU.o.below hb4);have jP:=η j5;have gH:Hid (w.heap.size<=Dh/\∀k,nsv.ownBlock=aC k->w.heap.size<=k):=η ⟨bz af.o.size hn4,λk hk=>bz af.o.size (j5.own.lt k hk).1⟩;clear j5 hn4 hb4 JU;go_wp2_with fail
 refine hK.o _ _ (λ_=>py.o _ ar.o) (λ_=> ?_);clear hK K;refine tX (rs:= [14]) (by kernel_rfl) (by simp) ?_;refine gg.cons rfl (λK hK=> ?_) gg.nil;go_simp
 go_at_call 95
 refine(GD.o _ ar.o).mono ?_;rintro e w5 ⟨Dj,nxv,rfl,FN,I8,iU,cj⟩;have E7:Hid (β w2 w5):=τ ny cj;have cV:Hid (β w w5):=τ ar cj;have Tu:=η (Oi.o.below cj);have Ca:=η (jP.o.below cj);have Zz:=η FN;have og:Hid (w.heap.size<=Dj/\∀k,nxv.ownBlock=aC k->w.heap.size<=k):=η ⟨bz ar.o.size I8,λk hk=>bz ar.o.size (iU k hk)⟩;clear FN I8 iU cj Oi jP;go_wp2_with fail
 refine hK.o _ _ (λ_=>py.o _ cV.o) (λ_=> ?_);clear hK K;refine Ff (i:=15) (v:=bF (aC ⟨bx,8,aB⟩)) rfl (by kernel_rfl) (by kernel_rfl) (by kernel_rfl) (by kernel_rfl) (λ_ _ _ h=>h) (aS ⟨by rfl,λw' _=>by go_simp⟩) ?_;refine tX (rs:= [16]) (by kernel_rfl) (by simp) ?_;refine gg.cons rfl (λK hK=> ?_) gg.nil;have b5:=(E7.o.block bx gy).trans o7.o;have q8:=bH _ bx 8 _ _ (0,0) b5;have q9:=bH _ bx 9 _ _ (0,0) b5;have q10:=bH _ bx 10 _ _ (0,0) b5;have f0:∀j,w5.frozen? ⟨bx,j,aB⟩=aP:=λj=>by simp [iJ,b5]
 have ir:=η b5;have a4E:bx<w5.heap.size:=cP gy E7.o.size;clear b5;go_simp
 refine hK.o _ _ (λh=>absurd h (by decide)) (λ_=> ?_);clear hK K;refine Ff (i:=17) (v:=bF (aC ⟨bx,9,aB⟩)) rfl (by kernel_rfl) (by kernel_rfl) (by kernel_rfl) (by kernel_rfl) (λ_ _ _ h=>h) (aS ⟨by rfl,λw' _=>by go_simp⟩) ?_;refine tX (rs:= [18]) (by kernel_rfl) (by simp) ?_;refine gg.cons rfl (λK hK=> ?_) gg.nil;go_simp
 refine hK.o _ _ (λh=>absurd h (by decide)) (λ_=> ?_);clear hK K;refine Ff (i:=19) (v:=bF (aC ⟨bx,10,aB⟩)) rfl (by kernel_rfl) (by kernel_rfl) (by kernel_rfl) (by kernel_rfl) (λ_ _ _ h=>h) (aS ⟨by rfl,λw' _=>by go_simp⟩) ?_;refine tX (rs:= [20]) (by kernel_rfl) (by simp) ?_;refine gg.cons rfl (λK hK=> ?_) gg.nil;go_simp
 refine hK.o _ _ (λh=>absurd h (by decide)) (λ_=> ?_);clear hK K;refine Ya (by kernel_rfl) ?_ _;clear q8 q9 q10 f0;have hX6:(((w5.setCell ⟨bx,8,aB⟩ (π FV)).setCell ⟨bx,9,aB⟩ (π Dh)).setCell ⟨bx,10,aB⟩ (π Dj)).heap[bx]? =aC (aK #[aH D.x.Am (aA D.x.ms) D.x.cm,aH D.x.As (aA D.x.ss) D.x.cs,aH D.x.Ac (aA D.x.cy) D.x.cc,ν D.x.line,ν D.x.bV,ν D.x.lead,ν D.x.tr,ν D.x.bQ,π FV,π Dh,π Dj,aH Aw (aA D.who) cw,ν D.ai,ν D.st,bJ D.en,aH Al (aA D.log) cl] 90 (0,0)):=(lf (lf (lf ir.o 8 _) 9 _) 10 _).trans rfl;have QH:bC (λk=>k=bx) w5 (((w5.setCell ⟨bx,8,aB⟩ (π FV)).setCell ⟨bx,9,aB⟩ (π Dh)).setCell ⟨bx,10,aB⟩ (π Dj)):=(((bC.refl (λk=>k=bx) w5).setCell (p:=⟨bx,8,aB⟩) (.inl rfl) _).setCell (p:=⟨bx,9,aB⟩) (.inl rfl) _).setCell (p:=⟨bx,10,aB⟩) (.inl rfl) _;have dX:w.heap.size<=bx:=by rw [dH.o];exact aZ _
 have hB6:β w (((w5.setCell ⟨bx,8,aB⟩ (π FV)).setCell ⟨bx,9,aB⟩ (π Dh)).setCell ⟨bx,10,aB⟩ (π Dj)):=uK _ (uK _ (uK _ cV.o dX) dX) dX;have QG:Ty w5 [90] bx:=⟨_,_,by decide,ir.o⟩;have no:∀ {T:List bY} {k:Nat},Ty w5 T k->(∀t∈T,t∉ [90])->¬k=bx:=λhk hd hs=>hk.apart (hs▸QG) hd
 have Zs:=η (Tu.o.upd QH (λk hk=>no (Tu.o.ty hk) (by decide)));have Od:=η (Ca.o.upd QH (λk hk=>no hk (by decide)));have qZ:=η (Zz.o.upd QH (λk hk=>no hk (by decide)));have iQ:=η hX6;have gG:=η hB6;have cC:=η dX;clear no QG QH hX6 hB6 dX Tu Ca Zz ir cV E7 ny iH ar af py o7 gy a4E Zu sQ GD aR;generalize (((w5.setCell ⟨bx,8,aB⟩ (π FV)).setCell ⟨bx,9,aB⟩ (π Dh)).setCell ⟨bx,10,aB⟩ (π Dj))=w6 at*;have aMe:=(HF.o.below gG.o).lt;go_upto_region 5 with (fail)
 have pB:Hid (∀W,β w W->aW W W.heap.size Aw (D.who.map (aG aF))/\aW W W.heap.size Al (uO D.log)):=η (λW hW=>by have h1:=(HF.o.below hW).who;have h2:=(HF.o.below hW).log;rw [HV.o] at h1;rw [rM.o] at h2;exact⟨aW.cA h1,aW.cA h2⟩);have pA:Hid ((Aw=aB->aA D.who=0)/\(Al=aB->aA D.log=0)):=η (by have h1:=HF.o.who;have h2:=HF.o.log;rw [HV.o] at h1;rw [rM.o] at h2;exact⟨yj h1,yj h2⟩);have O3:=η (λW (hW:β w W)=>a2P (aA D.who) (D.who.map (aG aF)) Aw cw W (pB.o W hW).1 (by simp) pA.o.1 (a4o D.who) (by have:=HO.o.wl;omega));have CH:=η (λW (hW:β w W)=>aDz (aA D.log) (uO D.log) Al cl W (pB.o W hW).2 (by rw [a3G]) pA.o.2 (a3H D.log) (by have:=HO.o.gl;omega));have py:Hid (∀W,β w W->W.cell? ⟨db,11,aB⟩=aC (aH Aw (aA D.who) cw)/\W.cell? ⟨db,15,aB⟩=aC (aH Al (aA D.log) cl)):=η (λW hW=>by have c:=(HF.o.below hW).cells;exact⟨by rw [<-HV.o];exact c.c11,by rw [<-rM.o];exact c.c15⟩);have O1:Hid (β w w6.drew):=η gG.o.drew;have d0:=py.o _ O1.o;have HXD:Hid (w6.drew.heap[bx]? =aC (aK #[aH D.x.Am (aA D.x.ms) D.x.cm,aH D.x.As (aA D.x.ss) D.x.cs,aH D.x.Ac (aA D.x.cy) D.x.cc,ν D.x.line,ν D.x.bV,ν D.x.lead,ν D.x.tr,ν D.x.bQ,π FV,π Dh,π Dj,aH Aw (aA D.who) cw,ν D.ai,ν D.st,bJ D.en,aH Al (aA D.log) cl] 90 (0,0))):=η iQ.o;have HV7:=η (Zs.o.below ((aX w6.heap.size w6).drew));have uD:=η (Od.o.below ((aX w6.heap.size w6).drew));have Cg:=η (qZ.o.below ((aX w6.heap.size w6).drew));clear iQ gG Zs Od qZ pB pA;refine Yc (S:=λW=>W.cell? ⟨db,11,aB⟩=aC (aH Aw (aA D.who) cw)/\W.cell? ⟨db,15,aB⟩=aC (aH Al (aA D.log) cl)) [10,11,12,13] (by kernel_rfl) d0 (λhHeld=> ?_);clear d0;generalize w6.drew=w7 at*;refine lW (i:=0) (v:=π db) rfl (by kernel_rfl) (by kernel_rfl) (by kernel_rfl) (by kernel_rfl) (by kernel_rfl) (by kernel_rfl) (λ_ _ _ h=>h) (aS ⟨by rfl,λw' hSw=>by obtain⟨s0,s1⟩:=hSw;go_simp⟩) hHeld ?_;refine lW (i:=1) (v:=π db) rfl (by kernel_rfl) (by kernel_rfl) (by kernel_rfl) (by kernel_rfl) (by kernel_rfl) (by kernel_rfl) (λ_ _ _ h=>h) (aS ⟨by rfl,λw' hSw=>by obtain⟨s0,s1⟩:=hSw;go_simp⟩) hHeld ?_;refine lW (i:=2) (v:=bF (aC ⟨db,11,aB⟩)) rfl (by kernel_rfl) (by kernel_rfl) (by kernel_rfl) (by kernel_rfl) (by kernel_rfl) (by kernel_rfl) (λ_ _ _ h=>h) (aS ⟨by rfl,λw' hSw=>by obtain⟨s0,s1⟩:=hSw;go_simp⟩) hHeld ?_;refine lW (i:=3) (v:=aH Aw (aA D.who) cw) rfl (by kernel_rfl) (by kernel_rfl) (by kernel_rfl) (by kernel_rfl) (by kernel_rfl) (by kernel_rfl) (λ_ _ _ h=>h) (aS ⟨by rfl,λw' hSw=>by obtain⟨s0,s1⟩:=hSw;go_simp⟩) hHeld ?_;refine lW (i:=5) (v:=π db) rfl (by kernel_rfl) (by kernel_rfl) (by kernel_rfl) (by kernel_rfl) (by kernel_rfl) (by kernel_rfl) (λ_ _ _ h=>h) (aS ⟨by rfl,λw' hSw=>by obtain⟨s0,s1⟩:=hSw;go_simp⟩) hHeld ?_;refine lW (i:=6) (v:=π db) rfl (by kernel_rfl) (by kernel_rfl) (by kernel_rfl) (by kernel_rfl) (by kernel_rfl) (by kernel_rfl) (λ_ _ _ h=>h) (aS ⟨by rfl,λw' hSw=>by obtain⟨s0,s1⟩:=hSw;go_simp⟩) hHeld ?_;refine lW (i:=7) (v:=bF (aC ⟨db,15,aB⟩)) rfl (by kernel_rfl) (by kernel_rfl) (by kernel_rfl) (by kernel_rfl) (by kernel_rfl) (by kernel_rfl) (λ_ _ _ h=>h) (aS ⟨by rfl,λw' hSw=>by obtain⟨s0,s1⟩:=hSw;go_simp⟩) hHeld ?_;refine lW (i:=8) (v:=aH Al (aA D.log) cl) rfl (by kernel_rfl) (by kernel_rfl) (by kernel_rfl) (by kernel_rfl) (by kernel_rfl) (by kernel_rfl) (λ_ _ _ h=>h) (aS ⟨by rfl,λw' hSw=>by obtain⟨s0,s1⟩:=hSw;go_simp⟩) hHeld ?_;clear hHeld;refine tX (rs:= [4]) (by kernel_rfl) (by simp) ?_;refine gg.cons rfl (λK hK=> ?_) gg.nil;go_simp
 go_at_call 40
 refine(O3.o _ O1.o).mono ?_;rintro e w8 ⟨nwv,rfl,how,lR⟩;have iH:Hid (β w7 w8):=η lR;have jd:Hid (β w w8):=τ O1 lR;have HOW:=η (iB how O1.o.size);clear how lR;go_wp2_with fail
 refine hK.o _ _ (λ_=>py.o _ jd.o) (λ_=> ?_);clear hK K;refine tX (rs:= [9]) (by kernel_rfl) (by simp) ?_;refine gg.cons rfl (λK hK=> ?_) gg.nil;go_simp
 go_at_call 34
 refine(CH.o _ jd.o).mono ?_;rintro e w9 ⟨nlv,rfl,km,gK⟩;have ny:Hid (β w7 w9):=τ iH gK;have oW:Hid (β w w9):=τ jd gK;have OZ:=η (iA HOW.o gK);have EI:=η (iB km jd.o.size);clear km gK HOW;go_wp2_with fail
 refine hK.o _ _ (λ_=>py.o _ oW.o) (λ_=> ?_);clear hK K;obtain⟨Dz,Gx,hv2⟩:=bK OZ.o;obtain⟨Ye,cl2,aGr⟩:=bK EI.o;subst hv2 aGr;have a4F:bx<w7.heap.size:=(fW.1 HXD.o).1;refine Ff (i:=10) (v:=bF (aC ⟨bx,11,aB⟩)) rfl (by kernel_rfl) (by kernel_rfl) (by kernel_rfl) (by kernel_rfl) (λ_ _ _ h=>h) (aS ⟨by rfl,λw' _=>by go_simp⟩) ?_;refine tX (rs:= [11]) (by kernel_rfl) (by simp) ?_;refine gg.cons rfl (λK hK=> ?_) gg.nil;have b9:=(ny.o.block bx a4F).trans HXD.o;have q11:=bH _ bx 11 _ _ (0,0) b9;have q15:=bH _ bx 15 _ _ (0,0) b9;have f0:∀j,w9.frozen? ⟨bx,j,aB⟩=aP:=λj=>by simp [iJ,b9]
 have ir:=η b9;have aMZ:bx<w9.heap.size:=cP a4F ny.o.size;clear b9;go_simp
 refine hK.o _ _ (λh=>absurd h (by decide)) (λ_=> ?_);clear hK K;refine Ff (i:=12) (v:=bF (aC ⟨bx,15,aB⟩)) rfl (by kernel_rfl) (by kernel_rfl) (by kernel_rfl) (by kernel_rfl) (λ_ _ _ h=>h) (aS ⟨by rfl,λw' _=>by go_simp⟩) ?_;refine tX (rs:= [13]) (by kernel_rfl) (by simp) ?_;refine gg.cons rfl (λK hK=> ?_) gg.nil;go_simp
 refine hK.o _ _ (λh=>absurd h (by decide)) (λ_=> ?_);clear hK K;refine Ya (by kernel_rfl) ?_ _;clear q11 q15 f0;go_wp2_with fail
 go_ret;have hU:bC (λk=>k=bx) w9 ((w9.setCell ⟨bx,11,aB⟩ (aH Dz (aA D.who) Gx)).setCell ⟨bx,15,aB⟩ (aH Ye (aA D.log) cl2)):=((bC.refl (λk=>k=bx) w9).setCell (p:=⟨bx,11,aB⟩) (.inl rfl) _).setCell (p:=⟨bx,15,aB⟩) (.inl rfl) _;have QG:Ty w9 [90] bx:=⟨_,_,by decide,ir.o⟩;have no:∀ {T:List bY} {k:Nat},Ty w9 T k->(∀t∈T,t∉ [90])->¬k=bx:=λhk hd hs=>hk.apart (hs▸QG) hd
 have L0:=HF.o.below oW.o;have Zt:=HV7.o.below ny.o;have Cb:=uD.o.below ny.o;have Ol:=Cg.o.below ny.o;refine⟨bx,⟨FV,nvp,Dh,nsv,Dj,p.xc,nxv,aH Dz (aA D.who) Gx,aH Ye (aA D.log) cl2⟩,rfl,⟨(lf (lf ir.o 11 _) 15 _).trans rfl,L0.cf.upd hU (λk hk=>no hk (by decide)),Zt.upd hU (λk hk=>no (Zt.ty hk) (by decide)),⟨(Cb.upd hU (λk hk=>no hk (by decide))).s,iB (Cb.upd hU (λk hk=>no hk (by decide))).own (bL _)⟩,Ol.upd hU (λk hk=>no hk (by decide)),L0.Dy.upd hU (λk hk=>no hk (by decide)),HF.o.same,iB (hU.own OZ.o (λk hk=>no (Ty.own OZ.o hk) (by decide))) (bL _),iB (hU.own EI.o (λk hk=>no (Ty.own EI.o hk) (by decide))) (bL _)⟩, ?_,uK _ (uK _ oW.o cC.o) cC.o⟩;rintro k (e|e|(e|e)|(e|e)|e|e)
 ·subst e;exact cC.o
 ·exact iP.o k e
 ·have e':k=Dh:=e;have:=gH.o.1;omega
 ·exact gH.o.2 k e
 ·have e':k=Dj:=e;have:=og.o.1;omega
 ·exact og.o.2 k e
 ·exact(OZ.o.lt k e).1
 exact(EI.o.lt k e).1
def aAO(w:aJ)(e:dU)(w':aJ):Prop:=∃(Am:Option aj) (cm:Nat) (As:Option aj) (cs:Nat) (Ac:Option aj) (cc:Nat),
 e=aT (ak.val ⟨[⟨1000,100⟩,⟨1000,100⟩,⟨1000,100⟩],Am,cm,[⟨10,12⟩],As,cs,[⟨4,7,9,10⟩],Ac,cc,500,200,1,64,32⟩)/\uh w' ⟨[⟨1000,100⟩,⟨1000,100⟩,⟨1000,100⟩],Am,cm,[⟨10,12⟩],As,cs,[⟨4,7,9,10⟩],Ac,cc,500,200,1,64,32⟩/\β w w'
theorem aJK(w:aJ):aQ aM 24 #[aG aF 3,aG aF 1,aG aF 1] w (aAO w):=by
 obtain⟨i0,bu,hz0,fj,hz2⟩:=dL aHi;obtain⟨j0,zv,KN,aGu,nE⟩:=dL aKG;obtain⟨k0,eY,hx0,aGt,hx2⟩:=dL aDL;have HST:=η (aJJ w);go_enter func24,ntmps24
 go_wp2_with fail
 refine(XQ _ _ _ _ (by omega) (by omega)).mono ?_;rintro e w1 ⟨rfl,rfl⟩;go_wp2_with fail
 go_loopw [12] (λi wr=>∃k:Nat,k<=3/\i=aG aF k/\Hid (∃v,ie w wr v (aH aB 0 0) (aH aB 0 0) (gP k ⟨1000,100⟩) [] [])) (λi _=>3-(ag i).toNat)
 case atStart=>exact⟨0,bL _,rfl,⟨_,HST.o⟩⟩
 case round=>
  obtain⟨k,hk,rfl,HP⟩:=hrel;obtain⟨v,hp⟩:=HP.o;have HQ:=η hp;have q0:wr.cell? ⟨w.heap.size+1,0,aB⟩=aC v:=hp.c 0;have ql:=hp.lt;by_cases hlt:k<3
  ·go_wp2_with (at_builtin;refine j9 _ rfl _ _ 22 rfl (w.heap.size+2) 67 i0 _ 2 16 underlying22 bu hz0 fj hz2 rfl (by decide) _ (aA (gP k (⟨1000,100⟩:Pr))) (jY (gP k ⟨1000,100⟩)) rfl (HQ.o.o0.alloc _) ⟨wr.heap.size,0,aB⟩ 1 1 [aG aF 1000,aG aF 100] rfl rfl (dN _ _ #[_,_] (by simp)) a8I (by simp only [bM,Cl];omega) (by simp only [Cl];omega) (by simp;omega) ?_)
   intro v' w4 hown1 dF _;obtain⟨A',c',rfl⟩:=bK hown1;obtain⟨r0,r1,r2⟩:=HQ.o.m0 dF;have HN:=η (HQ.o.m (y:=⟨1000,100⟩) (by rw [Cl];exact hown1) dF);rw [<-a6m] at HN;clear hown1 dF q0 ql;go_wp2_with fail
   go_roundw
   case rel=>exact⟨k+1,by omega,by go_num,⟨_,HN.o⟩⟩
   case measure=>simp [ag];omega
  obtain rfl:k=3:=by omega
  clear q0 ql;obtain⟨wo,rfl⟩:∃wo:aJ,wo=wr:=⟨_,rfl⟩;have B8:Hid (ie w wo v (aH aB 0 0) (aH aB 0 0) [⟨1000,100⟩,⟨1000,100⟩,⟨1000,100⟩] [] []):=HQ.o;go_wp2_with fail
  refine(XQ _ _ _ _ (by omega) (by omega)).mono ?_;rintro e w1 ⟨rfl,rfl⟩;go_wp2_with fail
  go_loopw [23] (λi wr=>∃k:Nat,k<=1/\i=aG aF k/\Hid (∃v1,ie w wr v v1 (aH aB 0 0) [⟨1000,100⟩,⟨1000,100⟩,⟨1000,100⟩] (gP k ⟨10,12⟩) [])) (λi _=>1-(ag i).toNat)
  case atStart=>exact⟨0,bL _,rfl,⟨_,B8.o⟩⟩
  case round=>
   obtain⟨k,hk,rfl,HP⟩:=hrel;obtain⟨v1,hp⟩:=HP.o;have HQ:=η hp;have q0:wr.cell? ⟨w.heap.size+1,1,aB⟩=aC v1:=hp.c 1;have ql:=hp.lt;by_cases hlt:k<1
   ·go_wp2_with (at_builtin;refine j9 _ rfl _ _ 23 rfl (w.heap.size+2) 69 j0 _ 2 16 underlying23 zv KN aGu nE rfl (by decide) _ (aA (gP k (⟨10,12⟩:Pr))) (jY (gP k ⟨10,12⟩)) rfl (HQ.o.o1.alloc _) ⟨wr.heap.size,0,aB⟩ 1 1 [aG aF 10,aG aF 12] rfl rfl (dN _ _ #[_,_] (by simp)) a8I (by simp only [bM,Cl];omega) (by simp only [Cl];omega) (by simp;omega) ?_)
    intro v' w4 hown1 dF _;obtain⟨A',c',rfl⟩:=bK hown1;obtain⟨r0,r1,r2⟩:=HQ.o.s0 dF;have HN:=η (HQ.o.s (y:=⟨10,12⟩) (by rw [Cl];exact hown1) dF);rw [<-a6m] at HN;clear hown1 dF q0 ql;go_wp2_with fail
    go_roundw
    case rel=>exact⟨k+1,by omega,by go_num,⟨_,HN.o⟩⟩
    case measure=>simp [ag];omega
   obtain rfl:k=1:=by omega
   clear q0 ql;obtain⟨wp,rfl⟩:∃wp:aJ,wp=wr:=⟨_,rfl⟩;have lL:Hid (ie w wp v v1 (aH aB 0 0) [⟨1000,100⟩,⟨1000,100⟩,⟨1000,100⟩] [⟨10,12⟩] []):=HQ.o;go_wp2_with fail
   refine(XQ _ _ _ _ (by omega) (by omega)).mono ?_;rintro e w1 ⟨rfl,rfl⟩;go_wp2_with fail
   go_loopw [8,34] (λ_ i wr=>∃k:Nat,k<=1/\i=aG aF k/\Hid (∃v2,ie w wr v v1 v2 [⟨1000,100⟩,⟨1000,100⟩,⟨1000,100⟩] [⟨10,12⟩] (gP k ⟨4,7,9,10⟩))) (λ_ i _=>1-(ag i).toNat)
   case atStart=>exact⟨0,bL _,rfl,⟨_,lL.o⟩⟩
   case round=>
    obtain⟨k,hk,rfl,HP⟩:=hrel;obtain⟨v2,hp⟩:=HP.o;by_cases hlt:k<1
    ·obtain rfl:k=0:=by omega
     have HQ:=η hp;have q0:wr.cell? ⟨w.heap.size+1,2,aB⟩=aC v2:=hp.c 2;have ql:=hp.lt;go_wp2_with (at_builtin;refine j9 _ rfl _ _ 24 rfl (w.heap.size+2) 71 k0 _ 4 32 underlying24 eY hx0 aGt hx2 rfl (by decide) _ 0 [] rfl (HQ.o.o2.alloc _) ⟨wr.heap.size,0,aB⟩ 1 1 [aG aF 4,aG aF 7,aG aF 9,aG aF 10] rfl rfl (dN _ _ #[_,_,_,_] (by simp)) a3O (by simp only [bM];omega) (by omega) (by simp;omega) ?_)
     intro v' w4 hown1 dF _;obtain⟨A',c',rfl⟩:=bK hown1;obtain⟨r0,r1,r2⟩:=HQ.o.y0 dF;have HN:=η (HQ.o.y (y:=⟨4,7,9,10⟩) hown1 dF);clear hown1 dF q0 ql;go_wp2_with fail
     go_roundw
     case rel=>exact⟨1,by omega,by go_num,⟨_,HN.o⟩⟩
     case measure=>simp [ag]
    obtain rfl:k=1:=by omega
    have HQ:Hid (ie w wr v v1 v2 [⟨1000,100⟩,⟨1000,100⟩,⟨1000,100⟩] [⟨10,12⟩] [⟨4,7,9,10⟩]):=hp;obtain⟨A0,n0,rfl⟩:=bK HQ.o.o0;obtain⟨A1,n1,rfl⟩:=bK HQ.o.o1;obtain⟨A2,n2,rfl⟩:=bK HQ.o.o2;have q0:wr.cell? ⟨w.heap.size+1,0,aB⟩=aC (aH A0 3 n0):=HQ.o.c 0;have q1:wr.cell? ⟨w.heap.size+1,1,aB⟩=aC (aH A1 1 n1):=HQ.o.c 1;have q2:wr.cell? ⟨w.heap.size+1,2,aB⟩=aC (aH A2 1 n2):=HQ.o.c 2;have q3:wr.cell? ⟨w.heap.size+1,3,aB⟩=aC (aG aF 500):=HQ.o.c 3;have q4:wr.cell? ⟨w.heap.size+1,4,aB⟩=aC (aG aF 200):=HQ.o.c 4;have q5:wr.cell? ⟨w.heap.size+1,5,aB⟩=aC (aG aF 1):=HQ.o.c 5;have q6:wr.cell? ⟨w.heap.size+1,6,aB⟩=aC (aG aF 64):=HQ.o.c 6;have q7:wr.cell? ⟨w.heap.size+1,7,aB⟩=aC (aG aF 32):=HQ.o.c 7;have r0:wr.cell? ⟨w.heap.size,0,aB⟩=aC (aH aB 0 0):=HQ.o.r 0;have r1:wr.cell? ⟨w.heap.size,1,aB⟩=aC (aH aB 0 0):=HQ.o.r 1;have r2:wr.cell? ⟨w.heap.size,2,aB⟩=aC (aH aB 0 0):=HQ.o.r 2;have r3:wr.cell? ⟨w.heap.size,3,aB⟩=aC (aG aF 0):=HQ.o.r 3;have r4:wr.cell? ⟨w.heap.size,4,aB⟩=aC (aG aF 0):=HQ.o.r 4;have r5:wr.cell? ⟨w.heap.size,5,aB⟩=aC (aG aF 0):=HQ.o.r 5;have r6:wr.cell? ⟨w.heap.size,6,aB⟩=aC (aG aF 0):=HQ.o.r 6;have r7:wr.cell? ⟨w.heap.size,7,aB⟩=aC (aG aF 0):=HQ.o.r 7;have g0:=HQ.o.rf;go_wp2_with fail
    obtain⟨hR,p0,p1,p2,vS⟩:=((((((((HQ.o.two).set 0 (aH A0 3 n0)).set 1 (aH A1 1 n1)).set 2 (aH A2 1 n2)).set 3 (aG aF 500)).set 4 (aG aF 200)).set 5 (aG aF 1)).set 6 (aG aF 64)).set 7 (aG aF 32);rw [aKQ] at hR;have EL:=η hR;have wP:=η p0;have xz:=η p1;have mf:=η p2;have wM:=η vS;clear hR p0 p1 p2 vS q0 q1 q2 q3 q4 q5 q6 q7 r0 r1 r2 r3 r4 r5 r6 r7 g0 HQ;generalize (((((((wr.setCell ⟨w.heap.size,0,aB⟩ (aH A0 3 n0)).setCell ⟨w.heap.size,1,aB⟩ (aH A1 1 n1)).setCell ⟨w.heap.size,2,aB⟩ (aH A2 1 n2)).setCell ⟨w.heap.size,3,aB⟩ (aG aF 500)).setCell ⟨w.heap.size,4,aB⟩ (aG aF 200)).setCell ⟨w.heap.size,5,aB⟩ (aG aF 1)).setCell ⟨w.heap.size,6,aB⟩ (aG aF 64)).setCell ⟨w.heap.size,7,aB⟩ (aG aF 32)=W8 at*;have r0:W8.cell? ⟨w.heap.size,0,aB⟩=aC (aH A0 3 n0):=(ρ EL.o).trans rfl;have r1:W8.cell? ⟨w.heap.size,1,aB⟩=aC (aH A1 1 n1):=(ρ EL.o).trans rfl;have r2:W8.cell? ⟨w.heap.size,2,aB⟩=aC (aH A2 1 n2):=(ρ EL.o).trans rfl;have r3:W8.cell? ⟨w.heap.size,3,aB⟩=aC (aG aF 500):=(ρ EL.o).trans rfl;have r4:W8.cell? ⟨w.heap.size,4,aB⟩=aC (aG aF 200):=(ρ EL.o).trans rfl;have r5:W8.cell? ⟨w.heap.size,5,aB⟩=aC (aG aF 1):=(ρ EL.o).trans rfl;have r6:W8.cell? ⟨w.heap.size,6,aB⟩=aC (aG aF 64):=(ρ EL.o).trans rfl;have r7:W8.cell? ⟨w.heap.size,7,aB⟩=aC (aG aF 32):=(ρ EL.o).trans rfl;exact bodyPost_ret (v:=bU #[aH A0 3 n0,aH A1 1 n1,aH A2 1 n2,aG aF 500,aG aF 200,aG aF 1,aG aF 64,aG aF 32]) (by simp [results,results24,go_sem,r0,r1,r2,r3,r4,r5,r6,r7]) rfl ⟨A0,n0,A1,n1,A2,n2,rfl,⟨⟨aW.cA wP.o,aW.cA xz.o,aW.cA mf.o⟩,λe=>by have:=yj wP.o e;omega,λe=>by have:=yj xz.o e;omega,λe=>by have:=yj mf.o e;omega⟩,wM.o⟩
section
open Go.Lib
def Gy:Nat->Nat->List Nat
 |0,_=> []
 |n+1,v=>v % 65536::Gy n (v/65536)
def val:List Nat->Nat
 | []=>0
 |x::xs=>x+65536*val xs
theorem a2j:∀(ns:List Nat),(∀x∈ns,x<65536)->ns=Gy (aA ns) (val ns)
 | [],_=>rfl
 |x::xs,h=>by
  have h1:=h x (by simp);have ih:=a2j xs λy hy=>h y (by simp [hy])
  simp only [uF,Gy,val];have e1:(x+65536*val xs) % 65536=x:=by omega
  have e2:(x+65536*val xs)/65536=val xs:=by omega
  rw [e1,e2,<-ih]
theorem a5X(a:Nat)(ha:a<18446744073709551616):bits .and .u64 (a:Int) 65535=((a % 65536:Nat):Int):=by have h:=bits_and_u64_nat a 65535 ha (by omega);have e:a&&&65535=a % 65536:=Nat.and_two_pow_sub_one_eq_mod a 16;rw [e] at h;exact h
end
section
open Go.Lib Go.Sort
theorem YT:∀(ns:List Nat) (j:Nat) (hj:j<aA ns) (t:Nat),val (ns.set j t)+ns[j]*65536^j=val ns+t*65536^j
 | [],_,hj,_=>by simp at hj
 |x::xs,0,_,t=>by simp [val];omega
 |x::xs,j+1,hj,t=>by have ih:=YT xs j (by simpa using hj) t;simp only [List.set_cons_succ,val,a9x,P1];rw [<-P0,<-P0];omega
section
variable {w w':aJ} {b B:Nat} {ns:List Nat}
end
def upto(x:Nat->Nat):Nat->Nat
 |0=>0
 |k+1=>upto x k+x k*65536^k
end
section
open Go.Lib Go.Sort
end
section
open Go.Lib Go.Sort Go.Proofs.YtdokipdchlcmeaaGreat.pG Go.Proofs.YtdokipdchlcmeaaGreat.ShareLaw
end
section
open Go.Lib Go.Sort Go.Proofs.YtdokipdchlcmeaaGreat.pG Go.Proofs.YtdokipdchlcmeaaGreat.ShareLaw
section
variable {w wr w':aJ} {u v u':aN} {n:Nat} {ps rs:List Int}
end
section
variable {T S:Int} {W:Nat->Int} {n:Nat}
end
end
section
open Go.Lib Go.Sort
def sX(w:aJ)(b:Nat)(ns:List Nat):Prop:=w.heap[b]? =aC (aK (ns.map λ(n:Nat)=>aG .u64 (n:Int)).toArray 281 (0,0))
section
variable {w w':aJ} {b B:Nat} {ns:List Nat}
theorem sX.cell(h:sX w b ns) {i:Nat}(hi:i<aA ns):w.cell? ⟨b,i,aB⟩=aC (aG .u64 (ns[i]:Int)):=by rw [bH w b i _ 281 (0,0) h];simp [hi]
theorem sX.free(h:sX w b ns)(i:Nat):w.frozen? ⟨b,i,aB⟩=aP:=Jw w b i _ 281 h
theorem sX.drew(h:sX w b ns):sX w.drew b ns:=h
theorem sX.set(h:sX w b ns)(i:Nat)(v:Nat):sX (w.setCell ⟨b,i,aB⟩ (aG .u64 (v:Int))) b (ns.set i v):=by unfold sX at*;rw [setCell_eq,mapBlock,Array.getElem?_modify,ifP rfl,h];simp [onCells,List.map_set]
theorem sX.new(w:aJ)(ns:List Nat):sX (w.alloc (aK (ns.map λ(n:Nat)=>aG .u64 (n:Int)).toArray 281)) w.heap.size ns:=cO w _
end
structure MJ(bn Y M:Nat)(x y:Nat->Nat)(i k:Nat)(w3:aJ)(ns:List Nat)(wr:aJ):Prop where
 len:aA ns=8
 row:sX wr bn ns
 vl:val ns=upto x i*Y+x i*65536^i*upto y k
 bd:∀j (h:j<aA ns),ns[j]<=(4*i+k)*M
 b:aa bn w3 wr
theorem MJ.next {bn i Y M:Nat} {x y:Nat->Nat} {w3 wr:aJ} {ns:List Nat}(hY:upto y 4=Y)(h:MJ bn Y M x y i 4 w3 ns wr):MJ bn Y M x y (i+1) 0 w3 ns wr:=by
 refine⟨h.len,h.row, ?_,λj hj=> ?_,h.b⟩
 ·rw [h.vl,hY,show upto x (i+1)=upto x i+x i*65536^i from rfl,show upto y 0=0 from rfl,aAE,GU,GR]
 have:=h.bd j hj;rw [show 4*(i+1)+0=4*i+4 by omega];exact this
theorem MJ.step {bn i k p j Y M:Nat} {x y:Nat->Nat} {w3 wr:aJ} {ns:List Nat}(h:MJ bn Y M x y i k w3 ns wr)(hj:j<aA ns)(ji:j=i+k)(hp:p=x i*y k)(hpl:p<=M):MJ bn Y M x y i (k+1) w3 (ns.set j (ns[j]+p)) (wr.setCell ⟨bn,j,aB⟩ (aG .u64 ((ns[j]+p:Nat):Int))).drew:=by
 refine⟨by rw [yL];exact h.len,(h.row.set j (ns[j]+p)).drew, ?_,λq hq=> ?_,(h.b.setCell (aZ _) _).drew⟩
 ·have hv:=YT ns j hj (ns[j]+p);have e:p*65536^j=x i*65536^i*(y k*65536^k):=by
   rw [hp,ji,Nat.pow_add];simp only [P0,Nat.mul_left_comm]
  rw [GR,h.vl,e] at hv;rw [show upto y (k+1)=upto y k+y k*65536^k from rfl,Nat.mul_add];generalize x i*65536^i*(y k*65536^k)=A at*;generalize ns[j]*65536^j=B at*;generalize x i*65536^i*upto y k=C at*;generalize upto x i*Y=D at*;omega
 rw [yL] at hq;have h1:=h.bd q hq;have e:(4*i+(k+1))*M=(4*i+k)*M+M:=by rw [<-Nat.add_assoc,GR,Nat.one_mul]
 rw [UD,e];split
 ·rename_i c;subst c;omega
 omega
structure CJ(bn V i c:Nat)(w4:aJ)(ns:List Nat)(wr:aJ):Prop where
 len:aA ns=8
 row:sX wr bn ns
 lo:∀j (h:j<aA ns),j<i->ns[j]<65536
 bd:∀j (h:j<aA ns),ns[j]<=68717379600
 cb:c<=68717379600
 vl:val ns+c*65536^i=V
 b:aa bn w4 wr
theorem CJ.step {bn V i c t:Nat} {w4 wr:aJ} {ns:List Nat}(h:CJ bn V i c w4 ns wr)(hi:i<aA ns)(ht:t=ns[i]+c):CJ bn V (i+1) (t/65536) w4 (ns.set i (t % 65536)) ((wr.setCell ⟨bn,i,aB⟩ (aG .u64 (t:Int))).setCell ⟨bn,i,aB⟩ (aG .u64 ((t % 65536:Nat):Int))):=by
 have hb:=h.bd i hi;have hc:=h.cb;refine⟨by rw [yL];exact h.len, ?_,λj hj ji=> ?_,λj hj=> ?_,by omega, ?_,(h.b.setCell (aZ _) _).setCell (aZ _) _⟩
 ·have:=(h.row.set i t).set i (t % 65536);rw [List.set_set] at this;exact this
 ·rw [yL] at hj;rw [UD];split
  ·omega
  exact h.lo j hj (by omega)
 ·rw [yL] at hj;rw [UD];split
  ·omega
  exact h.bd j hj
 have hv:=YT ns i hi (t % 65536);have h1:=h.vl;rw [P1,<-P0,aAD];have e:t/65536*65536*65536^i+t % 65536*65536^i=ns[i]*65536^i+c*65536^i:=by rw [<-GR,<-GR];congr 1;omega
 generalize t/65536*65536*65536^i=A at*;generalize t % 65536*65536^i=B at*;generalize ns[i]*65536^i=C at*;generalize c*65536^i=D at*;omega
theorem CJ.ends {bn V c:Nat} {w4 wr:aJ} {ns:List Nat}(h:CJ bn V 8 c w4 ns wr)(hV:V<340282366920938463463374607431768211456):ns=Gy 8 V:=by
 have h1:=h.vl;have hc:c=0:=by
  rcases Nat.eq_zero_or_pos c with e|e
  ·exact e
  exfalso;have:1*65536^8<=c*65536^8:=GX _ e;have e8:(65536:Nat)^8=340282366920938463463374607431768211456:=by decide
  rw [e8] at h1 this;omega
 rw [hc,Nat.zero_mul,GU] at h1;have hd:=a2j ns λx hx=>by obtain⟨j,hj,rfl⟩:=sW.1 hx;exact h.lo j hj (by have:=h.len;omega)
 rw [h.len,h1] at hd;exact hd
def rT(a j:Nat):Nat:=a/65536^j % 65536
theorem a8M(a:Nat):∀k,upto (rT a) k+a/65536^k*65536^k=a
 |0=>by simp [upto]
 |k+1=>by
  have ih:=a8M a k;have h:=Lh (a/65536^k) 65536;rw [Nat.div_div_eq_div_mul,<-P1] at h;show upto (rT a) k+a/65536^k % 65536*65536^k+a/65536^(k+1)*65536^(k+1)=a;have e:a/65536^k*65536^k=a/65536^k % 65536*65536^k+a/65536^(k+1)*65536^(k+1):=by rw [P1 65536 k,<-P0,aAD,<-GR];congr 1;rw [<-P1];omega
  omega
theorem a8L {a:Nat}(h:a<18446744073709551616):upto (rT a) 4=a:=by have h1:=a8M a 4;have h2:a/65536^4=0:=Nat.div_eq_of_lt (Nat.lt_of_lt_of_eq h (by decide:(18446744073709551616:Nat)=65536^4));rw [h2,Nat.zero_mul,GU] at h1;exact h1
theorem a2i(a j:Nat):rT a j<=65535:=by unfold rT;omega
theorem a2h {a s i:Nat}(ha:a<18446744073709551616)(hs:s=16*i):bits .and .u64 ((a:Int)/2^s) 65535=(rT a i:Int):=by
 have e:(a:Int)/2^s=((a/2^s:Nat):Int):=by simp
 rw [e,a5X _ (Nat.lt_of_le_of_lt (Nat.div_le_self _ _) ha),hs,show 2^(16*i)=65536^i by rw [Nat.pow_mul]];unfold rT;rfl
theorem aJz(a b:Int)(X Y:Nat)(w:aJ)(ha:aL a)(hb:aL b)(hX:X=rA a)(hY:Y=rA b):
 aQ aM 154 #[aG aF a,aG aF b] w λe w'=>e=aT (bB #[aG aF (gQ (a*b)),aG aF (dM (a*b))])/\aa w.heap.size w w':=by
 have HA:=η ha;have HB:=η hb;have hXl:X<=9223372036854775808:=by rw [hX];exact SE ha
 have hYl:Y<=9223372036854775808:=by rw [hY];exact SE hb
 have yE:∀W,Hid (aQ aM 204 #[aG aF a] W λe w'=>e=aT (aG .u64 (X:Int))/\W=w'):=λW=>η (by rw [hX];exact a6y a W ha)
 have G8:∀W,Hid (aQ aM 204 #[aG aF b] W λe w'=>e=aT (aG .u64 (Y:Int))/\W=w'):=λW=>η (by rw [hY];exact a6y b W hb)
 have JV:=η (kT hX hY);clear ha hb hX hY;go_enter func154,ntmps154
 go_wp2_with fail
 refine(yE _).o.mono ?_;rintro e w' ⟨rfl,rfl⟩;go_wp2_with fail
 refine(G8 _).o.mono ?_;rintro e w' ⟨rfl,rfl⟩;go_wp2_with fail
 obtain⟨M,hM⟩:∃M,M=4294836225:=⟨_,rfl⟩;have a3s:M<=4294836225:=by omega
 have aMO:4294836225<=M:=by omega
 clear hM;have zN:Hid (∀w4,w4=w.alloc (aK #[aG .u64 0,aG .u64 0,aG .u64 0,aG .u64 0,aG .u64 0,aG .u64 0,aG .u64 0,aG .u64 0] 281)->MJ w.heap.size Y M (rT X) (rT Y) 0 0 w4 [0,0,0,0,0,0,0,0] w4/\aa w.heap.size w w4):=by
  rintro w4 rfl;refine⟨⟨rfl,sX.new w [0,0,0,0,0,0,0,0],by simp [val,upto],λj hj=> ?_,aX _ _⟩,(aX _ _).alloc (aZ _) _⟩;have:∀x∈ [0,0,0,0,0,0,0,(0:Nat)],x=0:=by simp
  rw [this _ (cK hj)];omega
 have U0:Hid (upto (rT Y) 4=Y):=η (a8L (by omega));have pC:Hid (upto (rT X) 4=X):=η (a8L (by omega));have Tz:Hid (∀j,rT X j<=65535):=η (a2i X);have HYL:Hid (∀j,rT Y j<=65535):=η (a2i Y);have HXS:Hid (∀s i,s=16*i->bits .and .u64 ((X:Int)/2^s) 65535=(rT X i:Int)):=η λs i h=>a2h (by omega) h
 have HYS:Hid (∀s i,s=16*i->bits .and .u64 ((Y:Int)/2^s) 65535=(rT Y i:Int)):=η λs i h=>a2h (by omega) h
 have qC:=zN.o _ rfl;clear zN yE G8;generalize rT X=x at*;generalize rT Y=y at*;generalize w.alloc (aK #[aG .u64 0,aG .u64 0,aG .u64 0,aG .u64 0,aG .u64 0,aG .u64 0,aG .u64 0,aG .u64 0] 281)=w4 at qC ⊢;have OM:=η qC.1;have cC:=η qC.2;clear qC;generalize QK:w.heap.size=bn at*;have fB:=η QK;clear QK;go_loopw [9,10] (λu _ wr=>∃i:Nat,i<=4/\u=aG aF i/\∃ns:List Nat,Hid (MJ bn Y M x y i 0 w4 ns wr)) (λu _ _=>4-(ag u).toNat)
 case atStart=>exact⟨0,by omega,rfl,_,OM⟩
 case round=>
  clear OM;obtain⟨i,hi,rfl,ns,HM⟩:=hrel;by_cases hlt:i<4
  ·have ng:(i:Int)<4:=by omega
   obtain⟨wo,rfl⟩:∃wo:aJ,wo=wr:=⟨_,rfl⟩;go_wp2_with fail
   go_loopw [10] (λu wr=>∃k:Nat,k<=4/\u=aG aF k/\∃ns:List Nat,Hid (MJ bn Y M x y i k w4 ns wr)) (λu _=>4-(ag u).toNat)
   case atStart=>exact⟨0,by omega,rfl,_,HM⟩
   case round=>
    clear HM;obtain⟨k,hk,rfl,ns,HM⟩:=hrel;by_cases rj:k<4
    ·have WV:(k:Int)<4:=by omega
     obtain⟨j,hj⟩:∃j,j=i+k:=⟨_,rfl⟩;have hlen:=HM.o.len;have qw:j<aA ns:=by omega
     obtain⟨q,hq⟩:∃q,q=ns[j]:=⟨_,rfl⟩;obtain⟨p,hp⟩:∃p,p=x i*y k:=⟨_,rfl⟩;obtain⟨t,ht⟩:∃t,t=q+p:=⟨_,rfl⟩;have hpl:p<=4294836225:=by rw [hp];exact yN (Tz.o i) (HYL.o k)
     have Wk:q<=68717379600:=by have h1:=HM.o.bd j qw;rw [hq];refine bz h1 (bz (yN (show 4*i+k<=16 by omega) a3s) (by omega))
     have cn:=HM.o.row.cell qw;rw [<-hq] at cn;have fnn:=HM.o.row.free j;have OO:Hid (MJ bn Y M x y i (k+1) w4 (ns.set j t) (wr.setCell ⟨bn,j,aB⟩ (aG .u64 (t:Int))).drew):=by have:=HM.o.step qw hj hp (by omega);rw [<-hq,<-ht] at this;exact this
     obtain⟨si,hsi⟩:∃si,si=16*i:=⟨_,rfl⟩;obtain⟨sk,hsk⟩:∃sk,sk=16*k:=⟨_,rfl⟩;have ax:=HXS.o si i hsi;have ay:=HYS.o sk k hsk;have esi:(16:Int)*(i:Int)=(si:Int):=by omega
     have esk:(16:Int)*(k:Int)=(sk:Int):=by omega
     have lsi:si<=48:=by omega
     have lsk:sk<=48:=by omega
     have ep:(x i:Int)*(y k:Int)=(p:Int):=by rw [hp,Int.natCast_mul]
     have et:(q:Int)+(p:Int)=(t:Int):=by omega
     have FL:t<=73012215825:=by omega
     have ea:((i:Int)+(k:Int)).toNat=j:=by omega
     have pa:(0:Int)<=(i:Int)+(k:Int):=by omega
     have ba:(i:Int)+(k:Int)<8:=by omega
     have ra:aF.wrap ((i:Int)+(k:Int))=(i:Int)+(k:Int):=by rw [fZ];omega
     have rp:mN.wrap (p:Int)=(p:Int):=by rw [ux];omega
     have rt:mN.wrap (t:Int)=(t:Int):=by rw [ux];omega
     have rsi:aF.wrap (si:Int)=(si:Int):=by rw [fZ];omega
     have rsk:aF.wrap (sk:Int)=(sk:Int):=by rw [fZ];omega
     have hsx:Op.shift .shr .u64 (X:Int) aF (si:Int)=pure (aG .u64 ((X:Int)/2^si)):=shift_shr .u64 aF X si (by omega) (by simp [a0C];omega);have N0:Op.shift .shr .u64 (Y:Int) aF (sk:Int)=pure (aG .u64 ((Y:Int)/2^sk)):=shift_shr .u64 aF Y sk (by omega) (by simp [a0C];omega);clear hj hq hp ht hlen Wk hpl HM qw hsi hsk;go_wp2_with fail
     go_big_region
     clear cn fnn;generalize (wr.setCell ⟨bn,j,aB⟩ (aG .u64 (t:Int))).drew=w5 at OO ⊢;clear ea pa ba ra rp rt ep et ax ay esi esk rsi rsk hsx N0;go_wp2
     go_roundw
     case rel=>exact⟨k+1,by omega,by go_num,_,OO⟩
     case measure=>simp [ag];omega
    have WV:¬(k:Int)<4:=by omega
    obtain rfl:k=4:=by omega
    have OO:=η (HM.o.next U0.o);clear HM;go_wp2_with fail
    go_roundw
    case rel=>exact⟨i+1,by omega,by go_num,_,OO⟩
    case measure=>simp [ag];omega
  have ng:¬(i:Int)<4:=by omega
  obtain rfl:i=4:=by omega
  have jL:Hid (CJ bn (X*Y) 0 0 w4 ns wr):=by refine⟨HM.o.len,HM.o.row,λj _ h=>by omega,λj h=>bz (HM.o.bd j h) (bz (yN (show 4*4+0<=16 by omega) a3s) (by omega)),by omega, ?_,HM.o.b⟩;have:=HM.o.vl;rw [pC.o,show upto y 0=0 from rfl,aAE,GU] at this;rw [this,Nat.zero_mul,GU]
  have Sj:Hid (X*Y<340282366920938463463374607431768211456):=by have:X*Y<=9223372036854775808*9223372036854775808:=yN hXl hYl;show X*Y<_;omega
  clear HM;obtain⟨V,hV⟩:∃V,V=X*Y:=⟨_,rfl⟩;rw [<-hV] at jL Sj;have HV:=η hV;clear hV;go_wp2_with fail
  go_loopw [11,12] (λu v wr=>∃i c:Nat,i<=8/\u=aG .u64 c/\v=aG aF i/\∃ns:List Nat,Hid (CJ bn V i c w4 ns wr)) (λ_ v _=>8-(ag v).toNat)
  case atStart=>exact⟨0,0,by omega,rfl,rfl,_,jL⟩
  case round=>
   clear jL;obtain⟨i,c,hi,rfl,rfl,ns,HC⟩:=hrel;by_cases hlt:i<8
   ·have ng:(i:Int)<8:=by omega
    have nY:i<aA ns:=by have:=HC.o.len;omega
    obtain⟨q,hq⟩:∃q,q=ns[i]:=⟨_,rfl⟩;obtain⟨t,ht⟩:∃t,t=q+c:=⟨_,rfl⟩;obtain⟨m,hm⟩:∃m,m=t % 65536:=⟨_,rfl⟩;obtain⟨d,hd⟩:∃d,d=t/65536:=⟨_,rfl⟩;have Wk:q<=68717379600:=by rw [hq];exact HC.o.bd i nY
    have jz:=HC.o.cb;have cn:=HC.o.row.cell nY;rw [<-hq] at cn;have fnn:=HC.o.row.free i;have kJ:Hid (CJ bn V (i+1) d w4 (ns.set i m) ((wr.setCell ⟨bn,i,aB⟩ (aG .u64 (t:Int))).setCell ⟨bn,i,aB⟩ (aG .u64 (m:Int)))):=by have:=HC.o.step nY (t:=t) (by rw [<-hq];exact ht);rw [<-hm,<-hd] at this;exact this
    have et:(q:Int)+(c:Int)=(t:Int):=by omega
    have ed:(t:Int)/65536=(d:Int):=by omega
    have em:bits .and .u64 (t:Int) 65535=(m:Int):=by rw [hm];exact a5X t (by omega)
    have FL:t<=137434759200:=by omega
    have hrow2:=η (HC.o.row.set i t);have cn2:(wr.setCell ⟨bn,i,aB⟩ (aG .u64 (t:Int))).cell? ⟨bn,i,aB⟩=aC (aG .u64 (t:Int)):=by rw [hrow2.o.cell (by rw [yL];exact nY),UD,ifP rfl]
    have fn2:(wr.setCell ⟨bn,i,aB⟩ (aG .u64 (t:Int))).frozen? ⟨bn,i,aB⟩=aP:=hrow2.o.free i;clear hq ht hm hd Wk jz HC nY;go_wp2_with fail
    go_roundw
    case rel=>exact⟨i+1,d,by omega,by first|rfl|go_num,by go_num,_,kJ⟩
    case measure=>simp [ag];omega
   have ng:¬(i:Int)<8:=by omega
   obtain rfl:i=8:=by omega
   have hns:=HC.o.ends Sj.o;subst hns;have B9:=HC.o.row;have ny:Hid (aa bn w wr):=cC.o.trans HC.o.b;clear HC;have lit:Gy 8 V= [V % 65536,V/65536 % 65536,V/4294967296 % 65536,V/281474976710656 % 65536,V/18446744073709551616 % 65536,V/1208925819614629174706176 % 65536,V/79228162514264337593543950336 % 65536,V/5192296858534827628530496329220096 % 65536]:=by simp only [Gy,Nat.div_div_eq_div_mul]
   obtain⟨n0,n1,n2,n3,n4,n5,n6,n7,a4P,lR,hval⟩:∃n0 n1 n2 n3 n4 n5 n6 n7:Nat,Gy 8 V= [n0,n1,n2,n3,n4,n5,n6,n7]/\(n0<=65535/\n1<=65535/\n2<=65535/\n3<=65535/\n4<=65535/\n5<=65535/\n6<=65535/\n7<=65535)/\V=n0+65536*n1+4294967296*n2+281474976710656*n3+18446744073709551616*(n4+65536*n5+4294967296*n6+281474976710656*n7):=
    ⟨_,_,_,_,_,_,_,_,lit,⟨by omega,by omega,by omega,by omega,by omega,by omega,by omega,by omega⟩,by have:=Sj.o;omega⟩
   rw [a4P] at B9;clear a4P lit;have a0:=B9.cell (i:=0) (by simp);have a1:=B9.cell (i:=1) (by simp);have a2:=B9.cell (i:=2) (by simp);have a3:=B9.cell (i:=3) (by simp);have a4:=B9.cell (i:=4) (by simp);have a5:=B9.cell (i:=5) (by simp);have a6:=B9.cell (i:=6) (by simp);have a7:=B9.cell (i:=7) (by simp);simp only [List.getElem_cons_zero,a9x] at a0 a1 a2 a3 a4 a5 a6 a7;clear B9;obtain⟨N,hN⟩:∃N,N=n0+65536*n1+4294967296*n2+281474976710656*n3:=⟨_,rfl⟩;obtain⟨h,hh⟩:∃h,h=n4+n5+n6+n7:=⟨_,rfl⟩;obtain⟨z,hz⟩:∃z,z=a*b:=⟨_,rfl⟩;obtain⟨sg,nC⟩:∃sg:Bool,sg= !(decide (a<0)==decide (b<0)):=⟨_,rfl⟩;have HZ:Hid (V=z.natAbs/\(sg=aO->z<=0)/\(sg=aP->0<=z)):=η ⟨by rw [HV.o,JV.o.1,JV.o.2,hz,a7z],λh=>by rw [hz];exact mul_neg (nC.symm.trans h),λh=>by rw [hz];exact a5l (nC.symm.trans h)⟩;have Zw:Hid ((h=0->V=N)/\(h≠0->18446744073709551616<=V)):=η ⟨λe=>by omega,λe=>by omega⟩;obtain⟨b0,b1,b2,b3,b4,b5,b6,b7⟩:=lR;have JW:=η hz;have HN:=η hN;have BB:=η nC;have eN:(n0:Int)+(n1:Int)*65536+(n2:Int)*4294967296+(n3:Int)*281474976710656=(N:Int):=by omega
   have eh:(n4:Int)+(n5:Int)+(n6:Int)+(n7:Int)=(h:Int):=by omega
   have bh:h<=262140:=by omega
   have bN:N<=18446744073709551615:=by omega
   clear hval hN hh hz nC;have wN:Hid (aa w.heap.size w wr):=η (by rw [fB.o];exact ny.o);by_cases zu:h=0
   ·have eh0:(n4:Int)+(n5:Int)+(n6:Int)+(n7:Int)=0:=by omega
    have Ce:Hid (V=N):=η (Zw.o.1 zu);clear eh zu bh;by_cases Va:N>9223372036854775808
    ·have a3t:(N:Int)>9223372036854775808:=by omega
     have hno:¬aL (a*b):=by have:=HZ.o.1;have:=Ce.o;have:=JW.o;rw [<-JW.o];unfold aL;omega
     go_wp2_with fail
     go_ret2;exact⟨nH (gp hno).1.symm (gp hno).2.symm,wN.o⟩
    cases sg
    ·have hS:(decide (a<0)==decide (b<0))=aO:=by have:=BB.o;revert this;cases (decide (a<0)==decide (b<0))<;>simp
     by_cases Vb:N=9223372036854775808
     ·have Vc:(N:Int)=9223372036854775808:=by omega
      have hno:¬aL (a*b):=by have:=HZ.o.1;have:=HZ.o.2.2 rfl;have:=Ce.o;rw [<-JW.o];unfold aL;omega
      clear Va;go_wp2_with fail
      go_ret2;exact⟨nH (gp hno).1.symm (gp hno).2.symm,wN.o⟩
     have a3t:¬(N:Int)>9223372036854775808:=by omega
     have Vc:¬(N:Int)=9223372036854775808:=by omega
     have hN3:(N:Int)<9223372036854775808:=by omega
     have Dd:aL (a*b)/\a*b=(N:Int):=by have:=HZ.o.1;have:=HZ.o.2.2 rfl;have:=Ce.o;rw [<-JW.o];unfold aL;omega
     clear Va Vb;have HY:=η Dd;clear Dd;go_wp2_with fail
     go_ret2;exact⟨nH (by rw [(eA HY.o.1).1,HY.o.2]) (eA HY.o.1).2.symm,wN.o⟩
    have hS:(decide (a<0)==decide (b<0))=aP:=by have:=BB.o;revert this;cases (decide (a<0)==decide (b<0))<;>simp
    have a3t:¬(N:Int)>9223372036854775808:=by omega
    have HY:Hid (aL (a*b)/\a*b= -(N:Int)):=η (by have:=HZ.o.1;have:=HZ.o.2.1 rfl;have:=Ce.o;rw [<-JW.o];unfold aL;omega);clear Va;by_cases Vb:N=9223372036854775808
    ·have Vc:(N:Int)=9223372036854775808:=by omega
     go_wp2_with fail
     go_ret2;exact⟨nH (by rw [(eA HY.o.1).1,HY.o.2];omega) (eA HY.o.1).2.symm,wN.o⟩
    have Vc:¬(N:Int)=9223372036854775808:=by omega
    have hN3:(N:Int)<9223372036854775808:=by omega
    clear Vb;by_cases hN0:N=0
    ·have hN4:¬(N:Int)>0:=by omega
     go_wp2_with fail
     go_ret2;exact⟨nH (by rw [(eA HY.o.1).1,HY.o.2];omega) (eA HY.o.1).2.symm,wN.o⟩
    have hN4:(N:Int)>0:=by omega
    obtain⟨m,hm⟩:∃m,m=N-1:=⟨_,rfl⟩;have em:(N:Int)-1=(m:Int):=by omega
    have bm:m<=9223372036854775806:=by omega
    have HMM:Hid (-(N:Int)= -(m:Int)-1):=η (by omega);clear hN0 hm hN3 bN;go_wp2_with fail
    go_ret2;exact⟨nH (by rw [(eA HY.o.1).1,HY.o.2,HMM.o]) (eA HY.o.1).2.symm,wN.o⟩
   have hhp:(h:Int)>0:=by omega
   have hno:¬aL (a*b):=by have:=HZ.o.1;have:=Zw.o.2 zu;rw [<-JW.o];unfold aL;omega
   go_wp2_with fail
   go_ret2;exact⟨nH (gp hno).1.symm (gp hno).2.symm,wN.o⟩
theorem aJy(a b:Int)(w:aJ)(ha:aL a)(hb:aL b):aQ aM 154 #[aG aF a,aG aF b] w λe w'=>e=aT (bB #[aG aF (gQ (a*b)),aG aF (dM (a*b))])/\aa w.heap.size w w':=
 aJz a b _ _ w ha hb rfl rfl
end
end Go.Proofs.YtdokipdchlcmeaaGreat
