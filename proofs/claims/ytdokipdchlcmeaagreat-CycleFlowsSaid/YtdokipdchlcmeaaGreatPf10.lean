/-
  Several texts in one, for one claim (printed by pack.py).
-/
import Derived.Test.YtdokipdchlcmeaaGreatPf9
import Derived.RegionTactic
set_option linter.all false
set_option maxRecDepth 100000
set_option maxHeartbeats 12800000
open And renaming intro→kh
open Array renaming getElem?_eq_some_iff→fY
open Bool renaming true→aO,false→aP,and_eq_true→ji
open Go renaming World→aJ,Value→aN,Calls→aQ,Addr→ai,cell_of_row→bH,maxLen→bO,TypeId→bZ,heap_alloc_new→cQ,info_parts→dP,Ending→dX,wpList_append_own→jC,frozen_of_row→KH
open Go.Calls renaming mono→uD
open Go.Ending renaming returned→aT
open Go.IntKind renaming i64→aF,wrap_i64→fh,u64→mW,wrap_u64→vM,bits→a0F
open Go.Obj renaming cells→aK
open Go.Proofs renaming intOf→ag
open Go.Proofs.Tryz renaming prog→aM
open Go.RowKit renaming Below→aa,wrap64→fV
open Go.RowKit.Below renaming refl→aX,size→gX,trans→kB,alloc→rK
open Go.Value renaming int→aG,slice→aH,tuple→bC,pointer→bD,bool→bK,agg→bP,ownBlock→eF
open Go.World renaming ownsRow_nil→gG,frozen?→iO
open Int renaming le_refl→dM,le_trans→kD,le_of_eq→rX,mul_le_mul_of_nonneg_right→M3
open List renaming length→aA,getElem_mem→cK,length_append→cN,take_length→cU,range→dQ,mem_map→di,mem_cons_of_mem→dx,mem_cons→fG,take_succ_eq_append_getElem→fH,mem_append→gN,replicate→gP,getElem?_eq_getElem→iG,length_map→iX,mem_filter→jG,any_eq_true→kE,length_filter_le→qo,getD_eq_getElem?_getD→tC,mem_iff_getElem→tD,length_cons→uS,length_take→vN,mem_append_left→vP,pairwise_iff_getElem→vQ,length_set→xD,map_cons→yS,getElem?_eq_some_iff→zU,mem_of_getElem?→zV,length_replicate→BN,pairwise_map→BO,foldl_cons→D3,getElem_modify→Gg,mem_append_right→Gh,pairwise_append→M6,getElem_set→PH,getElem?_of_mem→aA4,getElem_cons_succ→aA5
open List.Pairwise renaming imp_of_mem→PD,nil→UO
open Nat renaming le_refl→aZ,zero_le→bM,le_trans→bz,lt_of_lt_of_le→cL,mul_le_mul→yT,add_mul→Gm,add_zero→Gp,mul_le_mul_right→Gr,div_add_mod→M8,mul_assoc→PJ,pow_succ→PK,mul_right_comm→aAL,mul_zero→aAM
open Option renaming none→aB,some→aC,getD_some→PM
open Or renaming inl→aS
namespace Go.Proofs.YtdokipdchlcmeaaGreat
open Go.Proofs.Tryz Go.RowKit
structure a9n(C:Int)(g:Nat)(E:Dk)(n:Nat):Prop where
 jZ:aw C (g+32*n) (hands E n)
 sm:Sm E (hands E n)
 keep:∀k m b,k≠1->k≠7->B (hands E n) k m b=B E k m b
 lk:∀y∈iZ E n,yR E.x y/\aL y.n
 ll:aA (iZ E n)<=16*n
 gs:∀N,∀G∈ry E N n,(∀y∈G,1<=y.n)/\aA G<=16
theorem aw.Vz {C:Int} {g:Nat} {E:Dk}(H:aw C g E)(hg:g+32*8<=90000):∀n,n<=aA E.x.ss->a9n C g E n/\∀k,k<n->P9 (hands E k) ((k:Int)+1)
 |0,_=>by refine⟨⟨H,Sm.refl E,λ_ _ _ _ _=>rfl,by simp [iZ],by simp [iZ],λN G hG=> ?_⟩,λk hk=>absurd hk (Nat.not_lt_zero _)⟩;have:G= []:=List.eq_of_mem_replicate hG;grind
 |n+1,hn=>by
  have jt:=H.hs.sl;obtain⟨A,O⟩:=aw.Vz H hg n (by omega);have hx:=A.sm.x;obtain⟨h1,h2,h3,h4,h5,h6,h7,h8⟩:=aGG A.jZ (s:=(n:Int)+1) (by rw [hx];omega) (by omega);refine⟨⟨?_,A.sm.trans h3,λk m b e1 e7=>(h4 k m b e1 e7).trans (A.keep k m b e1 e7), ?_, ?_, ?_⟩, ?_⟩
  ·rw [show g+32*(n+1)=g+32*n+32 by omega];exact h2
  ·intro y hy;have hy':=hy;rcases gN.1 hy' with h|h
   ·exact A.lk y h
   grind
  ·show aA (iZ E n++oM (hands E n) ((n:Int)+1))<=_;rw [cN];have:=A.ll;omega
  ·intro N G hG;have hG':=hG;rcases List.mem_or_eq_of_mem_set hG' with h|h
   ·exact A.gs N G h
   grind
  grind
theorem aJD {D:Dk} {K:List Lg} {y:Lg}(h:y∈gp D K):y.a=0/\((∃z∈dy D 0,z.m=y.m)\/∃z∈K,z.m=y.m):=by
 unfold gp Dv at h;split at h
 ·obtain⟨k,hk,rfl⟩:=di.1 h;refine⟨rfl, ?_⟩;obtain⟨z,hz,e⟩:=(Rb _ k).1 hk;rcases gN.1 hz with hz|hz
  ·grind
  right;unfold oY at hz;split at hz
  ·unfold ru at hz;split at hz
   ·obtain⟨q,hq,rfl⟩:=di.1 hz;grind [Rb]
   cases hz
  cases hz
 cases h
theorem a7B {D E:Dk}(hx:E.x=D.x)(hw:E.who=D.who)(h8:∀m,B E 8 m 0=B D 8 m 0)(h9:∀m,B E 9 m 0=B D 9 m 0)(h3:B E 3 0 0=B D 3 0 0)(h4:B E 4 0 0=B D 4 0 0):mJ E=mJ D:=by
 have e:jx E=jx D:=by
  have e1:iA E (aA E.x.ms)=iA D (aA D.x.ms):=by show (dQ (aA E.x.ms)).map (λ(i:Nat)=>B E 8 ((i:Int)+1) 0)=(dQ (aA D.x.ms)).map (λ(i:Nat)=>B D 8 ((i:Int)+1) 0);grind
  have e2:iI E (aA E.x.ms)=iI D (aA D.x.ms):=by show (dQ (aA E.x.ms)).map (λ(i:Nat)=>B E 9 ((i:Int)+1) 0)=(dQ (aA D.x.ms)).map (λ(i:Nat)=>B D 9 ((i:Int)+1) 0);grind
  show (⟨iA E (aA E.x.ms),aB,0,iI E (aA E.x.ms),aB,0,B E 3 0 0,B E 4 0 0⟩:cA)=⟨iA D (aA D.x.ms),aB,0,iI D (aA D.x.ms),aB,0,B D 3 0 0,B D 4 0 0⟩;rw [e1,e2,h3,h4]
 unfold mJ;rw [e,hw]
structure aAU(C:Int)(g:Nat)(D:Dk)(K:List Lg):Prop where
 ok:PN D K
 jZ:aw (C+140737488355328) (g+400) (J2 D K)
 sm:Sm D (j5 (dw D K) (jA D K))
 aHo:mj D K≠ []->mJ (J2 D K)=0
 g:(∀y∈jA D K,1<=y.n)/\aA (jA D K)<=144
 k:(∀y∈mj D K,1<=y.n)/\aA (mj D K)<=144
theorem aw.paid {C:Int} {g:Nat} {D:Dk}(H:aw C g D)(hh:D.h= []) {K:List Lg}(hK:∀y∈K,yR D.x y/\aL y.n)(hKl:aA K<=128)(hC:C+140737488355328<=4611686018427387904+1125899906842624)(hg:g+400<=90000):aAU C g D K:=by
 have G0:=H.DZ 0;have ir:=H.hs.ml;have jt:=H.hs.sl;have AD:=H.house 0;have hB0:B D 1 0 0=balA (aA D.x.ms) (aA D.x.ss+1) D.l 1 0 0:=rfl;have l9:aA (gp D K)<=144:=by have h1:=a5F (dy D 0) (oY D.x K);have h2:=Yo D.x K;have h3:=G0.len;show aA (Dv (dy D 0) (oY D.x K))<=144;omega
 have Qv:∀y∈gp D K,(1<=y.m/\y.m<=(aA D.x.ms:Int))/\y.a=0:=λy hy=>by
  obtain⟨e,h⟩:=aJD hy;rcases h with⟨z,hz,e2⟩|⟨z,hz,e2⟩
  ·have:=(G0.each z hz).1.1;rw [e2] at this;exact⟨this,e⟩
  have:=(hK z hz).1.1;rw [e2] at this;exact⟨this,e⟩
 have NM:aL (ie (gp D K)):=SY _;have hs0:0<=ie (gp D K):=by
  unfold ie;split
  ·rename_i hc;have hW:=a8Y (cE:=0) 0 (show jO 0 (gp D K)=0 by grind [jO]);have:=YW (λ_=>aO) (gp D K) hW.n0;grind [L9]
  omega
 have hN:wJ D K=max (ie (gp D K)-B D 1 0 0) 0:=Xo hs0 AD.1 NM;have tY:aL (wJ D K):=by grind [aL]
 have W:=H.drawn hh tY hC;have Mp:=W.steps _ (aZ _);rw [cU] at Mp;have KN:aw (C+140737488355328) (g+50) (dw D K):=Mp.wide (dM _) hC (by have:=W.len;omega);have hx1:(dw D K).x=D.x:=W.sm.x;have aMn:=KN.house 0;have Vr:B (dw D K) 1 0 0=balA (dw D K).x.ms.length ((dw D K).x.ss.length+1) (dw D K).l 1 0 0:=rfl;have hG:(∀y∈jA D K,yR D.x y/\y.a=0)/\aA (jA D K)<=144/\(∀a,oG a (jA D K)<=B (dw D K) 1 0 a)/\(∀y∈mj D K,yR D.x y)/\aA (mj D K)<=144/\(mj D K≠ []->B (dw D K) 1 0 0<ie (gp D K)):=by
  by_cases hc:yb (B (dw D K) 1 0 0) (gp D K)=0
  ·have eg:jA D K=jn (B (dw D K) 1 0 0) (gp D K):=by show zn (B (dw D K) 1 0 0) (gp D K)=_;unfold zn;rw [ifP hc]
   have ek:mj D K=jv (B (dw D K) 1 0 0) (gp D K):=by show zo (B (dw D K) 1 0 0) (gp D K)=_;unfold zo;rw [ifP hc]
   have kL:dF (gp D K)=0:=by grind [yb]
   have sG:jO (B (dw D K) 1 0 0) (gp D K)=0:=by grind [jO]
   have P:=a7j sG (λy hy=>(Qv y hy).2);rw [eg,ek];refine⟨λy hy=> ?_,bz P.gl l9,λa=> ?_,λy hy=> ?_,bz P.kl l9,λhne=> ?_⟩
   ·obtain⟨h1,h2,z,hz,e⟩:=P.g y hy;exact⟨⟨by grind,by rw [h2];omega,h1⟩,h2⟩
   ·rw [P.sum a];split
    ·grind
    exact(KN.house a).1
   ·obtain⟨h1,h2,z,hz,e⟩:=P.k y hy;exact⟨by grind,by rw [h2];omega,h1⟩
   have h:=λh'=>hne (P.em.2 h')
   grind [ie]
  have eg:jA D K= []:=by show zn (B (dw D K) 1 0 0) (gp D K)=_;unfold zn;rw [ifN hc]
  have ek:mj D K= []:=by show zo (B (dw D K) 1 0 0) (gp D K)=_;unfold zo;rw [ifN hc]
  rw [eg,ek];exact⟨by simp,by simp,λa=>by simp only [oG];exact(KN.house a).1,by simp,by simp,λh=>absurd rfl h⟩
 obtain⟨g1,g2,g3,g4,g5,g6⟩:=hG;obtain⟨G1,S1,K1,_⟩:=aw.gives (jA D K) KN (λx hx=>by grind) g3;have vr:=G1 _ (aZ _);rw [cU] at vr;have N7:aw (C+140737488355328) (g+194) (j5 (dw D K) (jA D K)):=vr.wide (dM _) hC (by omega);have hsm:Sm D (j5 (dw D K) (jA D K)):=W.sm.trans S1;have hE:=aw.QE (kd:=15) (.inr (.inr rfl)) (mj D K) N7 (λx hx=>by rw [hsm.x];exact⟨(g4 x hx).2.1,.inl (g4 x hx).2.2⟩);have KW:∀y∈jA D K,y.n<=B (dw D K) 1 0 0:=λy hy=>by
  have h0:=g3 0;have:∀ {L:List Lg},(∀y∈L,1<=y.n/\y.a=0)->y∈L->y.n<=oG 0 L:=by
   intro L;induction L with
   |nil=>intro _ h;cases h
   |cons x L ih=>
    intro hh hx;have h0:=Pt (a:=0) (L:=L) (λz hz=>(hh z (dx _ hz)).1);have h1:=hh x (by simp);simp only [oG];rw [ifP h1.2];rcases fG.1 hx with rfl|hx
    ·omega
    have:=ih (λz hz=>hh z (dx _ hz)) hx;omega
  have:=this (λz hz=>⟨(g1 z hz).1.2.2,(g1 z hz).2⟩) hy;omega
 refine⟨⟨H.ok (by omega),by unfold aL;omega,by omega,λy hy=> ?_,λi=> ?_,by have:=G0.len;omega,λy hy=> ?_,by omega,λm hm=> ?_,tY,λk hk=>(W.steps k hk).ok (by have:=W.len;omega),W.dI,by have:=W.len;omega,by unfold aL;omega,λk hk=>(G1 k hk).ok (by omega),λy hy=> ?_,by omega,by have:=N7.gl;omega,by omega⟩,hE.wide (dM _) hC (by omega),hsm,λhne=> ?_,⟨λy hy=>(g1 y hy).1.2.2,g2⟩,λy hy=>(g4 y hy).2.2,g5⟩
 ·have h:=hK y hy;have h1:=h.1.1;have h2:=h.1.2.1;grind [aL]
 ·unfold df;split
  ·rename_i hs;have hs':1<=i/\i<=aA D.x.ss:=hs;have hl:(i-1).toNat<aA D.x.ss:=by omega
   have h1:=H.hs.sI _ (cK hl);rw [tC,iG hl];grind [aL]
  show aL 0;decide
 ·have:=(G0.each y hy).1.1;unfold aL;omega
 ·have:=H.who.pS m hm;unfold aL;omega
 ·have h:=(g1 y hy).1;have h1:=h.1;have h2:=h.2.1;have h3:=h.2.2;grind [aL]
 have hlt:=g6 hne;have e:mJ (J2 D K)=mJ (dw D K):=a7B (S1.x) (S1.who) (λm=>K1 8 m 0 (by decide) (by decide)) (λm=>K1 9 m 0 (by decide) (by decide)) (K1 3 0 0 (by decide) (by decide)) (K1 4 0 0 (by decide) (by decide));have e2:mJ (dw D K)=mJ D-min (max (wJ D K) 0) (mJ D):=W.room;have e3:B (dw D K) 1 0 0=B D 1 0 0+min (max (wJ D K) 0) (mJ D):=W.house;omega
theorem Nr(f:Ob->Int)(g:Ob->Ob):∀(L:List Ob) (i:Nat) (x:Ob),L[i]? =aC x->dW f (L.modify i g)=dW f L-f x+f (g x)
 | [],i,x,h=>by simp at h
 |y::L,0,x,h=>by grind [dW]
 |y::L,i+1,x,h=>by have ih:=Nr f g L i x (by simpa using h);grind [dW]
theorem mem_modify {L:List Ob} {i:Nat} {g:Ob->Ob} {y:Ob}(h:y∈L.modify i g):(∃k,k≠i/\L[k]? =aC y)\/∃x,L[i]? =aC x/\y=g x:=by
 obtain⟨k,hk,rfl⟩:=tD.1 h;have mC:k<aA L:=by simpa using hk
 rw [Gg];split
 ·grind
 rename_i e;exact .inl ⟨k,λe'=>e e'.symm,iG mC⟩
theorem kq.uniq {M S:Nat} {aj:Int} {who:List Int} {L:List Ob}(h:kq M S aj who L) {i j:Nat} {x y:Ob}(hi:L[i]? =aC x)(hj:L[j]? =aC y)(ox:ew x=aO)(oy:ew y=aO)(hm:x.m=y.m)(ha:x.a=y.a):i=j:=by
 obtain⟨qR,rfl⟩:=zU.1 hi;obtain⟨hj1,rfl⟩:=zU.1 hj;have ho:=vQ.1 h.ord;rcases Nat.lt_trichotomy i j with hlt|he|hlt
 ·have:=ho i j qR hj1 hlt ox oy;omega
 ·exact he
 have:=ho j i hj1 qR hlt oy ox;omega
theorem kq.a8R {M S:Nat} {aj:Int} {who:List Int} {L:List Ob}(h:kq M S aj who L) {x y:Ob}(hx:x∈L)(hy:y∈L)(ox:ew x=aO)(oy:ew y=aO)(hm:x.m=y.m)(ha:x.a=y.a):x=y:=by obtain⟨i,hi⟩:=aA4 hx;obtain⟨j,hj⟩:=aA4 hy;have:=h.uniq hi hj ox oy hm ha;grind
theorem kq.mod {M S:Nat} {aj:Int} {who:List Int} {L:List Ob}(h:kq M S aj who L) {i:Nat} {x:Ob} {g:Ob->Ob}(hx:L[i]? =aC x)(hm:(g x).m=x.m)(ha:(g x).a=x.a)(ho:ew (g x)=aO->ew x=aO)(FP:MA M S aj who (g x))(dU:(g x).ok)(hc:∀a,qN a (g x)<=qN a x)(hd:∀a,vW a (g x)<=vW a x):kq M S aj who (L.modify i g):=by
 refine⟨λy hy=> ?_,λy hy=> ?_, ?_,λa=> ?_,λa=> ?_,by have:=h.len;simpa using this⟩
 ·rcases mem_modify hy with⟨k,_,hk⟩|⟨z,hz,rfl⟩
  ·exact h.each y (zV hk)
  grind
 ·rcases mem_modify hy with⟨k,_,hk⟩|⟨z,hz,rfl⟩
  ·exact h.ok y (zV hk)
  grind
 ·rw [vQ];intro j k hj hk hjk o1 o2;have hj':j<aA L:=by simpa using hj
  have mC:k<aA L:=by simpa using hk
  obtain⟨hi',mf⟩:=zU.1 hx;rw [Gg] at o1;rw [Gg] at o2;rw [Gg,Gg];have fact:∀(q:Nat) (hq:q<aA L),(ew (if i=q then g L[q] else L[q])=aO->ew L[q]=aO)/\(if i=q then g L[q] else L[q]).m=L[q].m/\(if i=q then g L[q] else L[q]).a=L[q].a:=by grind
  rw [(fact j hj').2.1,(fact j hj').2.2,(fact k mC).2.1,(fact k mC).2.2];exact vQ.1 h.ord j k hj' mC hjk ((fact j hj').1 o1) ((fact k mC).1 o2)
 ·rw [Nr _ _ _ _ _ hx];have:=h.cl a;have:=hc a;omega
 rw [Nr _ _ _ _ _ hx];have:=h.db a;have:=hd a;omega
theorem uq {x:Ob}:ew x=aO↔x.st=1:=by grind [ew]
theorem a2M {a:Int} {x:Ob}(h:x.st≠1):qN a x=0:=by grind [qN]
theorem a2i {a:Int} {x:Ob}(h:x.st≠1):vW a x=0:=by grind [vW]
theorem a2L(a:Int)(x:Ob):0<=qN a x:=by grind [qN]
theorem a2h(a:Int)(x:Ob):0<=vW a x:=by grind [vW]
theorem aFe {m a:Int} {L:List Ob}(h:L[dV m a L]? =aB):∀y∈L,ew y=aO->¬(y.m=m/\y.a=a):=by grind [dV,yq,uq]
theorem kq.mark {M S:Nat} {aj:Int} {who:List Int} {L:List Ob}(h:kq M S aj who L) {m a s n:Int}(hs:2<=s/\s<=5)
 (hx:∀x∈L,ew x=aO->x.m=m->x.a=a->0<=n/\n<=x.size/\(s=2->n=x.size)/\(s=3->hasB who m=aO/\(x.az<0->n=0)/\(0<x.az->n<x.az))/\((s=4\/s=5)->x.az<0/\n< -x.az/\(s=4->a≠0))):
 kq M S aj who (lY m a s n L)/\∀y∈lY m a s n L,ew y=aO->y∈L/\¬(y.m=m/\y.a=a):=by
 cases hf:L[dV m a L]? with
 |none=>
  have e:lY m a s n L=L:=by unfold lY wF;rw [hf];rfl
  rw [e];exact⟨h,λy hy ho=>⟨hy,aFe hf y hy ho⟩⟩
 |some x=>
  obtain⟨ho,hm,ha⟩:=Mg hf;have Ki:=zV hf;obtain⟨h1,h2,h3,h4,h5⟩:=hx x Ki ho hm ha;have e0:wF m a s n L=0:=by unfold wF;rw [hf];simp only;rw [ifN];omega
  have e:lY m a s n L=L.modify (dV m a L) (λx=> {x with st:=s,done:=n}):=by unfold lY;rw [ifP e0]
  have E:=h.each x Ki;have K:=h.ok x Ki;rw [e];refine⟨h.mod hf rfl rfl (λKa=>ho) ?_ ?_ (λb=> ?_) (λb=> ?_),λy hy oy=> ?_⟩
  ·refine⟨E.m,E.a,E.big,E.c,by grind,h3,λhs3=> ?_,λj8=> ?_⟩
   ·grind
   grind
  ·exact⟨K.lo,K.hi,K.ne,h1,h2⟩
  ·rw [a2M (show s≠1 by omega)];exact a2L b x
  ·rw [a2i (show s≠1 by omega)];exact a2h b x
  rcases mem_modify hy with⟨k,hk,hk2⟩|⟨z,hz,rfl⟩
  ·refine⟨zV hk2,λhma=>hk (h.uniq hk2 hf oy ho (hma.1.trans hm.symm) (hma.2.trans ha.symm))⟩
  rw [uq] at oy;grind
theorem a6F {m:Int}:∀ {L:List Lg},(∀y∈L,1<=y.n)->0<=ofV m L
 | [],_=>dM 0
 |y::L,h=>by have h1:=h y (by simp);have:=a6F (m:=m) (L:=L) (λz hz=>h z (dx _ hz));grind [ofV]
theorem aIA(a n dn:Int)(lost:Bool):2<=sP a n dn lost/\sP a n dn lost<=5:=by grind [sP]
theorem aw.obs {C:Int} {g:Nat} {D:Dk}(H:aw C g D) {cT:List Ob}(h:kq (aA D.x.ms) (aA D.x.ss) D.aj D.who cT):aw C g {D with ob:=cT}:=
 ⟨H.hs,H.bF,H.h8,H.hl,H.fl,H.lg,H.gl,H.who,h,H.bx,H.bl,H.st,H.aj⟩
theorem XZ(GS:List (List Lg))(lost:List Lg):∀(L:List Ob) (E:Dk),sO GS lost E L= {E with ob:=(sO GS lost E L).ob}
 | [],E=>rfl
 |x::L,E=>by have ih:=XZ GS lost L (Fl GS lost E x);grind [sO,Fl]
theorem a5e {GS:List (List Lg)} {lost:List Lg} {M S:Nat} {aj:Int} {who:List Int}(hG:∀G∈GS,∀y∈G,1<=y.n):∀(L:List Ob) (E:Dk),kq M S aj who E.ob->(∀x∈L,x.az<0/\∀y∈E.ob,ew y=aO->y.m=x.m->y.a=x.a->y.az=x.az)->
 (∀k,k<=aA L->kq M S aj who (sO GS lost E (L.take k)).ob)/\∀y∈(sO GS lost E L).ob,ew y=aO->y∈E.ob/\∀x∈L,¬(y.m=x.m/\y.a=x.a)
 | [],E,h,_=>⟨λk hk=>by have:k=0:=by simpa using hk
                        subst this;exact h,λy hy _=>⟨hy,by simp⟩⟩
 |x::L,E,h,hx=>by
  obtain⟨x1,x2⟩:=hx x (by simp);have IL:0<=ofV x.m (GS.getD x.a.toNat []):=by refine a6F ?_;grind
  obtain⟨A1,A2⟩:=h.mark (m:=x.m) (a:=x.a) (s:=sP x.a (-x.az) (ofV x.m (GS.getD x.a.toNat [])) (decide (ofV x.m lost>0))) (n:=Bu (-x.az) (ofV x.m (GS.getD x.a.toNat []))) (aIA _ _ _ _) (λy hy oy hm ha=>by grind [Ob.size,sP,Bu]);have ih:=a5e (lost:=lost) hG L (Fl GS lost E x) A1 (λz hz=>⟨(hx z (dx _ hz)).1,λy hy oy hm ha=>(hx z (dx _ hz)).2 y (A2 y hy oy).1 oy hm ha⟩);refine⟨λk hk=> ?_,λy hy oy=> ?_⟩
  ·cases k with
   |zero=>exact h
   |succ k=>exact ih.1 k (by simpa using hk)
  obtain⟨b1,b2⟩:=ih.2 y hy oy;obtain⟨c1,c2⟩:=A2 y b1 oy;grind
theorem aD7 {M A:Nat} {l:List Int} {k m a:Int}(h:a<0):balA M A l k m a=0:=by grind [Hj,plcA]
theorem aw.leaves {C:Int} {g:Nat} {D:Dk}(H:aw C g D):∀k:Nat,k<=aA D.x.ss+1->aw C (g+k) (leaveD D k)/\Sm D (leaveD D k)/\(∀q m b,q≠1->q≠2->B (leaveD D k) q m b=B D q m b)/\(∀b:Int,b<(k:Int)->B (leaveD D k) 1 0 b=0)
 |0,_=>⟨H,Sm.refl D,λ_ _ _ _ _=>rfl,λb hb=>aD7 (by omega)⟩
 |k+1,hk=>by
  obtain⟨G,S,K,Z⟩:=aw.leaves H k (by omega);have hx:=S.x;have e:leaveD D (k+1)=leave1 (leaveD D k) (k:Int):=rfl;rw [e];by_cases h0:0<balA (leaveD D k).x.ms.length ((leaveD D k).x.ss.length+1) (leaveD D k).l 1 0 (k:Int)
  ·have e1:leave1 (leaveD D k) (k:Int)= {leaveD D k with l:=bj (leaveD D k) 1 0 2 0 (k:Int) (balA (leaveD D k).x.ms.length ((leaveD D k).x.ss.length+1) (leaveD D k).l 1 0 (k:Int)),log:=(leaveD D k).log++ [⟨16,0,(k:Int),balA (leaveD D k).x.ms.length ((leaveD D k).x.ss.length+1) (leaveD D k).l 1 0 (k:Int),0⟩]}:=by
    grind [leave1]
   obtain⟨_,G2,hd⟩:=G.goes (tk:=2) (tm:=0) (a:=(k:Int)) (n:=balA (leaveD D k).x.ms.length ((leaveD D k).x.ss.length+1) (leaveD D k).l 1 0 (k:Int)) (e:=⟨16,0,(k:Int),balA (leaveD D k).x.ms.length ((leaveD D k).x.ss.length+1) (leaveD D k).l 1 0 (k:Int),0⟩) (.inr ⟨rfl,rfl⟩) (by rw [hx];omega) (by omega) (dM _) ⟨rfl,rfl,rfl⟩;rw [e1];refine⟨G2,S.trans ⟨rfl,rfl,rfl,rfl,rfl,rfl,rfl,rfl,_,rfl,by simp⟩,λq m b h1 h2=> ?_,λb hb=> ?_⟩
   ·grind
   grind
  have e1:leave1 (leaveD D k) (k:Int)=leaveD D k:=by grind [leave1]
  rw [e1];refine⟨G.wide (dM _) H.bF.big (by omega),S,K,λb hb=> ?_⟩;by_cases hbk:b=(k:Int)
  ·subst hbk;have:=(G.house (k:Int)).1;grind
  exact Z b (by omega)
structure aAc(C:Int)(g:Nat)(D D':Dk):Prop where
 jZ:aw (C+8*jf+140737488355328) (g+1700) D'
 x:D'.x=D.x
 who:D'.who=D.who
 aj:D'.aj=D.aj
 en:D'.en=D.en
 h:D'.h= []
 op:∀x∈D'.ob,ew x=aO->False
 hz:∀a,a<=(aA D.x.ss:Int)->B D' 1 0 a=0
 bx:D'.bx= []
 st:D'.st=0
 lg:∃t,D'.log=D.log++t/\((∃e∈t,e.k=15)->mJ D'=0)
theorem aw.done {C:Int} {g:Nat} {V:Dk}(h:aw C g V):aw C g {V with bx:= [],st:=0}:=
 ⟨h.hs,h.bF,h.h8,h.hl,h.fl,h.lg,h.gl,h.who,h.ob,by simp,by simp,by simp,h.aj⟩
theorem aw.rest {C:Int} {g:Nat} {D E:Dk}(H:aw C g E)(hS:Sm D E)(hh:D.h= [])(hst:∀x∈D.ob,ew x=aO->x.az<0)(hC:C+140737488355328<=4611686018427387904+1125899906842624)(hg:g+700<=90000):
 a0T E/\aw (C+140737488355328) (g+700) (pX E)/\(pX E).x=D.x/\(pX E).who=D.who/\(pX E).aj=D.aj/\(pX E).en=D.en/\(pX E).h= []/\(∀x∈(pX E).ob,ew x=aO->False)/\(∀a,a<=(aA D.x.ss:Int)->B (pX E) 1 0 a=0)/\∃t,(pX E).log=D.log++t/\((∃e∈t,e.k=15)->mJ (pX E)=0):=by
 have ir:=H.hs.ml;have jt:=H.hs.sl;obtain⟨A,O⟩:=H.Vz (by omega) (aA E.x.ss) (aZ _);have Mn:aw C (g+256) (o6 E):=A.jZ.wide (dM _) H.bF.big (by omega);have hAx:(o6 E).x=E.x:=A.sm.x;have hAh:(o6 E).h= []:=A.sm.h.trans (hS.h.trans hh);have P:=Mn.paid hAh (K:=pY E) (λy hy=>by rw [hAx];exact A.lk y hy) (by have:=A.ll;show aA (iZ E (aA E.x.ss))<=128;omega) hC (by omega);have Vy:(eZ E).x=E.x:=P.sm.x.trans hAx;have a3x:(eZ E).ob=D.ob:=P.sm.ob.trans (A.sm.ob.trans hS.ob);have aGD:(eZ E).who=D.who:=P.sm.who.trans (A.sm.who.trans hS.who);have aGB:(eZ E).aj=D.aj:=P.sm.aj.trans (A.sm.aj.trans hS.aj);have aGC:(eZ E).en=D.en:=P.sm.en.trans (A.sm.en.trans hS.en);have hPh:(eZ E).h= []:=P.sm.h.trans hAh;have aMZ:(eZ E).bx=D.bx:=P.sm.bx.trans (A.sm.bx.trans hS.bx);have hPc:aw (C+140737488355328) (g+656) (eZ E):=P.jZ.wide (dM _) hC (by omega);have QX:kq (eZ E).x.ms.length (eZ E).x.ss.length (eZ E).aj (eZ E).who (eZ E).ob:=hPc.ob;have kL:∀x∈tO (eZ E),x∈(eZ E).ob/\ew x=aO/\x.az<0:=λx hx=>by obtain⟨h1,h2⟩:=jG.1 hx;simp only [ji,beq_iff_eq,decide_eq_true_eq] at h2;exact⟨h1,uq.2 h2.1,h2.2⟩
 have hGS:∀G∈uA E,(∀y∈G,1<=y.n)/\aA G<=144:=λG hG=>by
  rcases List.mem_or_eq_of_mem_set hG with h|h
  ·have:=A.gs _ G h;exact⟨this.1,by omega⟩
  subst h;exact P.g
 obtain⟨M1,M2⟩:=a5e (GS:=uA E) (lost:=CF E) (λG hG=>(hGS G hG).1) (tO (eZ E)) (eZ E) QX (λx hx=>by obtain⟨h1,h2,h3⟩:=kL x hx;exact⟨h3,λy hy oy hm ha=>by rw [QX.a8R hy h1 oy h2 hm ha]⟩);have hMk:∀k,k<=aA (tO (eZ E))->aw (C+140737488355328) (g+656) (sO (uA E) (CF E) (eZ E) ((tO (eZ E)).take k)):=λk hk=>by rw [XZ];exact hPc.obs (M1 k hk)
 have Dc:iu E= {eZ E with ob:=(iu E).ob}:=XZ _ _ _ _;have hMc:aw (C+140737488355328) (g+656) (iu E):=by have:=hMk _ (aZ _);rw [cU] at this;exact this
 have Mt:(iu E).x=E.x:=by rw [Dc];exact Vy
 have hop:∀x∈(iu E).ob,ew x=aO->False:=λy hy oy=>by
  obtain⟨h1,h2⟩:=M2 y hy oy;have hn:y.az<0:=by rw [a3x] at h1;exact hst y h1 oy
  refine h2 y (jG.2 ⟨h1, ?_⟩) ⟨rfl,rfl⟩;simp only [ji,beq_iff_eq,decide_eq_true_eq];exact⟨uq.1 oy,hn⟩
 have L:=λk hk=>hMc.leaves k hk
 obtain⟨V1,V2,V3,V4⟩:=L ((iu E).x.ss.length+1) (aZ _);obtain⟨V,hV⟩:∃V,V=leaveD (iu E) ((iu E).x.ss.length+1):=⟨_,rfl⟩;have hDV:pX E= {V with bx:= [],st:=0}:=by rw [hV];rfl
 rw [<-hV] at V1 V2 V3 V4;have hVc:aw (C+140737488355328) (g+700) V:=V1.wide (dM _) hC (by rw [Mt];omega);have hVx:V.x=E.x:=V2.x.trans Mt;rw [hDV];have hMl:(iu E).l=(eZ E).l:=by rw [Dc]
 have QQ:∀k m b,B (iu E) k m b=B (eZ E) k m b:=λk m b=>by rw [Dc]
 have eG:aA (uA E)=aA (uA E):=rfl;refine⟨⟨by omega,O,λk hk=> ?_,P.ok, ?_,λx hx=> ?_,λk hk=>(hMk k hk).ok (by omega),λG hG=>by have:=(hGS G hG).2;omega,by have:=P.k.2;show aA (mj (o6 E) (pY E))<=_;omega,λk hk=>(L k hk).1.ok (by rw [Mt] at hk;omega),λk hk=> ?_,by rw [Mt];omega⟩, ?_, ?_, ?_, ?_, ?_, ?_, ?_, ?_, ?_⟩
 ·have mC:=(H.Vz (by omega) k hk).1.ll;omega
 ·rw [a3x,<-hS.ob];exact(H.ob.fine H.aj.2).len
 ·obtain⟨h1,_,_⟩:=kL x hx;have h2:=(QX.each x h1).a;have h3:=QX.ok x h1;have h4:((eZ E).x.ss.length:Int)=(aA E.x.ss:Int):=by rw [Vy]
  have h5:=h3.lo;have h6:=h3.hi;exact⟨h2.1,by omega,by unfold gA at h5;unfold aL;omega,h5⟩
 ·have G:=(L k (by omega)).1;have h1:=G.house (k:Int);have h2:=G.bF.big;have hx2:(leaveD (iu E) k).x=(iu E).x:=(L k (by omega)).2.1.x;have h3:B (leaveD (iu E) k) 1 0 (k:Int)=balA (iu E).x.ms.length ((iu E).x.ss.length+1) (leaveD (iu E) k).l 1 0 (k:Int):=by rw [<-hx2]
  have h4:0<=B (leaveD (iu E) k) 1 0 (k:Int)/\B (leaveD (iu E) k) 1 0 (k:Int)<=C+140737488355328:=h1;rw [<-h3];unfold aL;omega
 ·exact hVc.done
 ·exact hVx.trans hS.x
 ·show V.who=_;rw [V2.who,Dc];exact aGD
 ·show V.aj=_;rw [V2.aj,Dc];exact aGB
 ·show V.en=_;rw [V2.en,Dc];exact aGC
 ·show V.h=_;rw [V2.h,Dc];exact hPh
 ·intro x hx;have mf:x∈V.ob:=hx;rw [V2.ob] at mf;exact hop x mf
 ·intro a ha;exact V4 a (by rw [Mt,hS.x];omega)
 obtain⟨t1,e1,n1⟩:=hS.lg;obtain⟨t2,e2,n2⟩:=A.sm.lg;obtain⟨t3,e3,n3⟩:=P.sm.lg;obtain⟨t4,e4,n4⟩:=V2.lg;have eP:(eZ E).log=(j5 (dw (o6 E) (pY E)) (jA (o6 E) (pY E))).log++(mj (o6 E) (pY E)).map λx=>(⟨15,x.m,x.a,x.n,0⟩:Ev):=rfl
 have eM:(iu E).log=(eZ E).log:=by rw [Dc]
 refine⟨t1++t2++t3++((mj (o6 E) (pY E)).map λx=>(⟨15,x.m,x.a,x.n,0⟩:Ev))++t4, ?_, ?_⟩
 ·show V.log=_;rw [show V.log=(iu E).log++t4 from e4,eM,eP,e3,show (o6 E).log=E.log++t2 from e2,e1];simp only [List.append_assoc]
 rintro⟨e,he,hk⟩;have hne:mj (o6 E) (pY E)≠ []:=by
  intro h0;rw [h0] at he;simp only [List.map_nil,List.append_nil,gN] at he;rcases he with ((he|he)|he)|he
  ·exact n1 e he hk
  ·exact n2 e he hk
  ·exact n3 e he hk
  exact n4 e he hk
 have h0:mJ (eZ E)=0:=P.aHo hne;rw [<-h0];have hw:V.who=(eZ E).who:=by rw [V2.who,Dc]
 refine a7B (hVx.trans Vy.symm) hw (λm=> ?_) (λm=> ?_) ?_ ?_
 ·exact(V3 8 m 0 (by decide) (by decide)).trans (QQ 8 m 0)
 ·exact(V3 9 m 0 (by decide) (by decide)).trans (QQ 9 m 0)
 ·exact(V3 3 0 0 (by decide) (by decide)).trans (QQ 3 0 0)
 exact(V3 4 0 0 (by decide) (by decide)).trans (QQ 4 0 0)
theorem aw.settled {C:Int} {g:Nat} {D:Dk}(H:aw C g D)(hh:D.h= [])(hst:∀x∈D.ob,ew x=aO->x.az<0)(hC:C+8*jf+140737488355328<=4611686018427387904+1125899906842624)(hg:g+1700<=90000):
 Ud D/\∀E,wP D (aA D.x.ss) E->aAc C g D (pX E):=by
 have jt:=H.hs.sl;have a4e:jf=140737488355328+549755813888:=rfl;have key:∀n E,n<=aA D.x.ss->wP D n E->aw (C+8*jf) (g+912) E/\Sm D E:=λn E hn hB=>by obtain⟨G,S⟩:=H.Px hh (by omega) (by omega) hB hn;refine⟨G.wide ?_ (by omega) (by omega),S⟩;have:(n:Int)*jf<=8*jf:=M3 (by omega) (by omega);omega
 refine⟨⟨by omega,λn E hn hB=> ?_,λE hB=> ?_⟩,λE hB=> ?_⟩
 ·obtain⟨G,S⟩:=H.Px hh (by omega) (by omega) hB (by omega);have h1:(n:Int)*jf+jf<=8*jf:=by
   have:((n:Int)+1)*jf<=8*jf:=M3 (by omega) (by omega);rw [Int.add_mul,Int.one_mul] at this;exact this
  exact G.aDL (S.h.trans hh) (s:=(n:Int)+1) (by rw [S.x];omega) (by omega) (by omega)
 ·obtain⟨G,S⟩:=key _ E (aZ _) hB;exact(G.rest S hh hst (by omega) (by omega)).1
 obtain⟨G,S⟩:=key _ E (aZ _) hB;obtain⟨_,h1,h2,h3,h4,h5,h6,h7,h8,h9⟩:=G.rest S hh hst (by omega) (by omega);exact⟨h1.wide (dM _) (by omega) (by omega),h2,h3,h4,h5,h6,h7,h8,rfl,rfl,h9⟩
theorem aw.tell {C:Int} {g:Nat} {D:Dk}(H:aw C g D) {e:Ev}(he:I5 (aA D.x.ss) e)(hf:kW e=0):aw C (g+1) {D with log:=D.log++ [e]}:=by
 have gZ:∀a,dt (D.log++ [e]) a=B D 1 0 a:=λa=>by rw [Bb,Bc,H.fl a,hf];split<;>simp
 exact⟨H.hs,H.bF,H.h8,H.hl,gZ,H.lg.snoc he (λa=>by rw [gZ];have h5:=H.house a;have h6:=H.bF.big;exact⟨h5.1,by grind⟩),by show aA (D.log++ [_])<=g+1;rw [cN];have:=H.gl;simp;omega,H.who,H.ob,H.bx,H.bl,H.st,H.aj⟩
theorem aw.tells {C:Int}:∀(L:List Ev) {g:Nat} {D:Dk},aw C g D->(∀e∈L,I5 (aA D.x.ss) e/\kW e=0)->aw C (g+aA L) {D with log:=D.log++L}
 | [],g,D,H,_=>by rw [List.append_nil];exact H
 |e::L,g,D,H,h=>by have ih:=aw.tells L (H.tell (h e (by simp)).1 (h e (by simp)).2) (λy hy=>h y (dx _ hy));grind
structure Sq(D D':Dk):Prop where
 x:D'.x=D.x
 l:D'.l=D.l
 h:D'.h=D.h
 bx:D'.bx=D.bx
 who:D'.who=D.who
 aj:D'.aj=D.aj
 st:D'.st=D.st
 en:D'.en=D.en
 lg:∃t,D'.log=D.log++t/\∀e∈t,e.k≠15
theorem Sq.refl(D:Dk):Sq D D:=⟨rfl,rfl,rfl,rfl,rfl,rfl,rfl,rfl,[],by simp,by simp⟩
theorem Sq.trans {D E F:Dk}(h:Sq D E)(h':Sq E F):Sq D F:=by obtain⟨t,e,ht⟩:=h.lg;obtain⟨t',e',AP⟩:=h'.lg;exact⟨h'.x.trans h.x,h'.l.trans h.l,h'.h.trans h.h,h'.bx.trans h.bx,h'.who.trans h.who,h'.aj.trans h.aj,h'.st.trans h.st,h'.en.trans h.en,t++t',by grind,λx hx=>(gN.1 hx).elim (ht x) (AP x)⟩
theorem aFU {x:Ob} {who:List Int}(h1:x.st=1)(h2:nh x who≠1):(nh x who=2/\0<x.az/\x.done=x.az/\vY x who=x.done)\/(nh x who=3/\0<x.az/\x.done≠x.az/\vY x who=x.done)\/(nh x who=3/\x.az<0/\hasB who x.m=aO/\vY x who=0):=by grind [nh,vY]
theorem a2T {E:Dk} {x:Ob}(h:x.st≠1\/nh x E.who=1):yZ E x=E:=by grind [yZ]
theorem aEC {E:Dk} {x:Ob}:Sq E (yZ E x):=by
 unfold yZ;repeat' split
 ·exact Sq.refl E
 ·exact Sq.refl E
 ·exact⟨rfl,rfl,rfl,rfl,rfl,rfl,rfl,rfl,_,rfl,by simp⟩
 exact⟨rfl,rfl,rfl,rfl,rfl,rfl,rfl,rfl,[],by simp,by simp⟩
theorem aw.closes {C:Int}:∀(L:List Ob) {g:Nat} {E:Dk},aw C g E->
 (∀x∈L,x.ok/\(0<=x.a/\x.a<=(aA E.x.ss:Int))/\(x.st=1->(∀y∈E.ob,ew y=aO->y.m=x.m->y.a=x.a->y=x)/\(0<x.az->x.done≠x.az->hasB E.who x.m=aO)))->
 (∀k,k<=aA L->aw C (g+k) (uY E (L.take k)))/\Sq E (uY E L)/\∀y∈(uY E L).ob,ew y=aO->y∈E.ob/\∀x∈L,x.st=1->x.m=y.m->x.a=y.a->nh x E.who=1
 | [],g,E,H,_=>⟨λk hk=>by have:k=0:=by simpa using hk
                          subst this;exact H,Sq.refl E,λy hy _=>⟨hy,by simp⟩⟩
 |x::L,g,E,H,hx=>by
  have e:∀L',uY E (x::L')=uY (yZ E x) L':=λ_=>rfl
  have hr:∀z∈L,z.ok/\(0<=z.a/\z.a<=(aA E.x.ss:Int))/\(z.st=1->(∀y∈E.ob,ew y=aO->y.m=z.m->y.a=z.a->y=z)/\(0<z.az->z.done≠z.az->hasB E.who z.m=aO)):=λz hz=>hx z (dx _ hz)
  obtain⟨xo,xa,xu⟩:=hx x (by simp);by_cases hid:x.st≠1\/nh x E.who=1
  ·rw [e,a2T hid];obtain⟨I1,I2,I3⟩:=aw.closes L H hr;refine⟨λk hk=> ?_,I2,λy hy oy=> ?_⟩
   ·cases k with
    |zero=>exact H
    |succ k=>
     have:=I1 k (by simpa using hk);rw [List.take_succ_cons,e,a2T hid];exact this.wide (dM _) H.bF.big (by omega)
   grind
  have h1:x.st=1:=by omega
  have h2:nh x E.who≠1:=λh=>hid (.inr h)
  obtain⟨xu1,xu2⟩:=xu h1;have F:=aFU h1 h2;obtain⟨A1,A2⟩:=H.ob.mark (m:=x.m) (a:=x.a) (s:=nh x E.who) (n:=vY x E.who) (by omega) (λy hy oy hm ha=>by
   have:=xu1 y hy oy hm ha;subst this;have d0:=xo.d0;have d1:=xo.d1;have hsz:0<y.az->y.size=y.az:=λh=>by unfold Ob.size;rw [ifN (by omega)]
   grind)
  have FP:(yZ E x).ob=lY x.m x.a (nh x E.who) (vY x E.who) E.ob:=by grind [yZ]
  have G:aw C (g+1) (yZ E x):=by
   have h3:=H.obs A1;unfold yZ;rw [ifN (by omega),ifN h2];split
   ·exact h3.tell (e:=⟨9,x.m,x.a,-x.az,0⟩) ⟨xa.1,xa.2,.inl (by grind)⟩ rfl
   exact h3.wide (dM _) H.bF.big (by omega)
  have S:=aEC (E:=E) (x:=x);obtain⟨I1,I2,I3⟩:=aw.closes L G (λz hz=>by obtain⟨z1,z2,z3⟩:=hr z hz;refine⟨z1,by rw [S.x];exact z2,λzs=> ?_⟩;obtain⟨z4,z5⟩:=z3 zs;rw [S.who];grind);rw [e];refine⟨λk hk=> ?_,S.trans I2,λy hy oy=> ?_⟩
  ·cases k with
   |zero=>exact H
   |succ k=>
    grind
  obtain⟨b1,b2⟩:=I3 y hy oy;rw [FP] at b1;obtain⟨c1,c2⟩:=A2 y b1 oy;refine⟨c1,λz hz hz1 hm ha=> ?_⟩;rcases fG.1 hz with rfl|hz
  ·omega
  have:=b2 z hz hz1 hm ha;rw [S.who] at this;exact this
theorem W4 {zs:List Int} {m:Int}:hasB zs m=aO↔m∈zs:=by grind [hasB]
theorem MA.who {M S:Nat} {aj:Int} {w w':List Int} {x:Ob}(h:MA M S aj w x)(hw:∀m∈w,m∈w'):MA M S aj w' x:=
 ⟨h.m,h.a,h.big,h.c,h.st,h.a7S,λe=>⟨W4.2 (hw _ (W4.1 (h.o e).1)),(h.o e).2⟩,h.cmp⟩
theorem a3L {D:Dk} {m:Int}:m∈tQ D↔∃x∈D.ob,x.st=1/\0<x.az/\x.done<x.az/\x.m=m:=by grind [tQ,Rp,BZ]
structure a8m(C:Int)(g:Nat)(D:Dk):Prop where
 ok:T9 D
 jZ:aw C (g+500) (qw D)
 x:(qw D).x=D.x
 l:(qw D).l=D.l
 h:(qw D).h=D.h
 bx:(qw D).bx=D.bx
 aj:(qw D).aj=D.aj
 st:(qw D).st=D.st
 en:(qw D).en=D.en
 lg:∃t,(qw D).log=D.log++t/\∀e∈t,e.k≠15
 op:∀y∈(qw D).ob,ew y=aO->y.az<0
theorem aw.closed {C:Int} {g:Nat} {D:Dk}(H:aw C g D)(hg:g+500<=90000):a8m C g D:=by
 have ir:=H.hs.ml;have l9:=H.ob.len;have hcy:=H.aj;have hfw:ML (aA D.x.ms) (tQ D):=⟨a6J _,λm hm=>by obtain⟨x,hx,_,_,_,rfl⟩:=a3L.1 hm;exact(H.ob.each x hx).m⟩;have gZ:=hfw.len;have hww:ML (aA D.x.ms) (rE (D.who++tQ D)):=⟨a6J _,λm hm=>by
  rw [Rp] at hm;rcases gN.1 hm with h|h
  ·exact H.who.pS m h
  exact hfw.pS m h⟩
 have X9:∀m∈D.who,m∈rE (D.who++tQ D):=λm hm=>(Rp _ _).2 (vP _ hm)
 have hoE:aA (sR D (tQ D))<=16:=by grind [sR]
 have h0:aw C (g+16) (wH D):=by have h1:=(H.tells (sR D (tQ D)) (λe he=>by obtain⟨m,_,rfl⟩:=di.1 he;exact⟨⟨dM _,by grind,.inr (.inr rfl)⟩,rfl⟩)).wide (dM _) H.bF.big (g':=g+16) (by omega);exact⟨h1.hs,h1.bF,h1.h8,h1.hl,h1.fl,h1.lg,h1.gl,hww,⟨λx hx=>(H.ob.each x hx).who X9,H.ob.ok,H.ob.ord,H.ob.cl,H.ob.db,H.ob.len⟩,h1.bx,h1.bl,h1.st,h1.aj⟩
 have hL:∀x∈D.ob,x.ok/\(0<=x.a/\x.a<=((wH D).x.ss.length:Int))/\(x.st=1->(∀y∈(wH D).ob,ew y=aO->y.m=x.m->y.a=x.a->y=x)/\(0<x.az->x.done≠x.az->hasB (wH D).who x.m=aO)):=λx hx=>by
  refine⟨H.ob.ok x hx,(H.ob.each x hx).a,λh1=>⟨λy hy oy hm ha=>H.ob.a8R hy hx oy (uq.2 h1) hm ha,λh2 h3=> ?_⟩⟩;have d1:=(H.ob.ok x hx).d1;have hsz:x.size=x.az:=by grind [Ob.size]
  exact W4.2 ((Rp _ _).2 (Gh _ (a3L.2 ⟨x,hx,h1,h2,by omega,rfl⟩)))
 obtain⟨I1,I2,I3⟩:=h0.closes D.ob hL;have vr:=I1 _ (aZ _);rw [cU] at vr;obtain⟨t,et,ht⟩:=I2.lg;refine⟨⟨H.ok (by omega),by omega,λk hk=>(I1 k hk).ok (by omega)⟩,vr.wide (dM _) H.bF.big (by omega),I2.x,I2.l,I2.h,I2.bx,I2.aj,I2.st,I2.en,⟨sR D (tQ D)++t, ?_, ?_⟩,λy hy oy=> ?_⟩
 ·refine et.trans ?_;show D.log++sR D (tQ D)++t=_;grind
 ·intro e he;rcases gN.1 he with h|h
  ·obtain⟨m,_,rfl⟩:=di.1 h;simp
  exact ht e h
 obtain⟨b1,b2⟩:=I3 y hy oy;have b1':=b1;have h1:=uq.1 oy;have hf:=b2 y b1' h1 rfl rfl;have hne:=(H.ob.ok y b1').ne;grind [nh]
structure a8q(C:Int)(g:Nat)(D D':Dk):Prop where
 jZ:aw (C+140737488355328) (g+600) D'
 x:D'.x=D.x
 aj:D'.aj=D.aj
 en:D'.en=D.en
 h:D'.h= []
 op:∀y∈D'.ob,ew y=aO->y.az<0
 bx:D'.bx=D.bx
 st:D'.st=2
 lg:∃t,D'.log=D.log++t/\∀e∈t,e.k≠15
theorem aw.aLZ {C:Int} {g:Nat} {V:Dk}(h:aw C g V):aw C g {V with h:= []}:=
 ⟨h.hs,h.bF,by simp,by simp,h.fl,h.lg,h.gl,h.who,h.ob,h.bx,h.bl,h.st,h.aj⟩
theorem aw.state {C:Int} {g:Nat} {V:Dk}(h:aw C g V) {s:Int}(hs:0<=s/\s<=2):aw C g {V with st:=s}:=
 ⟨h.hs,h.bF,h.h8,h.hl,h.fl,h.lg,h.gl,h.who,h.ob,h.bx,h.bl,hs,h.aj⟩
theorem aw.due {C:Int} {g:Nat} {D:Dk}(H:aw C g D)(vz:qI D.h)(hC:C+140737488355328<=4611686018427387904+1125899906842624)(hg:g+600<=90000):TA D/\a8q C g D (oL D):=by
 have K:=H.closed (by omega);have h2:aw C (g+500) (gV D):=K.jZ.aLZ;have ir:=h2.hs.ml;have jt:=h2.hs.sl;have hg0:=(h2.DZ 0).bd;have dH:=xj 0;have AD:=h2.house 0;have hdN:ua D=max (ve (gV D) 0-B (gV D) 1 0 0) 0:=by show pV (ie (dy (gV D) 0)) (B (gV D) 1 0 0)=_;rw [h2.a7p 0];grind [Xo,aL]
 have tY:aL (ua D):=by grind [aL]
 have W:=h2.drawn rfl tY hC;have h3:=W.steps _ (aZ _);rw [cU] at h3;have IB:aw (C+140737488355328) (g+600) (mB (gV D) (ua D)):=h3.wide (dM _) hC (by have:=W.len;omega);have h4:aw (C+140737488355328) (g+600) (oL D):=IB.state (by omega);have XH:(oL D).x=(gV D).x:=W.sm.x;refine⟨⟨K.ok,by rw [K.h];exact vz,h2.ok (by omega),by unfold aL;omega,by omega,λm hm=> ?_,tY,λk hk=>(W.steps k hk).ok (by have:=W.len;omega),W.dI,by have:=W.len;omega,h4.ok (by omega),by rw [XH];omega,λs hs=> ?_⟩,⟨h4,W.sm.x.trans K.x,W.sm.aj.trans K.aj,W.sm.en.trans K.en,W.sm.h,λy hy oy=> ?_,W.sm.bx.trans K.bx,rfl, ?_⟩⟩
 ·have:=h2.who.pS m hm;unfold aL;omega
 ·have:=h4.house ((s:Int)+1);unfold aL;omega
 ·have hy':y∈(mB (gV D) (ua D)).ob:=hy;rw [W.sm.ob] at hy';exact K.op y hy' oy
 obtain⟨t1,e1,n1⟩:=K.lg;obtain⟨t2,e2,n2⟩:=W.sm.lg;refine⟨t1++t2, ?_,λe he=>(gN.1 he).elim (n1 e) (n2 e)⟩;show (mB (gV D) (ua D)).log=_;grind [gV]
theorem aw.swap {C:Int} {g:Nat} {D:Dk}(H:aw C g D) {fk tk m n:Int} {e:Ev}(hk:(fk=7/\tk=8)\/(fk=8/\tk=7))(hm:1<=m/\m<=(aA D.x.ms:Int))(h1:1<=n)(h0:uo D fk m tk m 0 n=0)(hc:tk=8->B D 8 m 0+n<=1099511627776)(he:I5 (aA D.x.ss) e)(hf:kW e=0):
 aw C (g+1) {D with l:=bj D fk m tk m 0 n,log:=D.log++ [e]}/\∀k q b,balA (aA D.x.ms) (aA D.x.ss+1) (bj D fk m tk m 0 n) k q b=balA (aA D.x.ms) (aA D.x.ss+1) D.l k q b+((if k=fk/\q=m/\b=0 then-n else 0)+(if k=tk/\q=m/\b=0 then n else 0)):=by
 have hi:∃i,plcA (aA D.x.ms) (aA D.x.ss+1) fk m 0=aC i:=CD (by omega) hm (by omega) (by omega);have hj:∃i,plcA (aA D.x.ms) (aA D.x.ss+1) tk m 0=aC i:=CD (by omega) hm (by omega) (by omega);obtain⟨i,hi⟩:=hi;obtain⟨j,hj⟩:=hj;have hd:=Rl h0 H.bF.ok.len hi hj;have dU:nT (aA D.x.ms) (aA D.x.ss+1) (bj D fk m tk m 0 n):=nT.mv H.bF.ok H.hs.sl.2;have k1:∀b,balA (aA D.x.ms) (aA D.x.ss+1) (bj D fk m tk m 0 n) 1 0 b=balA (aA D.x.ms) (aA D.x.ss+1) D.l 1 0 b:=λb=>by grind
 have k2:∀b,balA (aA D.x.ms) (aA D.x.ss+1) (bj D fk m tk m 0 n) 2 0 b=balA (aA D.x.ms) (aA D.x.ss+1) D.l 2 0 b:=λb=>by grind
 have Nb:∀q b,balA (aA D.x.ms) (aA D.x.ss+1) (bj D fk m tk m 0 n) 7 q b+balA (aA D.x.ms) (aA D.x.ss+1) (bj D fk m tk m 0 n) 8 q b=balA (aA D.x.ms) (aA D.x.ss+1) D.l 7 q b+balA (aA D.x.ms) (aA D.x.ss+1) D.l 8 q b:=λq b=>by grind
 have gZ:∀b,dt (D.log++ [e]) b=balA (aA D.x.ms) (aA D.x.ss+1) (bj D fk m tk m 0 n) 1 0 b:=λb=>by rw [Bb,Bc,H.fl b,hf,k1];split<;>omega
 refine⟨⟨H.hs,⟨dU, ?_, ?_, ?_, ?_, ?_, ?_, ?_,H.bF.big,H.bF.F0⟩,H.h8,H.hl,gZ,H.lg.snoc he (λb=>by rw [gZ];refine⟨dU.nn rfl 0 b, ?_⟩;rw [k1];have:=(H.house b).2;have:=H.bF.big;omega), ?_,H.who,H.ob,H.bx,H.bl,H.st,H.aj⟩,hd⟩
 ·intro q b;show balA (aA D.x.ms) (aA D.x.ss+1) (bj D fk m tk m 0 n) 8 q b<=_;rw [hd];have h8:=H.bF.tP q b;grind
 ·intro q b;show balA (aA D.x.ms) (aA D.x.ss+1) (bj D fk m tk m 0 n) 9 q b<=_;rw [hd,ifN (by omega),ifN (by omega)];have:=H.bF.zu q b;grind
 ·intro b;show balA (aA D.x.ms) (aA D.x.ss+1) (bj D fk m tk m 0 n) 3 0 b<=_;rw [hd,ifN (by omega),ifN (by omega)];have:=H.bF.AU b;grind
 ·intro b;show balA (aA D.x.ms) (aA D.x.ss+1) (bj D fk m tk m 0 n) 4 0 b<=_;rw [hd,ifN (by omega),ifN (by omega)];have:=H.bF.cap b;grind
 ·intro q b;show _<=balA (aA D.x.ms) (aA D.x.ss+1) (bj D fk m tk m 0 n) 7 q b+balA (aA D.x.ms) (aA D.x.ss+1) (bj D fk m tk m 0 n) 8 q b-balA (aA D.x.ms) (aA D.x.ss+1) (bj D fk m tk m 0 n) 1 0 b;rw [Nb,k1];exact H.bF.lo q b
 ·intro q b;show balA (aA D.x.ms) (aA D.x.ss+1) (bj D fk m tk m 0 n) 7 q b+balA (aA D.x.ms) (aA D.x.ss+1) (bj D fk m tk m 0 n) 8 q b+balA (aA D.x.ms) (aA D.x.ss+1) (bj D fk m tk m 0 n) 1 0 b<=_;rw [Nb,k1];exact H.bF.hi q b
 ·intro b;show balA (aA D.x.ms) (aA D.x.ss+1) (bj D fk m tk m 0 n) 2 0 b+balA (aA D.x.ms) (aA D.x.ss+1) (bj D fk m tk m 0 n) 1 0 b<=_;rw [k2,k1];exact H.bF.es b
 show aA (D.log++ [e])<=g+1;rw [cN];have:=H.gl;simp;omega
theorem Ri {x:ak} {m:Int}(h:jd x m=0):1<=m/\m<=(aA x.ms:Int):=by
 unfold jd at h;split at h
 ·rename_i h';exact h'
 cases h
theorem SK {x:ak} {a:Int}(h:jM x a=0):1<=a/\a<=(aA x.ss:Int):=by
 unfold jM at h;split at h
 ·rename_i h';exact h'
 cases h
theorem a5p {D:Dk} {m n:Int}(h:ny D m n=0):(1<=m/\m<=(aA D.x.ms:Int))/\1<=n:=by
 refine⟨?_,a5m h⟩;unfold ny at h;by_cases h0:jd D.x m=0
 ·exact Ri h0
 omega
structure DA(D D':Dk):Prop where
 x:D'.x=D.x
 h:D'.h=D.h
 ob:D'.ob=D.ob
 bx:D'.bx=D.bx
 aj:D'.aj=D.aj
 st:D'.st=D.st
 en:D'.en=D.en
 k1:∀b,B D' 1 0 b=B D 1 0 b
 k2:∀b,B D' 2 0 b=B D 2 0 b
 Nb:∀q b,B D' 7 q b+B D' 8 q b=B D 7 q b+B D 8 q b
 lg:∃t,D'.log=D.log++t/\∀e∈t,e.k≠15
theorem DA.refl(D:Dk):DA D D:=⟨rfl,rfl,rfl,rfl,rfl,rfl,rfl,λ_=>rfl,λ_=>rfl,λ_ _=>rfl,[],by simp,by simp⟩
theorem a8G {D:Dk} {fk tk m n:Int} {e:Ev}(hk:(fk=7/\tk=8)\/(fk=8/\tk=7))(he:e.k≠15)(hd:∀k q b,balA (aA D.x.ms) (aA D.x.ss+1) (bj D fk m tk m 0 n) k q b=balA (aA D.x.ms) (aA D.x.ss+1) D.l k q b+((if k=fk/\q=m/\b=0 then-n else 0)+(if k=tk/\q=m/\b=0 then n else 0))):DA D {D with l:=bj D fk m tk m 0 n,log:=D.log++ [e]}:=by
 refine⟨rfl,rfl,rfl,rfl,rfl,rfl,rfl,λb=> ?_,λb=> ?_,λq b=> ?_,[e],rfl,by simpa using he⟩
 ·grind
 ·grind
 grind
theorem aw.top {C:Int} {g:Nat} {D:Dk}(H:aw C g D)(m n:Int):aw C (g+1) (Ah D m n)/\DA D (Ah D m n):=by
 by_cases h:EC D m n=0
 ·have e:Ah D m n=OA D m n:=by grind [Ah]
  rw [e];unfold EC at h;have hm:ny D m n=0:=by omega
  rw [ifN (by rw [hm];simp)] at h;obtain⟨mZ,hn⟩:=a5p hm;have hc8:=H.bF.tP m 0;have hn8:=H.bF.ok.nn (k:=8) rfl m 0;have hle:n<=1099511627776-balA (aA D.x.ms) (aA D.x.ss+1) D.l 8 m 0:=by grind [pV,Xa]
  obtain⟨i,hi⟩:=CD (M:=aA D.x.ms) (A:=aA D.x.ss+1) (k:=7) (.inl rfl) mZ (a:=0) (by omega) (by omega);obtain⟨j,hj⟩:=CD (M:=aA D.x.ms) (A:=aA D.x.ss+1) (k:=8) (.inr (.inl rfl)) mZ (a:=0) (by omega) (by omega);have ho:=H.own m 0;have l7:=H.bF.big;have hh:=H.house 0;have h0:uo D 7 m 8 m 0 n=0:=Ni hi hj (by omega) (by omega) (by unfold aL;omega) (.inl rfl) (by unfold aL;omega) (by unfold aL;omega) H.bF.ok.len;obtain⟨G,hd⟩:=H.swap (e:=⟨17,m,0,n,0⟩) (.inl ⟨rfl,rfl⟩) mZ hn h0 (λ_=>by grind) ⟨dM _,by grind,.inl hn⟩ rfl;exact⟨G,a8G (.inl ⟨rfl,rfl⟩) (by simp) hd⟩
 have e:Ah D m n=D:=by grind [Ah]
 rw [e];exact⟨H.wide (dM _) H.bF.big (by omega),DA.refl D⟩
theorem aw.take {C:Int} {g:Nat} {D:Dk}(H:aw C g D)(m n:Int):aw C (g+1) (Ae D m n)/\DA D (Ae D m n):=by
 by_cases h:Fz D m n=0
 ·have e:Ae D m n=O9 D m n:=by grind [Ae]
  rw [e];unfold Fz at h;have hm:ny D m n=0:=by omega
  rw [ifN (by rw [hm];simp)] at h;obtain⟨mZ,hn⟩:=a5p hm;obtain⟨G,hd⟩:=H.swap (e:=⟨18,m,0,n,0⟩) (.inr ⟨rfl,rfl⟩) mZ hn h (λe=>by omega) ⟨dM _,by grind,.inl hn⟩ rfl;exact⟨G,a8G (.inr ⟨rfl,rfl⟩) (by simp) hd⟩
 have e:Ae D m n=D:=by grind [Ae]
 rw [e];exact⟨H.wide (dM _) H.bF.big (by omega),DA.refl D⟩
structure o8(Cf:Int)(D:Dk):Prop where
 hd:∀a,B D 1 0 a=dW (oJ a) D.ob
 lo:∀m a,-Cf<=B D 7 m a+B D 8 m a+dW (oI m a) D.ob
 hi:∀m a,B D 7 m a+B D 8 m a+dW (oI m a) D.ob<=Cf
 es:∀a,B D 2 0 a<=Cf
theorem Rv {f f':Ob->Int}:∀ {L:List Ob},(∀x∈L,f x<=f' x)->dW f L<=dW f' L
 | [],_=>dM _
 |x::L,h=>by have h1:=h x (by simp);have ih:=Rv (L:=L) (λy hy=>h y (dx _ hy));grind [dW]
theorem E4 {f:Ob->Int} {L:List Ob}(h:∀x∈L,f x=0):dW f L=0:=by
 induction L with
 |nil=>rfl
 |cons x L ih=>
  grind [dW]
theorem a6P {f:Ob->Int} {L:List Ob}(h:∀x∈L,0<=f x):0<=dW f L:=by
 have:=Rv (f:=λ_=>0) (f':=f) h
 rwa [E4 (λ_ _=>rfl)] at this
theorem KE {M S:Nat} {aj:Int} {who:List Int} {L:List Ob}(h:kq M S aj who L)(m a:Int):0<=dW (oI m a) L/\dW (oI m a) L<=dW (oJ a) L/\dW (oJ a) L<=288230376151711744:=by
 have h1:∀x∈L,0<=oI m a x:=λx hx=>by have:=(h.ok x hx).d0;unfold oI;split<;>omega
 have h2:∀x∈L,oI m a x<=oJ a x:=λx hx=>by have:=(h.ok x hx).d0;grind [oI,oJ]
 have h3:∀x∈L,oJ a x<=vW a x:=λx hx=>by have d1:=(h.ok x hx).d1;grind [oJ,vW,Ob.size]
 have:=h.db a;have:=xj a;have:=Rv h3;exact⟨a6P h1,Rv h2,by omega⟩
theorem o8.dr {Cf:Int} {D:Dk}(F:o8 Cf D) {M S:Nat} {aj:Int} {who:List Int}(h:kq M S aj who D.ob):
 (∀m a,-(Cf+576460752303423488)<=B D 7 m a+B D 8 m a-B D 1 0 a)/\(∀m a,B D 7 m a+B D 8 m a+B D 1 0 a<=Cf+576460752303423488)/\∀a,B D 2 0 a+B D 1 0 a<=Cf+576460752303423488:=by
 refine⟨λm a=> ?_,λm a=> ?_,λa=> ?_⟩
 ·have:=KE h m a;have:=F.lo m a;have:=F.hd a;omega
 ·have:=KE h m a;have:=F.hi m a;have:=F.hd a;omega
 have:=KE h 0 a;have:=F.es a;have:=F.hd a;omega
theorem o8.swp {Cf:Int} {D D':Dk}(F:o8 Cf D)(S:DA D D'):o8 Cf D':=
 ⟨λa=>by rw [S.k1,S.ob];exact F.hd a,λm a=>by rw [S.Nb,S.ob];exact F.lo m a,λm a=>by rw [S.Nb,S.ob];exact F.hi m a,λa=>by rw [S.k2];exact F.es a⟩
section
structure D8(D D':Dk):Prop where
 x:D'.x=D.x
 h:D'.h=D.h
 bx:D'.bx=D.bx
 aj:D'.aj=D.aj
 st:D'.st=D.st
 en:D'.en=D.en
 lg:∃t,D'.log=D.log++t/\∀e∈t,e.k≠15
theorem D8.refl(D:Dk):D8 D D:=⟨rfl,rfl,rfl,rfl,rfl,rfl,[],by simp,by simp⟩
theorem a7V {D:Dk} {m a:Int}(h:oW D m a=0):(1<=m/\m<=(aA D.x.ms:Int))/\0<=a/\a<=(aA D.x.ss:Int):=by
 unfold oW at h;by_cases h0:jd D.x m=0
 ·refine⟨Ri h0, ?_⟩;rw [ifN (by omega)] at h;by_cases ha:a=0
  ·omega
  rw [ifN ha] at h;have:=SK h;omega
 omega
section
variable {C Cf:Int} {g:Nat} {D:Dk}
theorem kq.paid {M S:Nat} {aj:Int} {who:List Int} {L:List Ob}(h:kq M S aj who L) {m a d:Int} {x:Ob} {i:Nat}(hx:L[i]? =aC x)(ho:ew x=aO)(hm:x.m=m)(ha:x.a=a)(hn:0<x.az)(h0:0<=x.done+d)(h1:x.done+d<=x.az):
 kq M S aj who (L.modify i λx=> {x with done:=x.done+d})/\(∀b,dW (oJ b) (L.modify i λx=> {x with done:=x.done+d})=dW (oJ b) L+if b=a then d else 0)/\∀q b,dW (oI q b) (L.modify i λx=> {x with done:=x.done+d})=dW (oI q b) L+if q=m/\b=a then d else 0:=by
 have hs:=uq.1 ho;have Ki:=zV hx;have E:=h.each x Ki;have K:=h.ok x Ki;have hsz:x.size=x.az:=by grind [Ob.size]
 refine⟨h.mod hx rfl rfl (λo=>o) ⟨E.m,E.a,E.big,E.c,E.st,λe=> ?_,λe=> ?_,λe=> ?_⟩ ⟨K.lo,K.hi,K.ne,h0, ?_⟩ (λb=>dM _) (λb=>dM _),λb=> ?_,λq b=> ?_⟩
 ·grind
 ·grind
 ·grind
 ·show x.done+d<=x.size;omega
 ·grind [Nr,oJ]
 grind [Nr,oI]
theorem aw.moved(H:aw (Cf+576460752303423488) g D)(F:o8 Cf D) {m a d n fk fm tk tm:Int} {e:Ev} {cT:List Ob}(X7:(1<=m/\m<=(aA D.x.ms:Int))/\0<=a/\a<=(aA D.x.ss:Int))(hk:(fk=7/\fm=m/\tk=1/\tm=0/\d=n)\/(fk=1/\fm=0/\tk=7/\tm=m/\d= -n))(h1:1<=n)
 (ho:kq (aA D.x.ms) (aA D.x.ss) D.aj D.who cT) (IL:∀b,dW (oJ b) cT=dW (oJ b) D.ob+if b=a then d else 0) (hdm:∀q b,dW (oI q b) cT=dW (oI q b) D.ob+if q=m/\b=a then d else 0) (he:e.a=a/\e.n=n/\kW e=d):
 aw (Cf+576460752303423488) (g+1) {D with ob:=cT,l:=bj D fk fm tk tm a n,log:=D.log++ [e]}/\o8 Cf {D with ob:=cT,l:=bj D fk fm tk tm a n,log:=D.log++ [e]}:=by
 have l7:=H.bF.big;have hha:=F.hd a;have Vr:B D 1 0 a=balA (aA D.x.ms) (aA D.x.ss+1) D.l 1 0 a:=rfl;have hdb:=KE H.ob m a;have aMo:=KE ho m a;have aGU:=IL a;rw [ifP rfl] at aGU;have ho7:=H.own m a;have hoh:=H.house a;obtain⟨ih,Qq⟩:=L3 (M:=aA D.x.ms) (A:=aA D.x.ss+1) X7.2.1 (by omega);obtain⟨io,WY⟩:=CD (M:=aA D.x.ms) (A:=aA D.x.ss+1) (k:=7) (.inl rfl) X7.1 X7.2.1 (by omega);have hP:∃i j,plcA (aA D.x.ms) (aA D.x.ss+1) fk fm a=aC i/\plcA (aA D.x.ms) (aA D.x.ss+1) tk tm a=aC j:=by grind
 obtain⟨i,j,hi,hj⟩:=hP;have h0:uo D fk fm tk tm a n=0:=by
  rcases hk with⟨rfl,rfl,rfl,rfl,hd⟩|⟨rfl,rfl,rfl,rfl,hd⟩
  ·exact Ni hi hj (by omega) (by omega) (by unfold aL;omega) (.inl rfl) (by unfold aL;omega) (by unfold aL;omega) H.bF.ok.len
  exact Ni hi hj (by omega) (by omega) (by unfold aL;omega) (.inr ⟨by omega,by rw [WL H.h8 (by decide)];omega⟩) (by unfold aL;omega) (by unfold aL;omega) H.bF.ok.len
 have hd:=Rl h0 H.bF.ok.len hi hj;have dU:nT (aA D.x.ms) (aA D.x.ss+1) (bj D fk fm tk tm a n):=nT.mv H.bF.ok H.hs.sl.2;have k1:∀b,balA (aA D.x.ms) (aA D.x.ss+1) (bj D fk fm tk tm a n) 1 0 b=balA (aA D.x.ms) (aA D.x.ss+1) D.l 1 0 b+if b=a then d else 0:=λb=>by grind
 have k7:∀q b,balA (aA D.x.ms) (aA D.x.ss+1) (bj D fk fm tk tm a n) 7 q b=balA (aA D.x.ms) (aA D.x.ss+1) D.l 7 q b-if q=m/\b=a then d else 0:=λq b=>by grind
 have ko:∀k q b,k≠1->k≠7->balA (aA D.x.ms) (aA D.x.ss+1) (bj D fk fm tk tm a n) k q b=balA (aA D.x.ms) (aA D.x.ss+1) D.l k q b:=λk q b e1 e7=>by grind
 have hF:o8 Cf {D with ob:=cT,l:=bj D fk fm tk tm a n,log:=D.log++ [e]}:=by
  refine⟨λb=> ?_,λq b=> ?_,λq b=> ?_,λb=> ?_⟩
  ·have:=F.hd b;grind
  ·have:=F.lo q b;grind
  ·have:=F.hi q b;grind
  exact kD (rX (ko 2 0 b (by decide) (by decide))) (F.es b)
 obtain⟨r1,r2,r3⟩:=hF.dr ho;have gZ:∀b,dt (D.log++ [e]) b=balA (aA D.x.ms) (aA D.x.ss+1) (bj D fk fm tk tm a n) 1 0 b:=λb=>by rw [Bb,Bc,H.fl b,he.1,he.2.2,k1];omega
 refine⟨⟨H.hs,⟨dU, ?_, ?_, ?_, ?_,r1,r2,r3,H.bF.big,H.bF.F0⟩,H.h8,H.hl,gZ,H.lg.snoc ⟨by omega,by omega,.inl (by rw [he.2.1];exact h1)⟩ (λb=>by rw [gZ];refine⟨dU.nn rfl 0 b, ?_⟩;have h5:=(KE ho m b).2.2;have h6:=hF.hd b;have h7:B {D with ob:=cT,l:=bj D fk fm tk tm a n,log:=D.log++ [e]} 1 0 b=balA (aA D.x.ms) (aA D.x.ss+1) (bj D fk fm tk tm a n) 1 0 b:=rfl;have h8:dW (oJ b) ({D with ob:=cT,l:=bj D fk fm tk tm a n,log:=D.log++ [e]}:Dk).ob=dW (oJ b) cT:=rfl;omega), ?_,H.who,ho,H.bx,H.bl,H.st,H.aj⟩,hF⟩
 ·intro q b;exact kD (rX (ko 8 q b (by decide) (by decide))) (H.bF.tP q b)
 ·intro q b;exact kD (rX (ko 9 q b (by decide) (by decide))) (H.bF.zu q b)
 ·intro b;exact kD (rX (ko 3 0 b (by decide) (by decide))) (H.bF.AU b)
 ·intro b;exact kD (rX (ko 4 0 b (by decide) (by decide))) (H.bF.cap b)
 show aA (D.log++ [e])<=g+1;rw [cN];have:=H.gl;simp;omega
theorem aw.pay(H:aw (Cf+576460752303423488) g D)(F:o8 Cf D)(m a n:Int):
 aw (Cf+576460752303423488) (g+1) (pU D m a n 7 m 1 0 5 (j9 m a n D.ob) (kg m a n D.ob))/\o8 Cf (pU D m a n 7 m 1 0 5 (j9 m a n D.ob) (kg m a n D.ob))/\D8 D (pU D m a n 7 m 1 0 5 (j9 m a n D.ob) (kg m a n D.ob)):=by
 unfold pU;by_cases hs:oW D m a≠0
 ·rw [ifP hs];exact⟨H.wide (dM _) H.bF.big (by omega),F,D8.refl D⟩
 rw [ifN hs];by_cases hp:j9 m a n D.ob≠0
 ·rw [ifP hp];have e:kg m a n D.ob=D.ob:=by grind [kg]
  rw [e];exact⟨H.wide (dM _) H.bF.big (by omega),F,D8.refl D⟩
 rw [ifN hp];have gR:j9 m a n D.ob=0:=by omega
 have e:kg m a n D.ob=D.ob.modify (dV m a D.ob) λx=> {x with done:=x.done+n}:=by grind [kg]
 cases hf:D.ob[dV m a D.ob]? with
 |none=>grind [j9]
 |some x=>
  unfold j9 at gR;rw [hf] at gR;simp only at gR;obtain⟨ho,hm,ha⟩:=Mg hf;have K:=H.ob.ok x (zV hf);have hd0:=K.d0;by_cases c1:x.az<0
  ·omega
  rw [ifN c1] at gR;by_cases c2:n<1
  ·omega
  rw [ifN c2] at gR;by_cases c3:x.az-x.done<n
  ·omega
  obtain⟨A1,A2,A3⟩:=H.ob.paid (d:=n) hf ho hm ha (by omega) (by omega) (by omega);rw [e];obtain⟨G,F'⟩:=H.moved F (d:=n) (n:=n) (fk:=7) (fm:=m) (tk:=1) (tm:=0) (e:=⟨5,m,a,n,0⟩) (a7V (by omega)) (.inl ⟨rfl,rfl,rfl,rfl,rfl⟩) (by omega) A1 A2 A3 ⟨rfl,rfl,rfl⟩;exact⟨G,F',⟨rfl,rfl,rfl,rfl,rfl,rfl,_,rfl,by simp⟩⟩
theorem aw.aJz(H:aw (Cf+576460752303423488) g D)(F:o8 Cf D)(m a n:Int):
 aw (Cf+576460752303423488) (g+1) (pU D m a n 1 0 7 m 6 (lK m a n D.ob) (o7 m a n D.ob))/\o8 Cf (pU D m a n 1 0 7 m 6 (lK m a n D.ob) (o7 m a n D.ob))/\D8 D (pU D m a n 1 0 7 m 6 (lK m a n D.ob) (o7 m a n D.ob)):=by
 unfold pU;by_cases hs:oW D m a≠0
 ·rw [ifP hs];exact⟨H.wide (dM _) H.bF.big (by omega),F,D8.refl D⟩
 rw [ifN hs];by_cases hp:lK m a n D.ob≠0
 ·rw [ifP hp];have e:o7 m a n D.ob=D.ob:=by grind [o7]
  rw [e];exact⟨H.wide (dM _) H.bF.big (by omega),F,D8.refl D⟩
 rw [ifN hp];have gR:lK m a n D.ob=0:=by omega
 have e:o7 m a n D.ob=D.ob.modify (dV m a D.ob) λx=> {x with done:=x.done+ -n}:=by grind [o7]
 cases hf:D.ob[dV m a D.ob]? with
 |none=>grind [lK]
 |some x=>
  unfold lK at gR;rw [hf] at gR;simp only at gR;obtain⟨ho,hm,ha⟩:=Mg hf;have K:=H.ob.ok x (zV hf);have Dd:=K.d1;by_cases c1:x.az<0
  ·omega
  rw [ifN c1] at gR;by_cases c2:n<1
  ·omega
  rw [ifN c2] at gR;by_cases c3:x.done<n
  ·omega
  have hsz:x.size=x.az:=by grind [Ob.size]
  obtain⟨A1,A2,A3⟩:=H.ob.paid (d:= -n) hf ho hm ha (by omega) (by omega) (by omega);rw [e];obtain⟨G,F'⟩:=H.moved F (d:= -n) (n:=n) (fk:=1) (fm:=0) (tk:=7) (tm:=m) (e:=⟨6,m,a,n,0⟩) (a7V (by omega)) (.inr ⟨rfl,rfl,rfl,rfl,rfl⟩) (by omega) A1 A2 A3 ⟨rfl,rfl,rfl⟩;exact⟨G,F',⟨rfl,rfl,rfl,rfl,rfl,rfl,_,rfl,by simp⟩⟩
theorem aDH {x:ak} {d:Bd}(hx:Gd x)(h:nY x d=0):(1<=d.m/\d.m<=(aA x.ms:Int))/\(1<=d.c/\d.c<=(aA x.ss:Int))/\(1<=d.q/\d.q<=274877906944)/\1<=d.p/\d.p<=1048576:=by
 unfold nY at h;by_cases c1:Hm x d=aO
 ·grind
 rw [ifN c1] at h;by_cases c2:Hn x d=aO
 ·grind
 rw [ifN c2] at h;by_cases c3:Ho d=aO
 ·grind
 rw [ifN c3] at h;by_cases c4:K9 d=aO
 ·grind
 rw [ifN c4] at h;by_cases c5:Hp x d=aO
 ·grind
 have hm:jd x d.m=0:=by simpa [Hm] using c1
 have hs:jM x d.c=0:=by simpa [Hn] using c2
 have h3:¬(d.q<1\/d.p<1):=by simpa [Ho] using c3
 have h4:¬d.q>274877906944:=by simpa [K9] using c4
 have h5:¬d.p>(df x d.c).b:=by simpa [Hp] using c5
 have hc:=SK hs;have hb:(df x d.c).b<=1048576:=by
  unfold df;rw [ifP (show tx x d.c from hc)];have hl:(d.c-1).toNat<aA x.ss:=by omega
  rw [tC,iG hl];exact(hx.sI _ (cK hl)).2.2
 exact⟨Ri hm,hc,by omega,by omega⟩
structure Bdd(D D':Dk):Prop where
 x:D'.x=D.x
 h:D'.h=D.h
 l:D'.l=D.l
 ob:D'.ob=D.ob
 aj:D'.aj=D.aj
 st:D'.st=D.st
 en:D'.en=D.en
 bx:D'.bx=D.bx\/D.st=2
 lg:∃t,D'.log=D.log++t/\∀e∈t,e.k≠15
theorem aw.MR(H:aw C g D)(d:Bd):aw C (g+1) (qL D d)/\Bdd D (qL D d):=by
 by_cases h:xJ D d=0
 ·have e:qL D d=Pw D d:=by grind [qL]
  rw [e];unfold xJ at h;by_cases hs:D.st≠2
  ·omega
  rw [ifN hs] at h;by_cases hb:nY D.x d≠0
  ·omega
  rw [ifN hb] at h;by_cases hw:hasB D.who d.m=aO
  ·grind
  rw [ifN hw] at h;by_cases hv:jP D d.c=0
  ·omega
  rw [ifN hv] at h;unfold xG at h;rw [ifN hb] at h;have hlen:¬D.x.bT<=(aA D.bx:Int):=λh'=>by omega
  have bQ:=H.hs.bd;have I:=aDH H.hs (show nY D.x d=0 by omega);have G:=H.tell (e:=⟨11,d.m,d.c,d.q,(aA D.bx:Int)+1⟩) ⟨by show 0<=d.c;omega,I.2.1.2,.inl I.2.2.1.1⟩ rfl;refine⟨⟨G.hs,G.bF,G.h8,G.hl,G.fl,G.lg,G.gl,G.who,G.ob,λy hy=> ?_, ?_,G.st,G.aj⟩,⟨rfl,rfl,rfl,rfl,rfl,rfl,rfl,.inr (by omega),_,rfl,by simp⟩⟩
  ·have hy':=hy;rcases gN.1 hy' with h|h
   ·exact H.bx y h
   obtain rfl:=List.mem_singleton.1 h;exact⟨I.1,I.2.1,I.2.2.1,I.2.2.2,by grind [aL]⟩
  show aA (D.bx++ [_])<=32;grind
 have e:qL D d=D:=by grind [qL]
 rw [e];exact⟨H.wide (dM _) H.bF.big (by omega),⟨rfl,rfl,rfl,rfl,rfl,rfl,rfl,.inl rfl,[],by simp,by simp⟩⟩
end
end
def tq(x:ak)(a:Int):Int:=if jM x a=0 then (df x a).a else 1
def DV(D:Dk):List Ob:=D.ob.filter λx=>x.st==1&&(λx=>decide (0<x.az)) x
def O1(x:ak)(m:Int)(n:Int)(o:Ob):Int:=if o.m=m then fV (n+fV (o.az*tq x o.a)) else n
def Fv(x:ak)(m:Int)(L:List Ob):Int:=L.foldl (O1 x m) 0
def AZ(D:Dk)(m:Int):Int:=Fv D.x m (DV D)
theorem aK3 {x:ak} {m:Int} {L:List Ob} {k:Nat}(h:k<aA L):Fv x m (L.take (k+1))=O1 x m (Fv x m (L.take k)) L[k]:=by rw [fH h];unfold Fv;rw [List.foldl_append];rfl
theorem aFA(db:Nat)(p:Dp)(D:Dk)(m:Int)(w:aJ)(H:bV w db p D)(hO:fZ D)(hI:∀x∈D.ob,aL x.a):
 aQ aM 58 #[π db,ν m] w λe w'=>e=aT (ν (AZ D m))/\β w w':=by
 have HC:=η (λW (hW:β w W)=>(H.below hW).cells);have uO:Hid (aA D.ob<=1024):=η hO.ob.len;have zE:=η (aIb D.ob p.sv p.sb 0 w H.sh (by have:=uO.o;omega));have hde:(D.ob.filter λx=>x.st==1&&(λx=>decide (0<x.az)) x)=DV D:=rfl;rw [hde] at zE;have U4:Hid (AZ D m=Fv D.x m (DV D)):=η rfl;have aMp:aA (DV D)<=1024:=bz (qo _ _) uO.o;have EP:Hid (∀x∈DV D,aL x.a):=η (λx hx=>hI x (jG.1 hx).1);have pB:=η (λW (hW:β w W) a (ha:aL a)=>O3 D.x a W (H.below hW).src ha);have c9:=H.cells.c9;generalize AZ D m=R at*;unfold ak.val at pB;generalize DV D=L at*;go_enter func58,ntmps58
 go_upto_region 3 with (go_at_call 116;refine zE.o.mono ?_;rintro e w1 ⟨v1,rfl,eT,hb1⟩;obtain⟨A1,k1,AQ⟩:=bL eT;subst AQ;have cj:=η (aW.cB eT);have aR:=η hb1)
 clear zE c9;go_loopw [5,7,8,9,10,17] (λn _ _ _ _ i wr=>∃k:Nat,k<=aA L/\i=ν (k:Int)/\n=ν (Fv D.x m (L.take k))/\Hid (β w1 wr)) (λ_ _ _ _ _ i _=>aA L-(ag i).toNat)
 case atStart=>exact⟨0,bM _,rfl,rfl,η (aX _ _)⟩
 case round=>
  skip
  obtain⟨k,hk,rfl,rfl,HB⟩:=hrel;by_cases hlt:k<aA L
  ·obtain⟨bl,ol,kJ,hbl,l0,l1,l2,l3,l4,l5⟩:=xw ((cj.o.below HB.o).mono HB.o.size) hlt;have ej:(0:Int)<=(k:Int):=by omega
   have hkb:(k:Int)<(aA L:Int):=by omega
   have HL:=η (aK3 (x:=D.x) (m:=m) hlt);have P7:=η (EP.o _ (cK hlt));subst kJ;generalize Fv D.x m (L.take k)=n at*;generalize L[k]=x at*;obtain⟨xc,xm,xa,xn,xd,xs⟩:=x;simp only at l0 l1 l2 l3 l4 l5;have jm:Hid (O1 D.x m n ⟨xc,xm,xa,xn,xd,xs⟩=if xm=m then fV (n+fV (xn*tq D.x xa)) else n):=η rfl;have gK:Hid (β wr (wr.alloc (aK #[ν xc,ν xm,ν xa,ν xn,ν xd,ν xs] 59))):=η σ;have qj:Hid ((wr.alloc (aK #[ν xc,ν xm,ν xa,ν xn,ν xd,ν xs] 59)).heap[wr.heap.size]? =aC (aK #[ν xc,ν xm,ν xa,ν xn,ν xd,ν xs] 59 (0,0))):=η (cQ wr _);have wD:wr.heap.size<(wr.alloc (aK #[ν xc,ν xm,ν xa,ν xn,ν xd,ν xs] 59)).heap.size:=by simp
   go_upto_region 5 with (fail)
   generalize wr.alloc (aK #[ν xc,ν xm,ν xa,ν xn,ν xd,ν xs] 59)=w6 at*;obtain⟨bx,bU⟩:∃bx,bx=wr.heap.size:=⟨_,rfl⟩;rw [<-bU] at qj wD ⊢;clear bU l0 l1 l2 l3 l4 l5;have cC:Hid (β w1 w6):=η (HB.o.trans (gK.o.mono HB.o.size));have fQ:Hid (∀W,β w6 W->W.cell? ⟨bx,1,aB⟩=aC (ν xm)/\W.cell? ⟨bx,2,aB⟩=aC (ν xa)/\W.cell? ⟨bx,3,aB⟩=aC (ν xn)):=η (λW hW=>by have hd:=(hW.block bx wD).trans qj.o;exact⟨ρ hd,ρ hd,ρ hd⟩);have e1:=(fQ.o _ (aX _ _)).1;clear HB gK qj;by_cases h1:xm=m
   case neg=>
    have hb:(xm==m)=aP:=by simpa using h1
    rw [ifN h1] at jm;clear h1;go_wp2_with fail
    go_roundw
    case rel=>exact⟨k+1,by omega,by go_num,by rw [HL.o,jm.o],cC⟩
    case measure=>simp [ag];omega
   subst h1;rw [ifP rfl] at jm;have eJ:Hid (∀W,β w6 W->β w W):=η (λW hW=>aR.o.trans ((cC.o.trans (hW.mono cC.o.size)).mono aR.o.size));have uR:Hid (∀W,β w6 W->W.cell? ⟨db,0,aB⟩=aC (aH D.x.Am (aA D.x.ms) D.x.cm)/\W.cell? ⟨db,1,aB⟩=aC (aH D.x.As (aA D.x.ss) D.x.cs)/\W.cell? ⟨db,2,aB⟩=aC (aH D.x.Ac (aA D.x.cy) D.x.cc)/\W.cell? ⟨db,3,aB⟩=aC (ν D.x.line)/\W.cell? ⟨db,4,aB⟩=aC (ν D.x.bW)/\W.cell? ⟨db,5,aB⟩=aC (ν D.x.lead)/\W.cell? ⟨db,6,aB⟩=aC (ν D.x.tr)/\W.cell? ⟨db,7,aB⟩=aC (ν D.x.bT)/\W.cell? ⟨bx,2,aB⟩=aC (ν xa)):=η (λW hW=>by have c:=HC.o W (eJ.o W hW);exact⟨c.c0,c.c1,c.c2,c.c3,c.c4,c.c5,c.c6,c.c7,(fQ.o W hW).2.1⟩);go_upto_region 7 with (fail)
   have bQ:β w6 w6.drew:=(aX _ _).drew;have hdd:=uR.o _ bQ;clear e1;go_region_held3 (λW=>W.cell? ⟨db,0,aB⟩=aC (aH D.x.Am (aA D.x.ms) D.x.cm)/\W.cell? ⟨db,1,aB⟩=aC (aH D.x.As (aA D.x.ss) D.x.cs)/\W.cell? ⟨db,2,aB⟩=aC (aH D.x.Ac (aA D.x.cy) D.x.cc)/\W.cell? ⟨db,3,aB⟩=aC (ν D.x.line)/\W.cell? ⟨db,4,aB⟩=aC (ν D.x.bW)/\W.cell? ⟨db,5,aB⟩=aC (ν D.x.lead)/\W.cell? ⟨db,6,aB⟩=aC (ν D.x.tr)/\W.cell? ⟨db,7,aB⟩=aC (ν D.x.bT)/\W.cell? ⟨bx,2,aB⟩=aC (ν xa)) (first|(with_reducible assumption)|(refine uR.o _ (rK (by with_reducible assumption) (gX (by with_reducible assumption)) _))|(refine uR.o _ (uX _ (uX _ (rK (by with_reducible assumption) (gX (by with_reducible assumption)) _) (gX (by with_reducible assumption))) (gX (by with_reducible assumption))))|(refine uR.o _ (uX _ (uX _ (by with_reducible assumption) (aZ _)) (aZ _)))) (first|(go_at_call 117;refine(pB.o _ (eJ.o _ (by with_reducible assumption)) xa P7.o).mono ?_;rintro e w7 ⟨rfl,ft⟩;have dZ:β w6 w7:=kB (by with_reducible assumption) (ft.mono (gX (by with_reducible assumption)));have hcc:=uR.o _ dZ;have gH:=(fD ft).1;have hbf:=(fD ft).2)|(go_at_call 117;refine(pB.o _ (eJ.o _ (rK (by with_reducible assumption) (gX (by with_reducible assumption)) _)) xa P7.o).mono ?_;rintro e w7 ⟨rfl,ft⟩;have dZ:β w6 w7:=kB (rK (by with_reducible assumption) (gX (by with_reducible assumption)) _) (ft.mono (gX (rK (by with_reducible assumption) (gX (by with_reducible assumption)) _)));have hcc:=uR.o _ dZ;have gH:=(fD ft).1;have hbf:=(fD ft).2))
   all_goals
    first
    |(have hbl:=rK dZ dZ.size (aK #[ν (df D.x xa).a,ν (df D.x xa).b] 69)
      have fC:=η hbl;have e3:=(fQ.o _ hbl).2.2;by_cases h2:jM D.x xa=0
      ·have GU:Hid (tq D.x xa=(df D.x xa).a):=η (by unfold tq;rw [ifP h2]);go_wp2_with fail
       go_roundw
       case rel=>exact⟨k+1,by omega,by go_num,(by rw [HL.o,jm.o,GU.o];try simp),η (cC.o.trans (fC.o.mono cC.o.size))⟩
       case measure=>simp [ag];omega
      have GU:Hid (tq D.x xa=1):=η (by unfold tq;rw [ifN h2]);go_wp2_with fail
      go_roundw
      case rel=>exact⟨k+1,by omega,by go_num,(by rw [HL.o,jm.o,GU.o];try simp),η (cC.o.trans (fC.o.mono cC.o.size))⟩
      case measure=>simp [ag];omega)
    |(have hbl:=uX (i:=1) (ν (df D.x xa).b) (uX (b:=w6.heap.size) (i:=0) (ν (df D.x xa).a) dZ (aZ _)) (aZ _)
      have fC:=η hbl;have e3:=(fQ.o _ hbl).2.2;by_cases h2:jM D.x xa=0
      ·have GU:Hid (tq D.x xa=(df D.x xa).a):=η (by unfold tq;rw [ifP h2]);go_wp2_with fail
       go_roundw
       case rel=>exact⟨k+1,by omega,by go_num,(by rw [HL.o,jm.o,GU.o];try simp),η (cC.o.trans (fC.o.mono cC.o.size))⟩
       case measure=>simp [ag];omega
      have GU:Hid (tq D.x xa=1):=η (by unfold tq;rw [ifN h2]);go_wp2_with fail
      go_roundw
      case rel=>exact⟨k+1,by omega,by go_num,(by rw [HL.o,jm.o,GU.o];try simp),η (cC.o.trans (fC.o.mono cC.o.size))⟩
      case measure=>simp [ag];omega)
  obtain rfl:k=aA L:=by omega
  rw [cU];go_wp2_with fail
  go_ret;exact⟨cW U4.o.symm,aR.o.trans (HB.o.mono aR.o.size)⟩
def Xv(E:Dk)(m:Int):Dk:= {E with h:=E.h++ [⟨m,8,m,0,min (CK E m) (AZ E m)⟩]}
def lD(E:Dk):Nat->Dk
 |0=>E
 |k+1=>Xv (lD E k) ((k:Int)+1)
def lZ(D:Dk)(L:List Lg):Int:=
 if D.st≠0 then 11 else if (aA D.x.cy:Int)<=D.aj then 6 else if mG D.x L≠0 then mG D.x L else if oX (gh L) (dQ (aA D.x.ss+1)) 0≠0 then oX (gh L) (dQ (aA D.x.ss+1)) 0 else rF (D.aj+1) (gh L) D.ob
def Fo(D:Dk)(L:List Lg):Dk:= {D with ob:=nz (D.aj+1) (gh L) D.ob,aj:=D.aj+1,st:=1}
def Bz(D:Dk)(L:List Lg):Dk:=kH (Fo D L) 4 (gh L)
def Dz(D:Dk)(L:List Lg):Dk:=lD (Bz D L) (aA D.x.ms)
def xt(D:Dk)(L:List Lg):Dk:=if lZ D L=0 then Dz D L else D
structure PQ(E:Dk)(m:Int):Prop where
 ok:fZ E
 mI:aL m
 aI:∀x∈E.ob,aL x.a
 up:qI E.h
 pos:E6 E.h m=aA E.h
 is:wE E.h m=aP
 room:aA E.h<aA E.x.ms
 ms:aA E.x.ms<=100000
 n0:0<=min (CK E m) (AZ E m)
 Nw:plcA (aA E.x.ms) (aA E.x.ss+1) 8 m 0≠aB
 bI:aL (balA (aA E.x.ms) (aA E.x.ss+1) E.l 8 m 0-iR E.h 8 m 0)
 le:min (CK E m) (AZ E m)<=balA (aA E.x.ms) (aA E.x.ss+1) E.l 8 m 0-iR E.h 8 m 0
structure Ua(D:Dk)(L:List Lg):Prop where
 ok:fZ D
 ml:aA D.x.ms<=100000
 sl:aA D.x.ss<=100000
 cI:aL D.aj/\D.aj<=1000
 nl:aA (gh L)<=2000
 good:lZ D L=0->∀k,k<aA D.x.ms->PQ (lD (Bz D L) k) ((k:Int)+1)
theorem a5v {x:ak} {L:List Lg}(h:mG x L=0):∀y∈gh L,aL y.n:=by
 intro y hy;unfold gh mH at hy;obtain⟨q,hq,rfl⟩:=di.1 hy;have sD:=(jG.1 hq).1;unfold mG at h;split at h
 ·cases h
 split at h
 ·rename_i h2;exact absurd h h2
 split at h
 ·cases h
 rename_i h3;by_cases hI:aL (sQ L q)
 ·exact hI
 exact absurd (kE.2 ⟨q,sD,by rw [(gw hI).2];rfl⟩) h3
theorem bV.a2b {w:aJ} {db:Nat} {p:Dp} {D:Dk}(H:bV w db p D)(s:Int):dB db p p {D with aj:=s} w (w.setCell ⟨db,12,aB⟩ (aG aF s)):=
 ⟨H.Pz 12 (ν s) rfl rfl rfl rfl rfl rfl ⟨rfl,rfl,rfl,rfl,rfl,rfl,rfl⟩ H.who H.log,rfl,rfl,rfl,rfl,(bA.refl _ _).setCell (p:=⟨db,12,aB⟩) (.inl (.inl rfl)) _,λ_ h=> .inl h⟩
theorem VQ(db:Nat)(p:Dp)(D:Dk)(L:List Lg)(A:Option ai)(c:Nat)(w:aJ)(H:bV w db p D)(hs:aW w w.heap.size A (bB L))(hI:∀y∈L,y.ok)(hl:aA L<=100000)(P:Ua D L):
 aQ aM 26 #[π db,aH A (aA L) c] w λe w'=>e=aT (ν (lZ D L))/\aq db p (xt D L) w w':=by
 have hb0:β w (w.alloc (aK #[ν 0] 3)):=(aX _ _).alloc (aZ _) _;have jS:=η (KD db p D 0 (aC ⟨w.heap.size,0,aB⟩) 1 _ (H.below hb0) (λj u hu=>⟨w.heap.size,0,rfl,by simp,by
  match j,hu with
  |0,hu=>exact(cM w #[ν 0] 3 0 rfl).trans (by simpa using hu)
  |j+1,hu=>simp at hu⟩))
 have HF:=η H;have HP:=η P;have aY:=η hb0;have HE:Hid (lZ D L=if D.st≠0 then 11 else if (aA D.x.cy:Int)<=D.aj then 6 else if mG D.x L≠0 then mG D.x L else if oX (gh L) (dQ (aA D.x.ss+1)) 0≠0 then oX (gh L) (dQ (aA D.x.ss+1)) 0 else rF (D.aj+1) (gh L) D.ob):=η rfl;have zC:Hid (∀er,lZ D L=er->er≠0->∀W,aq db p D w W->(aT (ν er)=aT (ν (lZ D L)))/\aq db p (xt D L) w W):=η (λer h hn W hW=>by
  have e1:xt D L=D:=by unfold xt;rw [ifN (by rw [h];exact hn)]
  rw [e1,h];exact⟨rfl,hW⟩)
 have TY:Hid (lZ D L=0->∀W,aq db p (Dz D L) w W->(aT (ν 0)=aT (ν (lZ D L)))/\aq db p (xt D L) w W):=η (λh W hW=>by
  have e1:xt D L=Dz D L:=by unfold xt;rw [ifP h]
  rw [e1,h];exact⟨rfl,hW⟩)
 have qc:=η (λW (hW:β w W)=>aIT D.x L A c W (H.below hW).src ((hs.below hW).mono hW.size) hI hl);have HC:=η (λW (hW:β w W)=>(H.below hW).cells);have yF:Hid (lZ D L=0->∀k,k<aA D.x.ms->PQ (lD (Bz D L) k) ((k:Int)+1)):=η P.good;have HXE:Hid ((Bz D L).x=D.x):=η rfl;have HTE:Hid (Bz D L=kH (Fo D L) 4 (gh L)):=η rfl;have qZ:Hid (Fo D L= {D with ob:=nz (D.aj+1) (gh L) D.ob,aj:=D.aj+1,st:=1}):=η rfl;have GI:Hid (Dz D L=lD (Bz D L) (aA D.x.ms)):=η rfl;unfold ak.val at qc;generalize lZ D L=ee at*;generalize xt D L=DW at*;go_enter func26,ntmps26
 by_cases h1:D.st=0
 case neg=>
  rw [ifP h1] at HE;rw [ifN h1] at jS;go_wp2_with (go_at_call 51;refine jS.o.mono ?_;rintro e w1 ⟨rfl,hb1⟩;have aR:=τ aY hb1)
  go_ret;exact zC.o 11 HE.o (by decide) _ (aq.bY HF.o aR.o)
 rw [ifN (by simpa using h1)] at HE;rw [ifP h1] at jS;go_upto_region 4 with (go_at_call 51;refine jS.o.mono ?_;rintro e w1 ⟨rfl,hb1⟩;have aR:=τ aY hb1)
 have c2:=(HC.o _ aR.o).c2;have c12:=(HC.o _ aR.o).c12;go_quiet (fail)
 have aV:Hid (β w (w1.drewN nq)):=η (below_drewN aR.o nq);clear aR c2 c12;generalize w1.drewN nq=w2 at*;by_cases h2:(aA D.x.cy:Int)<=D.aj
 ·have hd:decide ((aA D.x.cy:Int)<=D.aj)=aO:=decide_eq_true h2;rw [ifP h2] at HE;go_wp2_with fail
  go_ret;exact zC.o 6 HE.o (by decide) _ (aq.bY HF.o aV.o)
 rw [ifN h2] at HE;obtain⟨c0,c1,c2,c3,c4,c5,c6,c7,c8,c9,c10,c11,c12,c13,c14,c15⟩:=HC.o _ aV.o;by_cases h3:mG D.x L=0
 case neg=>
  rw [ifP h3] at HE;have hb:(mG D.x L==0)=aP:=by simpa using h3
  have iV:=η h3;have Ou:=η ((qc.o _ aV.o).mono (R':=λe w'=>e=aT (bC #[aH aB 0 0,ν (mG D.x L)])/\β w2 w') (by
   rintro e w' ⟨hb3,⟨q1,_⟩|⟨q1,rfl⟩⟩
   ·exact absurd q1 h3
   exact⟨rfl,hb3⟩))
  go_wp2_with (go_at_call 52;refine Ou.o.mono ?_;rintro e w3 ⟨rfl,hb3⟩;have af:=τ aV hb3)
  go_ret;exact zC.o _ HE.o iV.o _ (aq.bY HF.o af.o)
 rw [ifN (by simpa using h3)] at HE;have Ot:Hid (∀y∈gh L,aL y.n):=η (a5v h3);have Ou:=η ((qc.o _ aV.o).mono (R':=λe w'=>∃A c,e=aT (bC #[aH A (aA (gh L)) c,ν 0])/\w'.ownsRow w.heap.size 76 3 (aH A (aA (gh L)) c) (aA (gh L)) (bB (gh L))/\β w2 w') (by
  rintro e w' ⟨hb3,⟨q1,v,rfl,ho⟩|⟨q1,rfl⟩⟩
  ·obtain⟨A,c,rfl⟩:=bL ho;exact⟨A,c,rfl,iD ho aV.o.size,hb3⟩
  exact absurd h3 q1))
 have rR:Hid (aA (gh L)<=100000):=η (by have:=HP.o.nl;omega);generalize hM:gh L=Nn at*;go_upto_region 9 with (go_at_call 52;refine Ou.o.mono ?_;rintro e w3 ⟨A3,k3,rfl,j7,hb3⟩;have af:=τ aV hb3;have cD:=η (iM.cB HF.o j7);have mV:=η j7)
 clear Ou aV c0 c1 c2 c3 c4 c5 c6 c7;have UG:=η (aFG db p D Nn A3 k3 w3 (HF.o.below af.o) cD.o.eA rR.o Ot.o HP.o.sl);by_cases h4:oX Nn (dQ (aA D.x.ss+1)) 0=0
 case neg=>
  rw [ifP h4] at HE;have gM:=η h4;have hb:(oX Nn (dQ (aA D.x.ss+1)) 0==0)=aP:=by simpa using h4
  generalize oX Nn (dQ (aA D.x.ss+1)) 0=we at*;go_wp2_with (go_at_call 53;refine UG.o.mono ?_;rintro e w4 ⟨rfl,hb4⟩;have ar:=τ af hb4)
  go_ret;exact zC.o _ HE.o gM.o _ (aq.bY HF.o ar.o)
 rw [h4] at UG;rw [ifN (by simpa using h4)] at HE;go_upto_region 12 with (go_at_call 53;refine UG.o.mono ?_;rintro e w4 ⟨rfl,hb4⟩;have ar:=τ af hb4;have dY:=η (cD.o.below hb4))
 have N0:D.aj<=1000/\aL D.aj:=⟨HP.o.cI.2,HP.o.cI.1⟩;have hwc:aF.wrap (D.aj+1)=D.aj+1:=uy (by unfold aL at*;omega);have Zm:Hid (Nn≠ []->aA Nn<=k3):=η (λ_=>by
  rcases mV.o.2 with⟨e,h0⟩|⟨g,cap,cur,e,_,_,hle,_⟩
  ·omega
  injection e with _ _ e3;omega)
 have Zn:Hid (aA Nn<=k3):=η (by
  by_cases h0:Nn= []
  ·rw [h0];simp
  exact Zm.o h0)
 have hrw:bB Nn≠ []\/Nn= []:=by
  cases Nn with
  |nil=>exact .inr rfl
  |cons x l=>left;simp [bB,Lg.cells]
 have HRW:=η hrw;have Zx:Hid (∀W,β w4 W->aQ aM 54 #[π p.sb,ν (D.aj+1),aH A3 (aA Nn) k3] W λe W'=>e=aT (ν (rF (D.aj+1) Nn D.ob))/\aq db p {D with ob:=nz (D.aj+1) Nn D.ob} W W'/\W'.cell? ⟨db,9,aB⟩=aC (π p.sb)/\W'.cell? ⟨db,5+7,aB⟩=aC (ν D.aj)):=η (λW hW=>by
  have ZW:=HF.o.below (ar.o.trans (hW.mono ar.o.size));have HOW:=dY.o.below hW;refine(aIf D.ob (D.aj+1) Nn A3 k3 p.sv p.sb 0 W ZW.sh HP.o.ok.ob HOW.eA (λhne q hq=> ?_) (bM _) rR.o Zn.o Ot.o).mono ?_
  ·have hn:¬eW db p q.block:=HOW.o (HRW.o.resolve_right hne) q hq;exact⟨λe=>hn (.inr (.inr (.inl (.inl e)))),λe=>hn (.inr (.inr (.inl (.inr e.symm))))⟩
  intro e W' h;obtain⟨q1,q2⟩:=ZW.Fx h;obtain⟨p3,H3,f1,f2,f3,f4,qU,hs3⟩:=q2;exact⟨q1,⟨p3,H3,f1,f2,f3,f4,qU,hs3⟩,by rw [<-f2];exact H3.cells.c9,H3.cells.c12⟩)
 have Cr:Hid (∀W,β w4 W->W.cell? ⟨db,9,aB⟩=aC (π p.sb)/\W.cell? ⟨db,12,aB⟩=aC (ν D.aj)):=η (λW hW=>by have c:=HC.o W (ar.o.trans (hW.mono ar.o.size));exact⟨c.c9,c.c12⟩);have bQ:β w4 w4.drew:=(aX _ _).drew;have hdd:=Cr.o _ bQ;go_region_held3 (λW=>W.cell? ⟨db,9,aB⟩=aC (π p.sb)/\W.cell? ⟨db,12,aB⟩=aC (ν D.aj)) (first|(with_reducible assumption)) ((go_at_call 54;refine(Zx.o _ (by with_reducible assumption)).mono ?_;rintro e w5 ⟨rfl,hop,hk9,Qr⟩;have We:=kh hk9 Qr))
 have Cl:Hid (aq db p {D with ob:=nz (D.aj+1) Nn D.ob} w w5):=η (aq.trans (bA.bY _ (ar.o.trans (bQ.mono ar.o.size))) (λ_ h=> .inl h) ⟨rfl,rfl,rfl,rfl⟩ hop);have Zz:Hid (aq db p {D with ob:=nz (D.aj+1) Nn D.ob} w4 w5):=η (aq.trans (bA.bY _ bQ) (λ_ h=> .inl h) ⟨rfl,rfl,rfl,rfl⟩ hop);clear hop We hk9 bQ hdd Zx Cr Zm Zn HRW af HC;by_cases h5:rF (D.aj+1) Nn D.ob=0
 case neg=>
  have oq:=η h5;have hb:(rF (D.aj+1) Nn D.ob==0)=aP:=by simpa using h5
  have Jh:Hid (aq db p D w w5):=η (by have h:=Cl.o;rw [show nz (D.aj+1) Nn D.ob=D.ob from by unfold nz;rw [ifN h5]] at h;exact h);clear h5 Qr;generalize rF (D.aj+1) Nn D.ob=oe at*;go_wp2_with fail
  go_ret;exact zC.o _ HE.o oq.o _ Jh.o
 rw [h5] at HE;obtain⟨p5,Bk⟩:=Zz.o.q;have fP:=η (dY.o.step Bk);have ow:Hid (dB db p p5 {D with ob:=nz (D.aj+1) Nn D.ob} w w5):=η ((dB.bY HF.o ar.o).trans Bk);have f12:w5.frozen? ⟨db,12,aB⟩=aP:=by have hb:=Bk.at.blk;simp [iO,hb]
 have OY:=η (yF.o HE.o);clear Bk Cl Zz dY ar;rw [show (⟨db,5+7,aB⟩:ai)=⟨db,12,aB⟩ from rfl] at Qr;rw [h5];clear h5;go_upto_region 16 with (fail)
 have oz:=η (ow.o.trans (ow.o.at.a2b (D.aj+1)));have lx:=η (fP.o.step (ow.o.at.a2b (D.aj+1)));clear ow fP Qr f12;generalize (w5.setCell ⟨db,12,aB⟩ (ν (D.aj+1)))=w6 at*;have f13:w6.frozen? ⟨db,13,aB⟩=aP:=by have hb:=oz.o.at.blk;simp [iO,hb]
 have c13:=oz.o.at.cells.c13;go_upto_region 17 with (fail)
 have qg:Hid (dB db p p5 (Fo D L) w (w6.setCell ⟨db,13,aB⟩ (ν 1))):=η (by rw [qZ.o];exact oz.o.trans (oz.o.at.SM 1));have rS:=η (lx.o.step (oz.o.at.SM 1));have Lf:Hid ((Fo D L).log.length<=90000):=η (by rw [qZ.o];exact HP.o.ok.gl);have a9Z:Hid (aA Nn<=2000):=η (by rw [<-hM];exact HP.o.nl);have wY:Hid (aA D.x.ms<=100000):=η HP.o.ml;clear oz lx c13 f13 qZ HP hwc;generalize (w6.setCell ⟨db,13,aB⟩ (ν 1))=w7 at*;generalize Fo D L=E0 at*;generalize Bz D L=T0 at*;have pP:=a9Z.o;go_upto_region 18 with (fail)
 have iF:Hid (dB db p p5 (kH E0 4 (Nn.take 0)) w w7):=η (by
  have e:kH E0 4 (Nn.take 0)=E0:=by unfold kH;simp
  rw [e];exact qg.o)
 clear qg;go_loopw [11,75] (λ_ i wr=>∃(k:Nat) (pk:Dp),k<=aA Nn/\i=ν (k:Int)/\Hid (dB db p pk (kH E0 4 (Nn.take k)) w wr)/\Hid (iM db pk wr A3 (bB Nn))) (λ_ i _=>aA Nn-(ag i).toNat)
 case atStart=>exact⟨0,p5,bM _,rfl,iF,rS⟩
 case round=>
  clear iF rS;obtain⟨k,pk,hk,rfl,HQ,HO⟩:=hrel;by_cases hlt:k<aA Nn
  ·obtain⟨bl,ol,kJ,hbl,l0,l1,l2⟩:=oQ HO.o.eA hlt;have hkb:(k:Int)<(aA Nn:Int):=by omega
   have LW:Hid ((kH E0 4 (Nn.take k)).log.length<=100000):=η (by unfold kH;simp only [cN,iX,vN];have:=Lf.o;omega);have HL:=η (a3E (D:=E0) (kd:=4) hlt);subst kJ;generalize kH E0 4 (Nn.take k)=E at*;generalize Nn[k]=x at*;obtain⟨xm,xa,xn⟩:=x;simp only at l0 l1 l2;have oA:Hid (β wr ((wr.alloc (aK #[ν xm,ν xa,ν xn] 76)).alloc (aK #[ν 4,ν xm,ν xa,ν xn,ν 0] 45))):=η (σ.alloc (by simp) _);have km:=η (xP db pk E [⟨4,xm,xa,xn,0⟩] (wr.heap.size+1) 1 _ (HQ.o.at.below oA.o) (dS (wr.alloc (aK #[ν xm,ν xa,ν xn] 76)) 45 #[ν 4,ν xm,ν xa,ν xn,ν 0] (by simp)) (by simp) (by simp) (by have:=LW.o;omega));have pA:=η (HQ.o.below oA.o);have uN:=η (HO.o.below oA.o);clear HQ HO;go_wp2_with (go_at_call 55;refine km.o.mono ?_;rintro e w8 ⟨rfl,h8⟩;obtain⟨p9,yi,FZ⟩:=pA.o.then h8;have sZ:=η yi;have wk:=η (uN.o.step FZ);clear h8 yi FZ)
   go_roundw
   case rel=>exact⟨k+1,p9,by omega,by go_num,η (by rw [HL.o];exact sZ.o),wk⟩
   case measure=>simp [ag];omega
  obtain rfl:k=aA Nn:=by omega
  rw [cU,<-HTE.o] at HQ;clear HO;have c0:=HQ.o.at.cells.c0;rw [HXE.o] at c0;have ir:=wY.o;go_upto_region 23 with (fail)
  clear c0;generalize hMM:aA D.x.ms=M at*;have mR:Hid (dB db p pk (lD T0 0) w wr):=η HQ.o;clear HQ;go_loopw [12,13,96] (λ_ _ i wr=>∃(k:Nat) (pk:Dp),k<=M/\i=ν (k:Int)/\Hid (dB db p pk (lD T0 k) w wr)) (λ_ _ i _=>M-(ag i).toNat)
  case atStart=>exact⟨0,pk,bM _,rfl,mR⟩
  case round=>
   clear mR;obtain⟨k,pk,hk,rfl,HQ⟩:=hrel;by_cases hlt:k<M
   ·have ej:(0:Int)<=(k:Int):=by omega
    have hkb:(k:Int)<(M:Int):=by omega
    have eR:=η (OY.o k hlt);have cG:Hid (lD T0 (k+1)=Xv (lD T0 k) ((k:Int)+1)):=η rfl;have EU:Hid (aL ((k:Int)+1)):=η eR.o.mI;have UD:=η (aEr db pk (lD T0 k) ((k:Int)+1) wr HQ.o.at EU.o eR.o.ok.lI (by have:=eR.o.ok.hl;omega));have U5:=η (λW (hW:β wr W)=>aFA db pk (lD T0 k) ((k:Int)+1) W (HQ.o.at.below hW) eR.o.ok eR.o.aI);have hp8:∀(E:Dk) (m:Int) (W:aJ) (pw:Dp),PQ E m->bV W db pw E->aQ aM 57 #[π pw.vb,ν m,bP #[ν 8,ν m,ν 0,ν (min (CK E m) (AZ E m))]] W λe W'=>e=aT (ν 0)/\aq db pw (Xv E m) W W'/\W'.cell? ⟨db,8,aB⟩=aC (π pw.vb):=by intro E m W pw P H;refine(aLi pw.vb pw.vp (aA E.x.ms) (aA E.x.ss+1) (aA E.x.ms) E.l E.h ⟨m,8,m,0,min (CK E m) (AZ E m)⟩ W H.vt P.ok.lI (by have:=P.ok.hl;omega) P.up P.pos P.is ⟨by have:=P.room;omega,by have:=P.ms;omega⟩ (by decide:aL 8) P.mI rfl P.n0 P.Nw P.bI P.le).mono ?_;intro e W' h;obtain⟨q1,q2⟩:=H.held h;obtain⟨p3,H3,f1,f2,f3,f4,qU,hs3⟩:=q2;exact⟨q1,⟨p3,H3,f1,f2,f3,f4,qU,hs3⟩,by rw [<-f1];exact H3.cells.c8⟩
    have Cn:=η (λW (hW:β wr W)=>hp8 (lD T0 k) ((k:Int)+1) W pk eR.o (HQ.o.at.below hW));have BJ:=η (λW (hW:β wr W)=>(HQ.o.at.below hW).cells.c8);rw [<-cG.o] at Cn;clear hp8 eR;generalize lD T0 k=E at*;generalize Mq:lD T0 (k+1)=E1 at*;have yD:=η Mq;clear Mq;generalize CK E ((k:Int)+1)=un at*;generalize AZ E ((k:Int)+1)=rk at*;have Bh:aF.wrap ((k:Int)+1)=(k:Int)+1:=uy EU.o;go_upto_region 26 with (go_at_call 56;refine UD.o.mono ?_;rintro e wu ⟨rfl,hbu⟩;have HBU:=η hbu;clear hbu)
    rw [<-Bh] at Cn U5;clear Bh;have bQ:β wr wu.drew:=HBU.o.drew;have hdd:=BJ.o _ bQ;go_region_held3 (λW=>W.cell? ⟨db,8,aB⟩=aC (π pk.vb)) (first|(with_reducible assumption)) (first|(go_at_call 47;with_reducible refine uD (zj (aF.wrap ((k:Int)+1)) _) ?_;rintro e wa ⟨rfl,nG⟩;have ye:β wr wa:=kB (by with_reducible assumption) (nG.mono (gX (by with_reducible assumption)));have rA:=BJ.o _ ye)|(go_at_call 58;with_reducible refine uD (U5.o _ (by with_reducible assumption)) ?_;rintro e wb ⟨rfl,j6⟩;have s6:β wr wb:=kB (by with_reducible assumption) (j6.mono (gX (by with_reducible assumption)));have hcb:=BJ.o _ s6)|(go_at_call 57;with_reducible refine uD (Cn.o _ (by with_reducible assumption)) ?_;rintro e wc ⟨rfl,hpl,hcc⟩))
    all_goals
     have Jh:Hid (aq db pk E1 wr wc):=η (aq.trans (bA.bY _ (by with_reducible assumption)) (λ_ h=> .inl h) ⟨rfl,rfl,rfl,rfl⟩ hpl);obtain⟨pc,NJ,_⟩:=HQ.o.then Jh.o;have Tz:=η NJ;clear hpl hcc nG ye rA j6 s6 hcb bQ hdd Cn BJ U5 HQ NJ Jh;go_wp2_with fail
     go_roundw
     case rel=>exact⟨k+1,pc,by omega,by go_num,η (by rw [yD.o];exact Tz.o)⟩
     case measure=>simp [ag];omega
   obtain rfl:k=M:=by omega
   go_wp2_with fail
   go_ret;exact TY.o HE.o _ (by rw [GI.o];exact HQ.o.p)
theorem a4t(q:Int×Int):∀l,aA (insSd q l)<=aA l+1
 | []=>by simp [insSd]
 |p::l=>by have:=a4t q l;grind [insSd]
theorem aKR(L:List Lg):aA (gC L)<=aA L:=by
 induction L with
 |nil=>simp [gC]
 |cons x L ih=>
  grind [a4t,gC]
theorem a5w(L:List Lg):aA (gh L)<=aA L:=by grind [gh,mH,aKR]
theorem aIM {x:ak} {L:List Lg}(h:mG x L=0):∀z∈L,mi x z=0:=by grind [F3,mG]
theorem aIH {x:ak} {y:Lg}(h:mi x y=0):(1<=y.m/\y.m<=(aA x.ms:Int))/\0<=y.a/\y.a<=(aA x.ss:Int):=by
 unfold mi at h;by_cases h1:jd x y.m=0
 ·rw [ifN (by omega)] at h;refine⟨Ri h1, ?_⟩;by_cases h2:y.a=0
  ·omega
  rw [ifN h2] at h;have:=SK h;omega
 omega
theorem Yn {L:List Lg}:∀(ks:List Nat) (r:Int),oX L ks r=0->∀a∈ks,ED L (a:Int)=aP
 | [],_,_,a,ha=>by simp at ha
 |k::ks,r,h,a,ha=>by
  unfold oX at h;by_cases hb:ED L (k:Int)=aO
  ·grind
  rw [ifN hb] at h;rcases fG.1 ha with rfl|ha
  ·simpa using hb
  by_cases hs:jy L (k:Int)=ld L (k:Int)
  ·rw [ifP hs] at h;exact Yn ks r h a ha
  rw [ifN hs] at h;exact Yn ks 17 h a ha
structure a0P(x:ak)(N:List Lg):Prop where
 pS:∀y∈N,(1<=y.m/\y.m<=(aA x.ms:Int))/\(0<=y.a/\y.a<=(aA x.ss:Int))/\y.n≠0/\aL y.n
 wM:N.Pairwise λy z=>y.m<z.m\/(y.m=z.m/\y.a<z.a)
 sid:∀a:Int,0<=a->a<=(aA x.ss:Int)->jy N a<=kf a/\ld N a<=kf a
theorem aIP {x:ak}(hx:Gd x) {L:List Lg}(h:mG x L=0)(hw:oX (gh L) (dQ (aA x.ss+1)) 0=0)(hI:∀y∈L,y.ok):a0P x (gh L):=by
 have hc:=aIM h;have hq:∀q∈gC L,(1<=q.1/\q.1<=(aA x.ms:Int))/\0<=q.2/\q.2<=(aA x.ss:Int):=λq hq=>by obtain⟨z,hz,rfl⟩:=(SI L q).1 hq;exact aIH (hc z hz)
 have jt:=hx.sl;refine⟨λy hy=> ?_, ?_,λa h0 h1=> ?_⟩
 ·have aNE:=a5v h y hy;obtain⟨q,sD,rfl⟩:=di.1 hy;grind
 ·unfold gh mH;rw [BO];refine PD ?_ ((a7L (λy hy=>(hI y hy).a)).filter _);grind [pT]
 have:=Yn _ _ hw a.toNat (by grind);grind [ED]
theorem Ru(f:Ob->Int)(L R:List Ob):dW f (L++R)=dW f L+dW f R:=by grind [dW]
theorem Xm {f:Ob->Int}:∀ {L:List Ob},(∀x∈L,0<=f x)->∀x∈L,f x<=dW f L
 | [],_,x,hx=>by simp at hx
 |y::L,h,x,hx=>by
  have h1:=h y (by simp);have h2:=a6P (f:=f) (L:=L) (λz hz=>h z (dx _ hz));have e:dW f (y::L)=f y+dW f L:=by simp [dW]
  rw [e];rcases fG.1 hx with rfl|hx
  ·omega
  have:=Xm (f:=f) (L:=L) (λz hz=>h z (dx _ hz)) x hx;omega
theorem a6O(f:Ob->Int)(y:Ob)(L:List Ob):dW f (y::L)=f y+dW f L:=by simp [dW]
theorem aKi(y:Lg)(N:List Lg)(a:Int):jy (y::N) a=(if 0<y.n/\y.a=a then y.n else 0)+jy N a:=by grind [jy,kr,mA,jI,sumI]
theorem aKh(y:Lg)(N:List Lg)(a:Int):ld (y::N) a=(if y.n<0/\y.a=a then-y.n else 0)+ld N a:=by grind [ld,kr,jK,jI,sumI]
theorem Q6(c a:Int):∀N:List Lg,dW (vW a) (N.map (gB c))=jy N a
 | []=>rfl
 |y::N=>by rw [yS,a6O,Q6 c a N,aKi];unfold vW gB;simp
theorem Q1(c a:Int):∀N:List Lg,dW (qN a) (N.map (gB c))=ld N a
 | []=>rfl
 |y::N=>by rw [yS,a6O,Q1 c a N,aKh];unfold qN gB;simp
theorem aF7(c a:Int)(N:List Lg):dW (oJ a) (N.map (gB c))=0:=E4 λx hx=>by grind [oJ,gB]
theorem aF3(c m a:Int)(N:List Lg):dW (oI m a) (N.map (gB c))=0:=E4 λx hx=>by grind [oI,gB]
theorem aKg {L:List Ob}(h:L.any ew=aP):∀x∈L,x.st≠1:=λx hx e=>by grind [uq]
theorem kq.opened {x:ak} {aj:Int} {who:List Int} {L:List Ob} {N:List Lg}(h:kq (aA x.ms) (aA x.ss) aj who L)(F:a0P x N)(hl:aA N<=120)(hs:L.any ew=aP):
 kq (aA x.ms) (aA x.ss) (aj+1) who (L++N.map (gB (aj+1))):=by
 have sG:=aKg hs;have hnz:∀(f:Ob->Int),(∀x,x.st≠1->f x=0)->dW f L=0:=λf hf=>E4 (λx hx=>hf x (sG x hx))
 have key:∀a:Int,jy N a<=kf a/\ld N a<=kf a:=λa=>by
  by_cases ha:0<=a/\a<=(aA x.ss:Int)
  ·exact F.sid a ha.1 ha.2
  have hm:=xj a;have h1:jy N a=0:=by
   rw [<-Q6 0];refine E4 λz hz=> ?_
   obtain⟨y,hy,rfl⟩:=di.1 hz;have:=(F.pS y hy).2.1;grind [vW,gB]
  have h2:ld N a=0:=by
   rw [<-Q1 0];refine E4 λz hz=> ?_
   obtain⟨y,hy,rfl⟩:=di.1 hz;have:=(F.pS y hy).2.1;grind [qN,gB]
  omega
 have l7:∀y∈N,-kf y.a<=y.n/\y.n<=kf y.a:=λy hy=>by have hk:=key y.a;have hm:=xj y.a;have d1:=Xm (f:=vW y.a) (L:=N.map (gB 0)) (λz _=>a2h _ z) (gB 0 y) (di.2 ⟨y,hy,rfl⟩);have d2:=Xm (f:=qN y.a) (L:=N.map (gB 0)) (λz _=>a2L _ z) (gB 0 y) (di.2 ⟨y,hy,rfl⟩);grind [Q6,Q1,vW,gB,qN]
 refine⟨λz hz=> ?_,λz hz=> ?_, ?_,λa=> ?_,λa=> ?_, ?_⟩
 ·rcases gN.1 hz with hz|hz
  ·have E:=h.each z hz;exact⟨E.m,E.a,E.big,by have:=E.c;omega,E.st,E.a7S,E.o,E.cmp⟩
  obtain⟨y,hy,rfl⟩:=di.1 hz;have I:=F.pS y hy;exact⟨I.1,I.2.1,l7 y hy,dM _,by show (1:Int)<=1/\(1:Int)<=5;omega,λe=>by have:(1:Int)=2:=e;omega,λe=>by have:(1:Int)=3:=e;omega,λe=>by have:(1:Int)=4\/(1:Int)=5:=e;omega⟩
 ·rcases gN.1 hz with hz|hz
  ·exact h.ok z hz
  obtain⟨y,hy,rfl⟩:=di.1 hz;have I:=F.pS y hy;have hb:=l7 y hy;have hm:=xj y.a;refine⟨?_, ?_,I.2.2.1,dM _, ?_⟩
  ·show gA<y.n;unfold gA;omega
  ·show y.n<=_;omega
  grind [Ob.size,gB]
 ·rw [M6];refine⟨h.ord, ?_,λz hz u hu o1 o2=>absurd (uq.1 o1) (sG z hz)⟩;rw [BO];exact F.wM.imp (λ{y z} h _ _=>h)
 ·rw [Ru,hnz _ (λx hx=>a2M hx),Q1];grind
 ·rw [Ru,hnz _ (λx hx=>a2i hx),Q6];grind
 rw [cN,iX];have:=h.len;omega
theorem Y9 {x:ak} {m:Int}:∀(L:List Ob) (n:Int),(∀o∈L,0<=o.az*tq x o.a/\o.az*tq x o.a<=288230376151711744)->0<=n->n+(aA (L.filter λo=>o.m==m):Int)*288230376151711744<=9*288230376151711744->0<=L.foldl (O1 x m) n
 | [],n,_,h0,_=>h0
 |o::L,n,h,h0,h1=>by
  have ho:=h o (by simp);have hr:∀z∈L,0<=z.az*tq x z.a/\z.az*tq x z.a<=288230376151711744:=λz hz=>h z (dx _ hz)
  rw [D3];unfold O1;by_cases hm:o.m=m
  ·rw [ifP hm,List.filter_cons_of_pos (by simpa using hm),uS] at*;have hle:(0:Int)<=(aA (L.filter λo=>o.m==m):Int)*288230376151711744:=by omega
   rw [wrap64_in (by unfold aL;omega:aL (o.az*tq x o.a)),wrap64_in (by unfold aL;omega)];exact Y9 L _ hr (by omega) (by omega)
  rw [ifN hm];rw [List.filter_cons_of_neg (by simpa using hm)] at h1;exact Y9 L n hr h0 h1
theorem aw.aK2 {C:Int} {g:Nat} {D:Dk}(H:aw C g D)(m:Int):0<=AZ D m:=by
 unfold AZ Fv;have jt:=H.hs.sl;refine Y9 _ 0 (λo ho=> ?_) (dM _) ?_
 ·unfold DV at ho;obtain⟨h1,h2⟩:=jG.1 ho;simp only [ji,beq_iff_eq,decide_eq_true_eq] at h2;have E:=H.ob.each o h1;have hb:=E.big.2;unfold tq;by_cases hs:jM D.x o.a=0
  ·rw [ifP hs];have Dq:=SK hs;have hp:1<=(df D.x o.a).a/\(df D.x o.a).a<=1048576:=by
    unfold df;rw [ifP (show tx D.x o.a from Dq)];have hl:(o.a-1).toNat<aA D.x.ss:=by omega
    rw [tC,iG hl];exact(H.hs.sI _ (cK hl)).1
   generalize (df D.x o.a).a=p at hp;unfold kf at hb;rw [ifN (by omega)] at hb;refine⟨Int.mul_nonneg (by omega) (by omega), ?_⟩;have:=Int.mul_le_mul hb hp.2 (by omega) (by omega);omega
  rw [ifN hs];have:=xj o.a;omega
 have hl:aA ((DV D).filter λo=>o.m==m)<=9:=by
  have hp:(((DV D).filter λo=>o.m==m).map (·.a)).Pairwise (· < ·):=by rw [BO];refine PD ?_ ((H.ob.ord.filter _).filter _);intro y z hy hz NU;obtain⟨Io,nM⟩:=jG.1 hy;obtain⟨hz1,hz2⟩:=jG.1 hz;have wC:=(jG.1 Io).2;have hz3:=(jG.1 hz1).2;simp only [ji,beq_iff_eq,decide_eq_true_eq] at nM hz2 wC hz3;have:=NU (uq.2 wC.1) (uq.2 hz3.1);omega
  have:=Sk (k:=9) (lo:= -1) hp (λa ha=>by obtain⟨y,hy,rfl⟩:=di.1 ha;have Io:=(jG.1 (jG.1 hy).1).1;have:=(H.ob.each y Io).a;omega)
  rwa [iX] at this
 omega
structure aAX(E V:Dk)(k:Nat):Prop where
 x:V.x=E.x
 l:V.l=E.l
 ob:V.ob=E.ob
 bx:V.bx=E.bx
 who:V.who=E.who
 aj:V.aj=E.aj
 st:V.st=E.st
 en:V.en=E.en
 log:V.log=E.log
 row:∀r∈V.h,r.s=8/\r.m=r.i/\1<=r.i/\r.i<=(k:Int)
 up:qI V.h
 len:aA V.h=k
theorem Ry {E:Dk}(hh:E.h= []):∀k,aAX E (lD E k) k
 |0=>by
  refine⟨rfl,rfl,rfl,rfl,rfl,rfl,rfl,rfl,rfl, ?_, ?_, ?_⟩
  ·show∀r∈E.h,_;rw [hh];simp
  ·show qI E.h;rw [hh];exact UO
  show aA E.h=0;rw [hh];rfl
 |k+1=>by
  have I:=Ry hh k;refine⟨I.x,I.l,I.ob,I.bx,I.who,I.aj,I.st,I.en,I.log, ?_, ?_, ?_⟩
  ·intro r hr;have FY:=hr;rcases gN.1 FY with h|h
   ·have:=I.row r h
    push_cast
    omega
   grind
  ·show qI ((lD E k).h++ [_]);unfold qI;rw [M6];refine⟨I.up,by simp,λr hr u hu=> ?_⟩;obtain rfl:=List.mem_singleton.1 hu;have:=I.row r hr;simp only;omega
  show aA ((lD E k).h++ [_])=k+1;rw [cN,I.len];rfl
theorem aw.a6c {C:Int} {g:Nat} {E:Dk}(H:aw C g E)(hh:E.h= []) {k:Nat}(hk:k<=aA E.x.ms):aw C g (lD E k):=by have I:=Ry hh k;have ir:=H.hs.ml;refine⟨by rw [I.x];exact H.hs,by rw [I.x,I.l,I.en];exact H.bF,λr hr=>(I.row r hr).1,by rw [I.len];omega,λa=>by rw [I.log,I.x,I.l];exact H.fl a,by rw [I.x,I.log];exact H.lg,by rw [I.log];exact H.gl,by rw [I.x,I.who];exact H.who,by rw [I.x,I.aj,I.who,I.ob];exact H.ob,by rw [I.bx,I.x];exact H.bx,by rw [I.bx];exact H.bl,by rw [I.st];exact H.st,by rw [I.aj];exact H.aj⟩
theorem aGY:∀(h:List Hr) (m:Int),(∀r∈h,r.m≠m)->iR h 8 m 0=0:=by
 intro h m hh
 suffices S:∀(h:List Hr) (n:Int),(∀r∈h,r.m≠m)->h.foldl (λn r=>if r.s==8&&r.m==m&&r.a==0 then fV (n+r.n) else n) n=n from S h 0 hh
 intro h;induction h with
 |nil=>intro n _;rfl
 |cons r h ih=>
  grind
theorem aw.aJb {C:Int} {g:Nat} {E:Dk}(H:aw C g E)(hh:E.h= [])(hg:g<=90000) {k:Nat}(hk:k<aA E.x.ms):PQ (lD E k) ((k:Int)+1):=by
 have I:=Ry hh k;have G:=H.a6c hh (k:=k) (by omega);have ir:=H.hs.ml;have hlt:∀r∈(lD E k).h,r.i<(k:Int)+1:=λr hr=>by have:=I.row r hr;omega
 have hhe:iR (lD E k).h 8 ((k:Int)+1) 0=0:=aGY _ _ (λr hr=>by have:=I.row r hr;omega);have h8:=G.bF.tP ((k:Int)+1) 0;have h8n:=G.bF.ok.nn (k:=8) rfl ((k:Int)+1) 0;have hpl:∃n,plcA (lD E k).x.ms.length ((lD E k).x.ss.length+1) 8 ((k:Int)+1) 0=aC n:=by rw [I.x];exact CD (.inr (.inl rfl)) ⟨by omega,by omega⟩ (by omega) (by omega)
 obtain⟨n,hn⟩:=hpl;have hu:CK (lD E k) ((k:Int)+1)=balA (lD E k).x.ms.length ((lD E k).x.ss.length+1) (lD E k).l 8 ((k:Int)+1) 0:=by grind [CK,eH,aL]
 have hr:=G.aK2 ((k:Int)+1);refine⟨G.ok hg,by unfold aL;omega,λx hx=> ?_,I.up, ?_, ?_,by rw [I.len,I.x];exact hk,by rw [I.x];omega,by rw [hu];omega,by rw [hn];simp,by grind [aL],by rw [hu,hhe];omega⟩
 ·have:=(G.ob.each x hx).a;have:=G.hs.sl;unfold aL;omega
 ·refine Xy (aZ _) (λj hj _=>hlt _ (cK hj)) (λhj=>absurd hj (Nat.lt_irrefl _))
 grind [wE]
structure aAN(K:Int)(g:Nat)(D D':Dk):Prop where
 jZ:aw (K+576460752303423488) (g+120) D'
 QK:o8 K D'
 x:D'.x=D.x
 en:D'.en=D.en
 aj:D'.aj=D.aj+1
 up:qI D'.h
 bx:D'.bx=D.bx
 st:D'.st=1
 lg:∃t,D'.log=D.log++t/\∀e∈t,e.k≠15
theorem aw.az {K:Int} {g:Nat} {D:Dk}(H:aw (K+576460752303423488) g D)(F:o8 K D)(hst:D.st=0->D.h= []) {L:List Lg}(hl:aA L<=120)(hI:∀y∈L,y.ok)(hg:g+120<=90000):Ua D L/\(lZ D L=0->aAN K g D (Dz D L)):=by
 have ir:=H.hs.ml;have jt:=H.hs.sl;have hcy:=H.aj;have pP:=a5w L;have key:lZ D L=0->aw (K+576460752303423488) (g+120) (Bz D L)/\(Bz D L).h= []/\o8 K (Bz D L):=λh0=>by
  unfold lZ at h0;by_cases c1:D.st≠0
  ·omega
  rw [ifN c1] at h0;by_cases c2:(aA D.x.cy:Int)<=D.aj
  ·omega
  rw [ifN c2] at h0;by_cases c3:mG D.x L≠0
  ·omega
  rw [ifN c3] at h0;by_cases c4:oX (gh L) (dQ (aA D.x.ss+1)) 0≠0
  ·omega
  rw [ifN c4] at h0;have NF:=aIP H.hs (L:=L) (by omega) (by omega) hI;have hop:D.ob.any ew=aP:=by grind [rF]
  have eO:nz (D.aj+1) (gh L) D.ob=D.ob++(gh L).map (gB (D.aj+1)):=by grind [nz]
  have hO:=H.ob.opened NF (by omega) hop;have kL:=H.hs.cl
  have G0:aw (K+576460752303423488) g (Fo D L):=
   ⟨H.hs,H.bF,H.h8,H.hl,H.fl,H.lg,H.gl,H.who,by show kq _ _ _ _ (nz _ _ _);rw [eO];exact hO,H.bx,H.bl,by show (0:Int)<=1/\(1:Int)<=2;omega,by show 0<=D.aj+1/\D.aj+1<=4;omega⟩
  have G1:=aw.QE (kd:=4) (.inl rfl) (gh L) G0 (λy hy=>⟨(NF.pS y hy).2.1,.inr rfl⟩);refine⟨G1.wide (dM _) H.bF.big (by omega),hst (by omega), ?_⟩;have mE:∀a,dW (oJ a) (nz (D.aj+1) (gh L) D.ob)=dW (oJ a) D.ob:=λa=>by rw [eO,Ru,aF7];omega
  have Qt:∀m a,dW (oI m a) (nz (D.aj+1) (gh L) D.ob)=dW (oI m a) D.ob:=λm a=>by rw [eO,Ru,aF3];omega
  exact⟨λa=>(F.hd a).trans (mE a).symm,λm a=>by
   show _<=B D 7 m a+B D 8 m a+dW (oI m a) (nz (D.aj+1) (gh L) D.ob);rw [Qt];exact F.lo m a,λm a=>by
   show B D 7 m a+B D 8 m a+dW (oI m a) (nz (D.aj+1) (gh L) D.ob)<=_;rw [Qt];exact F.hi m a,F.es⟩
 refine⟨⟨H.ok (by omega),by omega,by omega,⟨by unfold aL;omega,by omega⟩,by omega,λh0 k hk=>(key h0).1.aJb (key h0).2.1 hg hk⟩,λh0=> ?_⟩;obtain⟨G,hh,FT⟩:=key h0;have I:=Ry hh (aA D.x.ms);have GP:=G.a6c hh (k:=aA D.x.ms) (aZ _);refine⟨GP,⟨λa=> ?_,λm a=> ?_,λm a=> ?_,λa=> ?_⟩,I.x,I.en,I.aj,I.up,I.bx,I.st, ?_⟩
 ·unfold B;unfold Dz;rw [I.x,I.l,I.ob];exact FT.hd a
 ·unfold B;unfold Dz;rw [I.x,I.l,I.ob];exact FT.lo m a
 ·unfold B;unfold Dz;rw [I.x,I.l,I.ob];exact FT.hi m a
 ·unfold B;unfold Dz;rw [I.x,I.l];exact FT.es a
 obtain⟨t,e,ht⟩:=(a3D (Fo D L) (kd:=4) (by decide) (gh L)).lg;exact⟨t,I.log.trans e,ht⟩
theorem aL4(l r:List Int):sumI (l++r)=sumI l+sumI r:=by
 induction l with
 |nil=>simp [sumI]
 |cons x l ih=>grind [sumI]
theorem SU(l r:List En)(q:Int×Int×Int):fE (l++r) q=fE l q+fE r q:=by unfold fE gz;grind [aL4]
theorem SX(fk fm tk tm n:Int)(k m a:Int):fE (gg fk fm tk tm n) (k,m,a)=(if k=fk/\m=fm/\a=0 then-n else 0)+(if k=tk/\m=tm/\a=0 then n else 0):=by have h:=SV fk fm tk tm 0 n (k,m,a);grind [lC,gg]
def KF(D:Dk)(k m:Int):Int:=if k=7 then-((lB D (m-1).toNat).a+(lB D (m-1).toNat).b) else if k=8 then (lB D (m-1).toNat).a else if k=9 then (lB D (m-1).toNat).b else 0
theorem a8B(D:Dk)(k m a:Int):∀n:Nat,fE (ng D n) (k,m,a)=if a=0/\1<=m/\m<=(n:Int) then KF D k m else 0
 |0=>by rw [ifN (by omega)];rfl
 |n+1=>by
  unfold ng;rw [SU,SU,a8B D k m a n,SX,SX];by_cases hm:m=(n:Int)+1
  ·have hn:(m-1).toNat=n:=by omega
   grind [KF]
  grind
structure OI(C:Int)(g:Nat)(D D':Dk):Prop where
 jZ:aw (C+1099511627776) g D'
 x:D'.x=D.x
 h:D'.h=D.h
 ob:D'.ob=D.ob
 bx:D'.bx=D.bx
 who:D'.who=D.who
 aj:D'.aj=D.aj
 st:D'.st=D.st
 en:D.en=aP/\D'.en=aO
 log:D'.log=D.log
 k1:∀a,B D' 1 0 a=B D 1 0 a
 k2:∀a,B D' 2 0 a=B D 2 0 a
 lo:∀m a,B D 7 m a+B D 8 m a-1099511627776<=B D' 7 m a+B D' 8 m a
 hi:∀m a,B D' 7 m a+B D' 8 m a<=B D 7 m a+B D 8 m a
theorem aw.KG {C:Int} {g:Nat} {D:Dk}(H:aw C g D)(hg:g<=90000)(hC:C+1099511627776<=4611686018427387904+1125899906842624):JL D/\(vX D=D\/OI C g D (vX D)):=by
 have ir:=H.hs.ml;refine⟨⟨H.ok hg,by omega,λk hk=> ?_,λy hy=> ?_, ?_, ?_⟩, ?_⟩
 ·have h8:=H.bF.tP ((k:Int)+1) 0;have h8n:=H.bF.ok.nn (k:=8) rfl ((k:Int)+1) 0;unfold aL;omega
 ·have:=H.hs.mI y hy;unfold aL;omega
 ·have:=H.hs.li;unfold aL;omega
 ·have:=H.hs.ca;unfold aL;omega
 unfold vX;by_cases he:D.en=aO
 ·grind
 rw [ifN he];have N1:D.en=aP:=by simpa using he
 by_cases hb:Ew D=aO
 ·grind
 rw [ifN hb];refine .inr ?_;have hF:∀v:Int,v<=(if D.en=aO then (1099511627776:Int) else 0)->v<=0:=λv hv=>by grind
 by_cases hv:lf (aA D.x.ms) (aA D.x.ss+1) D.l D.h (fX D)=0
 ·have el:eX D (fX D)=kN (aA D.x.ms) (aA D.x.ss+1) D.l (fX D):=by grind [eX]
  obtain⟨hc,_⟩:=Yl hv;have dU:nT (aA D.x.ms) (aA D.x.ss+1) (eX D (fX D)):=by rw [el];exact nT.post H.bF.ok (by have:=H.hs.sl;omega) hv
  have hd:∀k m a,balA (aA D.x.ms) (aA D.x.ss+1) (eX D (fX D)) k m a=balA (aA D.x.ms) (aA D.x.ss+1) D.l k m a+((if a=0/\1<=m/\m<=(aA D.x.ms:Int) then KF D k m else 0)+((if k=5/\m=0/\a=0 then-D.x.line else 0)+(if k=3/\m=0/\a=0 then D.x.line else 0))+((if k=6/\m=0/\a=0 then-D.x.bW else 0)+(if k=4/\m=0/\a=0 then D.x.bW else 0))):=λk m a=>by rw [el,a6g H.bF.ok.len hc];unfold fX;rw [SU,SU,a8B,SX,SX]
  have Qu:∀m:Int,1<=m->m<=(aA D.x.ms:Int)->(0<=(lB D (m-1).toNat).a/\(lB D (m-1).toNat).a<=1099511627776-balA (aA D.x.ms) (aA D.x.ss+1) D.l 8 m 0)/\0<=(lB D (m-1).toNat).b/\(lB D (m-1).toNat).b<=1099511627776:=λm h1 h2=>by
   have hl:(m-1).toNat<aA D.x.ms:=by omega
   have hi:(lB D (m-1).toNat)=D.x.ms[(m-1).toNat]:=by unfold lB;rw [tC,iG hl,PM]
   have hI:=H.hs.mI _ (cK hl);have hb':DY D (m-1).toNat=aP:=by grind [Ew]
   grind [DY]
  have e8:∀m a,balA (aA D.x.ms) (aA D.x.ss+1) (eX D (fX D)) 8 m a=balA (aA D.x.ms) (aA D.x.ss+1) D.l 8 m a+(if a=0/\1<=m/\m<=(aA D.x.ms:Int) then (lB D (m-1).toNat).a else 0):=λm a=>by rw [hd];simp [KF]
  have e9:∀m a,balA (aA D.x.ms) (aA D.x.ss+1) (eX D (fX D)) 9 m a=balA (aA D.x.ms) (aA D.x.ss+1) D.l 9 m a+(if a=0/\1<=m/\m<=(aA D.x.ms:Int) then (lB D (m-1).toNat).b else 0):=λm a=>by rw [hd];simp [KF]
  have e7:∀m a,balA (aA D.x.ms) (aA D.x.ss+1) (eX D (fX D)) 7 m a=balA (aA D.x.ms) (aA D.x.ss+1) D.l 7 m a+(if a=0/\1<=m/\m<=(aA D.x.ms:Int) then-((lB D (m-1).toNat).a+(lB D (m-1).toNat).b) else 0):=λm a=>by rw [hd];simp [KF]
  have e3:∀a,balA (aA D.x.ms) (aA D.x.ss+1) (eX D (fX D)) 3 0 a=balA (aA D.x.ms) (aA D.x.ss+1) D.l 3 0 a+(if a=0 then D.x.line else 0):=λa=>by rw [hd];simp
  have e4:∀a,balA (aA D.x.ms) (aA D.x.ss+1) (eX D (fX D)) 4 0 a=balA (aA D.x.ms) (aA D.x.ss+1) D.l 4 0 a+(if a=0 then D.x.bW else 0):=λa=>by rw [hd];simp
  have e1:∀a,balA (aA D.x.ms) (aA D.x.ss+1) (eX D (fX D)) 1 0 a=balA (aA D.x.ms) (aA D.x.ss+1) D.l 1 0 a:=λa=>by rw [hd];simp
  have e2:∀a,balA (aA D.x.ms) (aA D.x.ss+1) (eX D (fX D)) 2 0 a=balA (aA D.x.ms) (aA D.x.ss+1) D.l 2 0 a:=λa=>by rw [hd];simp
  have lo:∀m a,balA (aA D.x.ms) (aA D.x.ss+1) D.l 7 m a+balA (aA D.x.ms) (aA D.x.ss+1) D.l 8 m a-1099511627776<=balA (aA D.x.ms) (aA D.x.ss+1) (eX D (fX D)) 7 m a+balA (aA D.x.ms) (aA D.x.ss+1) (eX D (fX D)) 8 m a:=λm a=>by
   rw [e7,e8];by_cases c:a=0/\1<=m/\m<=(aA D.x.ms:Int)
   ·grind
   omega
  have hi:∀m a,balA (aA D.x.ms) (aA D.x.ss+1) (eX D (fX D)) 7 m a+balA (aA D.x.ms) (aA D.x.ss+1) (eX D (fX D)) 8 m a<=balA (aA D.x.ms) (aA D.x.ss+1) D.l 7 m a+balA (aA D.x.ms) (aA D.x.ss+1) D.l 8 m a:=λm a=>by
   rw [e7,e8];by_cases c:a=0/\1<=m/\m<=(aA D.x.ms:Int)
   ·grind
   omega
  refine⟨⟨H.hs,⟨dU,λm a=> ?_,λm a=> ?_,λa=> ?_,λa=> ?_,λm a=> ?_,λm a=> ?_,λa=> ?_,hC,by omega⟩,H.h8,H.hl,λa=>(H.fl a).trans (e1 a).symm,H.lg,H.gl,H.who,H.ob,H.bx,H.bl,H.st,H.aj⟩,rfl,rfl,rfl,rfl,rfl,rfl,rfl,⟨N1,rfl⟩,rfl,e1,e2,lo,hi⟩
  ·refine kD (rX (e8 m a)) ?_;have:=H.bF.tP m a;by_cases c:a=0/\1<=m/\m<=(aA D.x.ms:Int)
   ·grind
   rw [ifN c];omega
  ·refine kD (rX (e9 m a)) ?_;have:=hF _ (H.bF.zu m a);show _<=(1099511627776:Int);by_cases c:a=0/\1<=m/\m<=(aA D.x.ms:Int)
   ·grind
   rw [ifN c];omega
  ·refine kD (rX (e3 a)) ?_;have:=hF _ (H.bF.AU a);have:=H.hs.li;show _<=(1099511627776:Int);split<;>omega
  ·refine kD (rX (e4 a)) ?_;have:=hF _ (H.bF.cap a);have:=H.hs.ca;show _<=(1099511627776:Int);split<;>omega
  ·have h1:=H.bF.lo m a;have h2:=lo m a;have h3:=e1 a;show _<=balA (aA D.x.ms) (aA D.x.ss+1) (eX D (fX D)) 7 m a+balA (aA D.x.ms) (aA D.x.ss+1) (eX D (fX D)) 8 m a-balA (aA D.x.ms) (aA D.x.ss+1) (eX D (fX D)) 1 0 a;omega
  ·have h1:=H.bF.hi m a;have h2:=hi m a;have h3:=e1 a;show balA (aA D.x.ms) (aA D.x.ss+1) (eX D (fX D)) 7 m a+balA (aA D.x.ms) (aA D.x.ss+1) (eX D (fX D)) 8 m a+balA (aA D.x.ms) (aA D.x.ss+1) (eX D (fX D)) 1 0 a<=_;omega
  have h1:=H.bF.es a;have h2:=e2 a;have h3:=e1 a;show balA (aA D.x.ms) (aA D.x.ss+1) (eX D (fX D)) 2 0 a+balA (aA D.x.ms) (aA D.x.ss+1) (eX D (fX D)) 1 0 a<=_;omega
 have el:eX D (fX D)=D.l:=by grind [eX]
 have eD:Mb D= {D with en:=aO}:=by unfold Mb;rw [el]
 rw [eD];have h8:=H.bF;refine⟨⟨H.hs,⟨h8.ok,h8.tP,λm a=> ?_,λa=> ?_,λa=> ?_,λm a=> ?_,λm a=> ?_,λa=> ?_,hC,by omega⟩,H.h8,H.hl,H.fl,H.lg,H.gl,H.who,H.ob,H.bx,H.bl,H.st,H.aj⟩,rfl,rfl,rfl,rfl,rfl,rfl,rfl,⟨N1,rfl⟩,rfl,λ_=>rfl,λ_=>rfl,λm a=> ?_,λm a=>dM _⟩
 ·have:=hF _ (h8.zu m a);show _<=(1099511627776:Int);exact kD this (by decide)
 ·have:=hF _ (h8.AU a);show _<=(1099511627776:Int);exact kD this (by decide)
 ·have:=hF _ (h8.cap a);show _<=(1099511627776:Int);exact kD this (by decide)
 ·have:=h8.lo m a;show-(C+1099511627776)<=balA (aA D.x.ms) (aA D.x.ss+1) D.l 7 m a+balA (aA D.x.ms) (aA D.x.ss+1) D.l 8 m a-balA (aA D.x.ms) (aA D.x.ss+1) D.l 1 0 a;omega
 ·have:=h8.hi m a;show balA (aA D.x.ms) (aA D.x.ss+1) D.l 7 m a+balA (aA D.x.ms) (aA D.x.ss+1) D.l 8 m a+balA (aA D.x.ms) (aA D.x.ss+1) D.l 1 0 a<=_;omega
 ·have:=h8.es a;show balA (aA D.x.ms) (aA D.x.ss+1) D.l 2 0 a+balA (aA D.x.ms) (aA D.x.ss+1) D.l 1 0 a<=_;omega
 grind
def Bx(x:ak):Dk:=⟨x,gP ((aA x.ss+1)*(6+3*aA x.ms)) 0,[],[],[],[],0,0,aP,[]⟩
def a9D(x:ak)(w:aJ)(e:dX)(w':aJ):Prop:=∃db p Am cm As cs Ac cc,e=aT (bC #[bD (aC ⟨db,0,aB⟩),aG aF 0])/\bV w' db p (Bx {x with Am:=Am,cm:=cm,As:=As,cs:=cs,Ac:=Ac,cc:=cc})/\(∀k,eW db p k->w.heap.size<=k)/\aa w.heap.size w w'
theorem fR.made(w:aJ):fR (w.alloc (aK #[aH aB 0 0] 146)) w.heap.size 0 (aH aB 0 0) []:=⟨cQ w _,gG _ _ _ _⟩
theorem a2U(x:ak)(w:aJ)(h:uz w x)(hk:zm x=0)(hm:aA x.ms<=16)(hs:aA x.ss<=8)(hc:aA x.cy<=100):
 aQ aM 10 #[x.val] w (a9D x w):=by
 have aY:Hid (β w (w.alloc (aK #[aH x.Am (aA x.ms) x.cm,aH x.As (aA x.ss) x.cs,aH x.Ac (aA x.cy) x.cc,ν x.line,ν x.bW,ν x.lead,ν x.tr,ν x.bT] 26))):=η σ;have cu:Hid ((w.alloc (aK #[aH x.Am (aA x.ms) x.cm,aH x.As (aA x.ss) x.cs,aH x.Ac (aA x.cy) x.cc,ν x.line,ν x.bW,ν x.lead,ν x.tr,ν x.bT] 26)).heap[w.heap.size]? =aC (aK #[aH x.Am (aA x.ms) x.cm,aH x.As (aA x.ss) x.cs,aH x.Ac (aA x.cy) x.cc,ν x.line,ν x.bW,ν x.lead,ν x.tr,ν x.bT] 26 (0,0))):=η (cQ w _);have hz0:w.heap.size<(w.alloc (aK #[aH x.Am (aA x.ms) x.cm,aH x.As (aA x.ss) x.cs,aH x.Ac (aA x.cy) x.cc,ν x.line,ν x.bW,ν x.lead,ν x.tr,ν x.bT] 26)).heap.size:=by simp
 have bX:=η (λW (hW:β w W)=>(aMF x W (h.below hW) (by omega) (by omega) (by omega)).mono (R':=λe w'=>∃nb Am cm As cs Ac cc,e=aT (bC #[π nb,ν 0])/\jD w' nb ({x with Am:=Am,cm:=cm,As:=As,cs:=cs,Ac:=Ac,cc:=cc}:ak) (aH aB 0 0) []/\wQ w' W.heap.size ({x with Am:=Am,cm:=cm,As:=As,cs:=cs,Ac:=Ac,cc:=cc}:ak)/\W.heap.size<=nb/\β W w') (by
  rintro e w' ⟨hb,⟨q1,_⟩|⟨_,nb,Am,cm,As,cs,Ac,cc,q2,q3,q4,q5⟩⟩
  ·exact absurd hk q1
  exact⟨nb,Am,cm,As,cs,Ac,cc,q2,q3,q4,q5,hb⟩))
 have Jg:=η (λW=>aLh (aA x.ms) (aA x.ss+1) (aA x.ms) hm (by omega) (by omega) W);have B4:=η (λW (hW:β w W)=>a2W x W (h.below hW) (by omega) (by omega) (by omega));have HNS:=η (λW=>aId W);clear h hk;unfold ak.val at bX B4 ⊢;go_enter func10,ntmps10
 go_upto_region 1 with (fail)
 generalize w.alloc (aK #[aH x.Am (aA x.ms) x.cm,aH x.As (aA x.ss) x.cs,aH x.Ac (aA x.cy) x.cc,ν x.line,ν x.bW,ν x.lead,ν x.tr,ν x.bT] 26)=w0 at*;obtain⟨bx,bU⟩:∃bx,bx=w.heap.size:=⟨_,rfl⟩;rw [<-bU] at cu hz0 ⊢;clear bU;have fQ:Hid (∀W,β w0 W->W.cell? ⟨bx,0,aB⟩=aC (aH x.Am (aA x.ms) x.cm)/\W.cell? ⟨bx,1,aB⟩=aC (aH x.As (aA x.ss) x.cs)/\W.cell? ⟨bx,2,aB⟩=aC (aH x.Ac (aA x.cy) x.cc)/\W.cell? ⟨bx,3,aB⟩=aC (ν x.line)/\W.cell? ⟨bx,4,aB⟩=aC (ν x.bW)/\W.cell? ⟨bx,5,aB⟩=aC (ν x.lead)/\W.cell? ⟨bx,6,aB⟩=aC (ν x.tr)/\W.cell? ⟨bx,7,aB⟩=aC (ν x.bT)):=η (λW hW=>by have hd:=(hW.block bx hz0).trans cu.o;exact⟨ρ hd,ρ hd,ρ hd,ρ hd,ρ hd,ρ hd,ρ hd,ρ hd⟩);have eJ:Hid (∀W,β w0 W->β w W):=η (λW hW=>aY.o.trans (hW.mono aY.o.size));obtain⟨d0,d1,d2,d3,d4,d5,d6,d7⟩:=fQ.o w0 (aX _ _);go_upto_region 2 with (go_at_call 30;refine(bX.o _ aY.o).mono ?_;rintro e w1 ⟨nb,Am1,cm1,As1,cs1,Ac1,cc1,rfl,hx1,hc1,kM,hb1⟩;have OM:Hid (β w0 w1):=η hb1;have oC:=η hx1;have uH:=η hc1;have vH:Hid (w.heap.size<=nb):=η (bz aY.o.size kM);clear hx1 hc1 kM hb1)
 clear bX d0 d1 d2 d3 d4 d5 d6 d7 cu;obtain⟨d0,d1,d2,d3,d4,d5,d6,d7⟩:=fQ.o w1 OM.o;have yN:=η (Jg.o w1);rw [show (((aA x.ss+1:Nat)):Int)=(aA x.ss:Int)+1 from by omega] at yN;go_upto_region 5 with (go_at_call 31;refine yN.o.mono ?_;rintro e w2 ⟨vb,vp,rfl,hv2,hs2,hb2⟩;have uG:Hid (β w0 w2):=τ OM hb2;have kU:=η (oC.o.below hb2);have kS:=η (uH.o.below hb2);have UE:=η hv2;have cO:Hid (∀k,qK vb vp k->w.heap.size<=k):=η (λk hk=>bz (eJ.o _ OM.o).size (hs2 k hk));clear hv2 hs2 hb2)
 clear Jg yN OM oC uH d0 d1 d2 d3 d4 d5 d6 d7;obtain⟨d0,d1,d2,d3,d4,d5,d6,d7⟩:=fQ.o w2 uG.o;go_wp2_with (first|(go_at_call 32;refine(B4.o _ (eJ.o _ uG.o)).mono ?_;rintro e w3 ⟨Am,cm,As,cs,Ac,cc,rfl,hc3,hb3⟩;have JO:Hid (β w0 w3):=τ uG hb3;have oD:=η (kU.o.below hb3);have JQ:=η (kS.o.below hb3);have Jo:=η (UE.o.below hb3);have LQ:=η hc3;(try unfold ak.val);(try simp only);clear hc3 hb3)|(go_at_call 33;refine(HNS.o _).mono ?_;rintro e w4 ⟨rfl,rfl⟩))
 go_ret2;have hA:β w3 (w3.alloc (aK #[aH aB 0 0] 146)):=(aX _ _).alloc (aZ _) _;have hB:∀o,β w3 ((w3.alloc (aK #[aH aB 0 0] 146)).alloc o):=λo=>hA.alloc (by simp) _
 have hS:∀o,aa (w3.alloc (aK #[aH aB 0 0] 146)).heap.size (w3.alloc (aK #[aH aB 0 0] 146)) ((w3.alloc (aK #[aH aB 0 0] 146)).alloc o):=λo=>(aX _ _).alloc (aZ _) _
 have hw3:w.heap.size<=w3.heap.size:=(eJ.o _ JO.o).size;refine⟨w3.heap.size+1,⟨vb,vp,w3.heap.size,aH aB 0 0,nb,_,aH aB 0 0,aH aB 0 0,aH aB 0 0⟩,Am,cm,As,cs,Ac,cc,rfl,⟨N2 _ _ (by simp),⟨iD (iJ LQ.o.m (hB _)) (bM _),iD (iJ LQ.o.s (hB _)) (bM _),iD (iJ LQ.o.c (hB _)) (bM _)⟩,Jo.o.below (hB _),(fR.made w3).below (hS _),oD.o.below (hB _),⟨iD (iJ JQ.o.m (hB _)) (bM _),iD (iJ JQ.o.s (hB _)) (bM _),iD (iJ JQ.o.c (hB _)) (bM _)⟩,⟨rfl,rfl,rfl,rfl⟩,gG _ _ _ _,gG _ _ _ _⟩, ?_,(eJ.o _ JO.o).trans ((hB _).mono hw3)⟩;rintro k (e|e|(e|e)|(e|e)|e|e)
 ·subst e;omega
 ·exact cO.o k e
 ·have e':k=w3.heap.size:=e;omega
 ·simp [eF] at e
 ·have e':k=nb:=e;have:=vH.o;omega
 ·simp [eF] at e
 ·simp [eF] at e
 simp [eF] at e
def a9B(D:Dk)(w:aJ)(e:dX)(w':aJ):Prop:=∃db p,e=aT (bD (aC ⟨db,0,aB⟩))/\bV w' db p D/\(∀k,eW db p k->w.heap.size<=k)/\aa w.heap.size w w'
theorem aEm(db:Nat)(p:Dp)(D:Dk)(w:aJ)(H:bV w db p D)(hO:fZ D):
 aQ aM 42 #[π db] w (a9B D w):=by
 obtain⟨Aw,cw,hv⟩:=bL H.who;obtain⟨Al,cl,Im⟩:=bL H.log;have HF:=η H;have HO:=η hO;have cu:Hid ((w.alloc (aK #[aH D.x.Am (aA D.x.ms) D.x.cm,aH D.x.As (aA D.x.ss) D.x.cs,aH D.x.Ac (aA D.x.cy) D.x.cc,ν D.x.line,ν D.x.bW,ν D.x.lead,ν D.x.tr,ν D.x.bT,π p.vb,π p.sb,π p.xb,aH Aw (aA D.who) cw,ν D.aj,ν D.st,bK D.en,aH Al (aA D.log) cl] 90)).heap[w.heap.size]? =aC (aK #[aH D.x.Am (aA D.x.ms) D.x.cm,aH D.x.As (aA D.x.ss) D.x.cs,aH D.x.Ac (aA D.x.cy) D.x.cc,ν D.x.line,ν D.x.bW,ν D.x.lead,ν D.x.tr,ν D.x.bT,π p.vb,π p.sb,π p.xb,aH Aw (aA D.who) cw,ν D.aj,ν D.st,bK D.en,aH Al (aA D.log) cl] 90 (0,0))):=η (cQ w _);have aY:Hid (β w (w.alloc (aK #[aH D.x.Am (aA D.x.ms) D.x.cm,aH D.x.As (aA D.x.ss) D.x.cs,aH D.x.Ac (aA D.x.cy) D.x.cc,ν D.x.line,ν D.x.bW,ν D.x.lead,ν D.x.tr,ν D.x.bT,π p.vb,π p.sb,π p.xb,aH Aw (aA D.who) cw,ν D.aj,ν D.st,bK D.en,aH Al (aA D.log) cl] 90))):=η σ;have hz0:w.heap.size<(w.alloc (aK #[aH D.x.Am (aA D.x.ms) D.x.cm,aH D.x.As (aA D.x.ss) D.x.cs,aH D.x.Ac (aA D.x.cy) D.x.cc,ν D.x.line,ν D.x.bW,ν D.x.lead,ν D.x.tr,ν D.x.bT,π p.vb,π p.sb,π p.xb,aH Aw (aA D.who) cw,ν D.aj,ν D.st,bK D.en,aH Al (aA D.log) cl] 90)).heap.size:=by simp
 have HVC:=η (λW (hW:β w W)=>aLe p.vb p.vp (aA D.x.ms) (aA D.x.ss+1) (aA D.x.ms) D.l D.h W (H.below hW).vt (by have:=hO.hl;omega));have sq:=η (λW (hW:β w W)=>aIa D.ob p.sv p.sb 0 W (H.below hW).sh (by have:=hO.ob.len;omega));have Lz:=η (λW (hW:β w W)=>aME p.xc p.xv D.bx p.xb W (H.below hW).bx (by have:=hO.bl;omega));have xU:=H.lt;obtain⟨c0,c1,c2,c3,c4,c5,c6,c7,c8,c9,c10,c11,c12,c13,c14,c15⟩:=H.cells;rw [hv] at c11;rw [Im] at c15;have HV:=η hv;have rW:=η Im;clear H hO hv Im;go_enter func42,ntmps42
 go_upto_region 4 with (fail)
 clear c0 c1 c2 c3 c4 c5 c6 c7 c8 c9 c10 c11 c12 c13 c14 c15;generalize w.alloc (aK #[aH D.x.Am (aA D.x.ms) D.x.cm,aH D.x.As (aA D.x.ss) D.x.cs,aH D.x.Ac (aA D.x.cy) D.x.cc,ν D.x.line,ν D.x.bW,ν D.x.lead,ν D.x.tr,ν D.x.bT,π p.vb,π p.sb,π p.xb,aH Aw (aA D.who) cw,ν D.aj,ν D.st,bK D.en,aH Al (aA D.log) cl] 90)=w1 at*;obtain⟨bx,bU⟩:∃bx,bx=w.heap.size:=⟨_,rfl⟩;have dJ:=η bU;rw [<-bU] at cu hz0 ⊢;clear bU;have aR:Hid (β w w1.drew):=η aY.o.drew;have qE:Hid (∀W,β w W->W.cell? ⟨db,8,aB⟩=aC (π p.vb)/\W.cell? ⟨db,9,aB⟩=aC (π p.sb)/\W.cell? ⟨db,10,aB⟩=aC (π p.xb)):=η (λW hW=>by have c:=(HF.o.below hW).cells;exact⟨c.c8,c.c9,c.c10⟩);have d0:=qE.o _ aR.o;have oC:Hid (w1.drew.heap[bx]? =aC (aK #[aH D.x.Am (aA D.x.ms) D.x.cm,aH D.x.As (aA D.x.ss) D.x.cs,aH D.x.Ac (aA D.x.cy) D.x.cc,ν D.x.line,ν D.x.bW,ν D.x.lead,ν D.x.tr,ν D.x.bT,π p.vb,π p.sb,π p.xb,aH Aw (aA D.who) cw,ν D.aj,ν D.st,bK D.en,aH Al (aA D.log) cl] 90 (0,0))):=η cu.o;have iB:bx<w1.drew.heap.size:=hz0;clear cu aY hz0;refine Yr (S:=λW=>W.cell? ⟨db,8,aB⟩=aC (π p.vb)/\W.cell? ⟨db,9,aB⟩=aC (π p.sb)/\W.cell? ⟨db,10,aB⟩=aC (π p.xb)) [15,16,17,18,19,20] (by kernel_rfl) d0 (λhHeld=> ?_);clear d0;generalize w1.drew=w2 at*;refine lh (i:=0) (v:=π db) rfl (by kernel_rfl) (by kernel_rfl) (by kernel_rfl) (by kernel_rfl) (by kernel_rfl) (by kernel_rfl) (λ_ _ _ h=>h) (aS ⟨by rfl,λw' hSw=>by obtain⟨s0,s1,s2⟩:=hSw;go_simp⟩) hHeld ?_;refine lh (i:=1) (v:=π db) rfl (by kernel_rfl) (by kernel_rfl) (by kernel_rfl) (by kernel_rfl) (by kernel_rfl) (by kernel_rfl) (λ_ _ _ h=>h) (aS ⟨by rfl,λw' hSw=>by obtain⟨s0,s1,s2⟩:=hSw;go_simp⟩) hHeld ?_;refine lh (i:=2) (v:=bD (aC ⟨db,8,aB⟩)) rfl (by kernel_rfl) (by kernel_rfl) (by kernel_rfl) (by kernel_rfl) (by kernel_rfl) (by kernel_rfl) (λ_ _ _ h=>h) (aS ⟨by rfl,λw' hSw=>by obtain⟨s0,s1,s2⟩:=hSw;go_simp⟩) hHeld ?_;refine lh (i:=3) (v:=π p.vb) rfl (by kernel_rfl) (by kernel_rfl) (by kernel_rfl) (by kernel_rfl) (by kernel_rfl) (by kernel_rfl) (λ_ _ _ h=>h) (aS ⟨by rfl,λw' hSw=>by obtain⟨s0,s1,s2⟩:=hSw;go_simp⟩) hHeld ?_;refine lh (i:=5) (v:=π db) rfl (by kernel_rfl) (by kernel_rfl) (by kernel_rfl) (by kernel_rfl) (by kernel_rfl) (by kernel_rfl) (λ_ _ _ h=>h) (aS ⟨by rfl,λw' hSw=>by obtain⟨s0,s1,s2⟩:=hSw;go_simp⟩) hHeld ?_;refine lh (i:=6) (v:=π db) rfl (by kernel_rfl) (by kernel_rfl) (by kernel_rfl) (by kernel_rfl) (by kernel_rfl) (by kernel_rfl) (λ_ _ _ h=>h) (aS ⟨by rfl,λw' hSw=>by obtain⟨s0,s1,s2⟩:=hSw;go_simp⟩) hHeld ?_;refine lh (i:=7) (v:=bD (aC ⟨db,9,aB⟩)) rfl (by kernel_rfl) (by kernel_rfl) (by kernel_rfl) (by kernel_rfl) (by kernel_rfl) (by kernel_rfl) (λ_ _ _ h=>h) (aS ⟨by rfl,λw' hSw=>by obtain⟨s0,s1,s2⟩:=hSw;go_simp⟩) hHeld ?_;refine lh (i:=8) (v:=π p.sb) rfl (by kernel_rfl) (by kernel_rfl) (by kernel_rfl) (by kernel_rfl) (by kernel_rfl) (by kernel_rfl) (λ_ _ _ h=>h) (aS ⟨by rfl,λw' hSw=>by obtain⟨s0,s1,s2⟩:=hSw;go_simp⟩) hHeld ?_;refine lh (i:=10) (v:=π db) rfl (by kernel_rfl) (by kernel_rfl) (by kernel_rfl) (by kernel_rfl) (by kernel_rfl) (by kernel_rfl) (λ_ _ _ h=>h) (aS ⟨by rfl,λw' hSw=>by obtain⟨s0,s1,s2⟩:=hSw;go_simp⟩) hHeld ?_;refine lh (i:=11) (v:=π db) rfl (by kernel_rfl) (by kernel_rfl) (by kernel_rfl) (by kernel_rfl) (by kernel_rfl) (by kernel_rfl) (λ_ _ _ h=>h) (aS ⟨by rfl,λw' hSw=>by obtain⟨s0,s1,s2⟩:=hSw;go_simp⟩) hHeld ?_;refine lh (i:=12) (v:=bD (aC ⟨db,10,aB⟩)) rfl (by kernel_rfl) (by kernel_rfl) (by kernel_rfl) (by kernel_rfl) (by kernel_rfl) (by kernel_rfl) (λ_ _ _ h=>h) (aS ⟨by rfl,λw' hSw=>by obtain⟨s0,s1,s2⟩:=hSw;go_simp⟩) hHeld ?_;refine lh (i:=13) (v:=π p.xb) rfl (by kernel_rfl) (by kernel_rfl) (by kernel_rfl) (by kernel_rfl) (by kernel_rfl) (by kernel_rfl) (λ_ _ _ h=>h) (aS ⟨by rfl,λw' hSw=>by obtain⟨s0,s1,s2⟩:=hSw;go_simp⟩) hHeld ?_;clear hHeld;refine uC (rs:= [4]) (by kernel_rfl) (by simp) ?_;refine gq.cons rfl (λK hK=> ?_) gq.nil;go_simp
 go_at_call 93
 refine(HVC.o _ aR.o).mono ?_;rintro e w3 ⟨Fp,nvp,rfl,hv3,nu,hb3⟩;have iL:Hid (β w2 w3):=η hb3;have af:Hid (β w w3):=τ aR hb3;have Jo:=η hv3;have iV:Hid (∀k,qK Fp nvp k->w.heap.size<=k):=η (λk hk=>bz aR.o.size (nu k hk));clear hv3 nu hb3;go_wp2_with fail
 refine hK.o _ _ (λ_=>qE.o _ af.o) (λ_=> ?_);clear hK K;refine uC (rs:= [9]) (by kernel_rfl) (by simp) ?_;refine gq.cons rfl (λK hK=> ?_) gq.nil;go_simp
 go_at_call 94
 refine(sq.o _ af.o).mono ?_;rintro e w4 ⟨Dy,nsv,rfl,j8,hn4,hb4⟩;have oA:Hid (β w2 w4):=τ iL hb4;have ar:Hid (β w w4):=τ af hb4;have P4:=η (Jo.o.below hb4);have jT:=η j8;have gM:Hid (w.heap.size<=Dy/\∀k,nsv.ownBlock=aC k->w.heap.size<=k):=η ⟨bz af.o.size hn4,λk hk=>bz af.o.size (j8.own.lt k hk).1⟩;clear j8 hn4 hb4 Jo;go_wp2_with fail
 refine hK.o _ _ (λ_=>qE.o _ ar.o) (λ_=> ?_);clear hK K;refine uC (rs:= [14]) (by kernel_rfl) (by simp) ?_;refine gq.cons rfl (λK hK=> ?_) gq.nil;go_simp
 go_at_call 95
 refine(Lz.o _ ar.o).mono ?_;rintro e w5 ⟨E2,nxv,rfl,Fh,Ia,iY,dA⟩;have EJ:Hid (β w2 w5):=τ oA dA;have cY:Hid (β w w5):=τ ar dA;have UF:=η (P4.o.below dA);have Cq:=η (jT.o.below dA);have HX5:=η Fh;have oq:Hid (w.heap.size<=E2/\∀k,nxv.ownBlock=aC k->w.heap.size<=k):=η ⟨bz ar.o.size Ia,λk hk=>bz ar.o.size (iY k hk)⟩;clear Fh Ia iY dA P4 jT;go_wp2_with fail
 refine hK.o _ _ (λ_=>qE.o _ cY.o) (λ_=> ?_);clear hK K;refine G8 (i:=15) (v:=bD (aC ⟨bx,8,aB⟩)) rfl (by kernel_rfl) (by kernel_rfl) (by kernel_rfl) (by kernel_rfl) (λ_ _ _ h=>h) (aS ⟨by rfl,λw' _=>by go_simp⟩) ?_;refine uC (rs:= [16]) (by kernel_rfl) (by simp) ?_;refine gq.cons rfl (λK hK=> ?_) gq.nil;have b5:=(EJ.o.block bx iB).trans oC.o;have q8:=bH _ bx 8 _ _ (0,0) b5;have q9:=bH _ bx 9 _ _ (0,0) b5;have q10:=bH _ bx 10 _ _ (0,0) b5;have f0:∀j,w5.frozen? ⟨bx,j,aB⟩=aP:=λj=>by simp [iO,b5]
 have iw:=η b5;have a4I:bx<w5.heap.size:=cL iB EJ.o.size;clear b5;go_simp
 refine hK.o _ _ (λh=>absurd h (by decide)) (λ_=> ?_);clear hK K;refine G8 (i:=17) (v:=bD (aC ⟨bx,9,aB⟩)) rfl (by kernel_rfl) (by kernel_rfl) (by kernel_rfl) (by kernel_rfl) (λ_ _ _ h=>h) (aS ⟨by rfl,λw' _=>by go_simp⟩) ?_;refine uC (rs:= [18]) (by kernel_rfl) (by simp) ?_;refine gq.cons rfl (λK hK=> ?_) gq.nil;go_simp
 refine hK.o _ _ (λh=>absurd h (by decide)) (λ_=> ?_);clear hK K;refine G8 (i:=19) (v:=bD (aC ⟨bx,10,aB⟩)) rfl (by kernel_rfl) (by kernel_rfl) (by kernel_rfl) (by kernel_rfl) (λ_ _ _ h=>h) (aS ⟨by rfl,λw' _=>by go_simp⟩) ?_;refine uC (rs:= [20]) (by kernel_rfl) (by simp) ?_;refine gq.cons rfl (λK hK=> ?_) gq.nil;go_simp
 refine hK.o _ _ (λh=>absurd h (by decide)) (λ_=> ?_);clear hK K;refine Yp (by kernel_rfl) ?_ _;clear q8 q9 q10 f0;have hX6:(((w5.setCell ⟨bx,8,aB⟩ (π Fp)).setCell ⟨bx,9,aB⟩ (π Dy)).setCell ⟨bx,10,aB⟩ (π E2)).heap[bx]? =aC (aK #[aH D.x.Am (aA D.x.ms) D.x.cm,aH D.x.As (aA D.x.ss) D.x.cs,aH D.x.Ac (aA D.x.cy) D.x.cc,ν D.x.line,ν D.x.bW,ν D.x.lead,ν D.x.tr,ν D.x.bT,π Fp,π Dy,π E2,aH Aw (aA D.who) cw,ν D.aj,ν D.st,bK D.en,aH Al (aA D.log) cl] 90 (0,0)):=(lz (lz (lz iw.o 8 _) 9 _) 10 _).trans rfl;have QZ:bA (λk=>k=bx) w5 (((w5.setCell ⟨bx,8,aB⟩ (π Fp)).setCell ⟨bx,9,aB⟩ (π Dy)).setCell ⟨bx,10,aB⟩ (π E2)):=(((bA.refl (λk=>k=bx) w5).setCell (p:=⟨bx,8,aB⟩) (.inl rfl) _).setCell (p:=⟨bx,9,aB⟩) (.inl rfl) _).setCell (p:=⟨bx,10,aB⟩) (.inl rfl) _;have dZ:w.heap.size<=bx:=by rw [dJ.o];exact aZ _
 have hB6:β w (((w5.setCell ⟨bx,8,aB⟩ (π Fp)).setCell ⟨bx,9,aB⟩ (π Dy)).setCell ⟨bx,10,aB⟩ (π E2)):=uX _ (uX _ (uX _ cY.o dZ) dZ) dZ;have QY:Ty w5 [90] bx:=⟨_,_,by decide,iw.o⟩;have no:∀ {T:List bZ} {k:Nat},Ty w5 T k->(∀t∈T,t∉ [90])->¬k=bx:=λhk hd hs=>hk.apart (hs▸QY) hd
 have HV6:=η (UF.o.upd QZ (λk hk=>no (UF.o.ty hk) (by decide)));have GX:=η (Cq.o.upd QZ (λk hk=>no hk (by decide)));have qj:=η (HX5.o.upd QZ (λk hk=>no hk (by decide)));have iW:=η hX6;have gK:=η hB6;have cC:=η dZ;clear no QY QZ hX6 hB6 dZ UF Cq HX5 iw cY EJ oA iL ar af qE oC iB a4I HVC sq Lz aR;generalize (((w5.setCell ⟨bx,8,aB⟩ (π Fp)).setCell ⟨bx,9,aB⟩ (π Dy)).setCell ⟨bx,10,aB⟩ (π E2))=w6 at*;have aMq:=(HF.o.below gK.o).lt;go_upto_region 5 with (fail)
 have pD:Hid (∀W,β w W->aW W W.heap.size Aw (D.who.map (aG aF))/\aW W W.heap.size Al (qP D.log)):=η (λW hW=>by have h1:=(HF.o.below hW).who;have h2:=(HF.o.below hW).log;rw [HV.o] at h1;rw [rW.o] at h2;exact⟨aW.cB h1,aW.cB h2⟩);have pC:Hid ((Aw=aB->aA D.who=0)/\(Al=aB->aA D.log=0)):=η (by have h1:=HF.o.who;have h2:=HF.o.log;rw [HV.o] at h1;rw [rW.o] at h2;exact⟨yu h1,yu h2⟩);have OO:=η (λW (hW:β w W)=>aE9 (aA D.who) (D.who.map (aG aF)) Aw cw W (pD.o W hW).1 (by simp) pC.o.1 (a4w D.who) (by have:=HO.o.wl;omega));have yB:=η (λW (hW:β w W)=>a2S (aA D.log) (qP D.log) Al cl W (pD.o W hW).2 (by rw [a3K]) pC.o.2 (Vf D.log) (by have:=HO.o.gl;omega));have qE:Hid (∀W,β w W->W.cell? ⟨db,11,aB⟩=aC (aH Aw (aA D.who) cw)/\W.cell? ⟨db,15,aB⟩=aC (aH Al (aA D.log) cl)):=η (λW hW=>by have c:=(HF.o.below hW).cells;exact⟨by rw [<-HV.o];exact c.c11,by rw [<-rW.o];exact c.c15⟩);have OL:Hid (β w w6.drew):=η gK.o.drew;have d0:=qE.o _ OL.o;have HXD:Hid (w6.drew.heap[bx]? =aC (aK #[aH D.x.Am (aA D.x.ms) D.x.cm,aH D.x.As (aA D.x.ss) D.x.cs,aH D.x.Ac (aA D.x.cy) D.x.cc,ν D.x.line,ν D.x.bW,ν D.x.lead,ν D.x.tr,ν D.x.bT,π Fp,π Dy,π E2,aH Aw (aA D.who) cw,ν D.aj,ν D.st,bK D.en,aH Al (aA D.log) cl] 90 (0,0))):=η iW.o;have HV7:=η (HV6.o.below ((aX w6.heap.size w6).drew));have uR:=η (GX.o.below ((aX w6.heap.size w6).drew));have Cv:=η (qj.o.below ((aX w6.heap.size w6).drew));clear iW gK HV6 GX qj pD pC;refine Yr (S:=λW=>W.cell? ⟨db,11,aB⟩=aC (aH Aw (aA D.who) cw)/\W.cell? ⟨db,15,aB⟩=aC (aH Al (aA D.log) cl)) [10,11,12,13] (by kernel_rfl) d0 (λhHeld=> ?_);clear d0;generalize w6.drew=w7 at*;refine lh (i:=0) (v:=π db) rfl (by kernel_rfl) (by kernel_rfl) (by kernel_rfl) (by kernel_rfl) (by kernel_rfl) (by kernel_rfl) (λ_ _ _ h=>h) (aS ⟨by rfl,λw' hSw=>by obtain⟨s0,s1⟩:=hSw;go_simp⟩) hHeld ?_;refine lh (i:=1) (v:=π db) rfl (by kernel_rfl) (by kernel_rfl) (by kernel_rfl) (by kernel_rfl) (by kernel_rfl) (by kernel_rfl) (λ_ _ _ h=>h) (aS ⟨by rfl,λw' hSw=>by obtain⟨s0,s1⟩:=hSw;go_simp⟩) hHeld ?_;refine lh (i:=2) (v:=bD (aC ⟨db,11,aB⟩)) rfl (by kernel_rfl) (by kernel_rfl) (by kernel_rfl) (by kernel_rfl) (by kernel_rfl) (by kernel_rfl) (λ_ _ _ h=>h) (aS ⟨by rfl,λw' hSw=>by obtain⟨s0,s1⟩:=hSw;go_simp⟩) hHeld ?_;refine lh (i:=3) (v:=aH Aw (aA D.who) cw) rfl (by kernel_rfl) (by kernel_rfl) (by kernel_rfl) (by kernel_rfl) (by kernel_rfl) (by kernel_rfl) (λ_ _ _ h=>h) (aS ⟨by rfl,λw' hSw=>by obtain⟨s0,s1⟩:=hSw;go_simp⟩) hHeld ?_;refine lh (i:=5) (v:=π db) rfl (by kernel_rfl) (by kernel_rfl) (by kernel_rfl) (by kernel_rfl) (by kernel_rfl) (by kernel_rfl) (λ_ _ _ h=>h) (aS ⟨by rfl,λw' hSw=>by obtain⟨s0,s1⟩:=hSw;go_simp⟩) hHeld ?_;refine lh (i:=6) (v:=π db) rfl (by kernel_rfl) (by kernel_rfl) (by kernel_rfl) (by kernel_rfl) (by kernel_rfl) (by kernel_rfl) (λ_ _ _ h=>h) (aS ⟨by rfl,λw' hSw=>by obtain⟨s0,s1⟩:=hSw;go_simp⟩) hHeld ?_;refine lh (i:=7) (v:=bD (aC ⟨db,15,aB⟩)) rfl (by kernel_rfl) (by kernel_rfl) (by kernel_rfl) (by kernel_rfl) (by kernel_rfl) (by kernel_rfl) (λ_ _ _ h=>h) (aS ⟨by rfl,λw' hSw=>by obtain⟨s0,s1⟩:=hSw;go_simp⟩) hHeld ?_;refine lh (i:=8) (v:=aH Al (aA D.log) cl) rfl (by kernel_rfl) (by kernel_rfl) (by kernel_rfl) (by kernel_rfl) (by kernel_rfl) (by kernel_rfl) (λ_ _ _ h=>h) (aS ⟨by rfl,λw' hSw=>by obtain⟨s0,s1⟩:=hSw;go_simp⟩) hHeld ?_;clear hHeld;refine uC (rs:= [4]) (by kernel_rfl) (by simp) ?_;refine gq.cons rfl (λK hK=> ?_) gq.nil;go_simp
 go_at_call 40
 refine(OO.o _ OL.o).mono ?_;rintro e w8 ⟨nwv,rfl,how,kK⟩;have iL:Hid (β w7 w8):=η kK;have mN:Hid (β w w8):=τ OL kK;have HOW:=η (iD how OL.o.size);clear how kK;go_wp2_with fail
 refine hK.o _ _ (λ_=>qE.o _ mN.o) (λ_=> ?_);clear hK K;refine uC (rs:= [9]) (by kernel_rfl) (by simp) ?_;refine gq.cons rfl (λK hK=> ?_) gq.nil;go_simp
 go_at_call 34
 refine(yB.o _ mN.o).mono ?_;rintro e w9 ⟨nlv,rfl,l9,ez⟩;have oA:Hid (β w7 w9):=τ iL ez;have gL:Hid (β w w9):=τ mN ez;have Ox:=η (iJ HOW.o ez);have EX:=η (iD l9 mN.o.size);clear l9 ez HOW;go_wp2_with fail
 refine hK.o _ _ (λ_=>qE.o _ gL.o) (λ_=> ?_);clear hK K;obtain⟨EE,Hu,hv2⟩:=bL Ox.o;obtain⟨Yt,cl2,aH2⟩:=bL EX.o;subst hv2 aH2;have a4J:bx<w7.heap.size:=(fY.1 HXD.o).1;refine G8 (i:=10) (v:=bD (aC ⟨bx,11,aB⟩)) rfl (by kernel_rfl) (by kernel_rfl) (by kernel_rfl) (by kernel_rfl) (λ_ _ _ h=>h) (aS ⟨by rfl,λw' _=>by go_simp⟩) ?_;refine uC (rs:= [11]) (by kernel_rfl) (by simp) ?_;refine gq.cons rfl (λK hK=> ?_) gq.nil;have b9:=(oA.o.block bx a4J).trans HXD.o;have q11:=bH _ bx 11 _ _ (0,0) b9;have q15:=bH _ bx 15 _ _ (0,0) b9;have f0:∀j,w9.frozen? ⟨bx,j,aB⟩=aP:=λj=>by simp [iO,b9]
 have iw:=η b9;have aMl:bx<w9.heap.size:=cL a4J oA.o.size;clear b9;go_simp
 refine hK.o _ _ (λh=>absurd h (by decide)) (λ_=> ?_);clear hK K;refine G8 (i:=12) (v:=bD (aC ⟨bx,15,aB⟩)) rfl (by kernel_rfl) (by kernel_rfl) (by kernel_rfl) (by kernel_rfl) (λ_ _ _ h=>h) (aS ⟨by rfl,λw' _=>by go_simp⟩) ?_;refine uC (rs:= [13]) (by kernel_rfl) (by simp) ?_;refine gq.cons rfl (λK hK=> ?_) gq.nil;go_simp
 refine hK.o _ _ (λh=>absurd h (by decide)) (λ_=> ?_);clear hK K;refine Yp (by kernel_rfl) ?_ _;clear q11 q15 f0;go_wp2_with fail
 go_ret;have hU:bA (λk=>k=bx) w9 ((w9.setCell ⟨bx,11,aB⟩ (aH EE (aA D.who) Hu)).setCell ⟨bx,15,aB⟩ (aH Yt (aA D.log) cl2)):=((bA.refl (λk=>k=bx) w9).setCell (p:=⟨bx,11,aB⟩) (.inl rfl) _).setCell (p:=⟨bx,15,aB⟩) (.inl rfl) _;have QY:Ty w9 [90] bx:=⟨_,_,by decide,iw.o⟩;have no:∀ {T:List bZ} {k:Nat},Ty w9 T k->(∀t∈T,t∉ [90])->¬k=bx:=λhk hd hs=>hk.apart (hs▸QY) hd
 have LU:=HF.o.below gL.o;have HV9:=HV7.o.below oA.o;have Cr:=uR.o.below oA.o;have P6:=Cv.o.below oA.o;refine⟨bx,⟨Fp,nvp,Dy,nsv,E2,p.xc,nxv,aH EE (aA D.who) Hu,aH Yt (aA D.log) cl2⟩,rfl,⟨(lz (lz iw.o 11 _) 15 _).trans rfl,LU.cf.upd hU (λk hk=>no hk (by decide)),HV9.upd hU (λk hk=>no (HV9.ty hk) (by decide)),⟨(Cr.upd hU (λk hk=>no hk (by decide))).s,iD (Cr.upd hU (λk hk=>no hk (by decide))).own (bM _)⟩,P6.upd hU (λk hk=>no hk (by decide)),LU.CN.upd hU (λk hk=>no hk (by decide)),HF.o.same,iD (hU.own Ox.o (λk hk=>no (Ty.own Ox.o hk) (by decide))) (bM _),iD (hU.own EX.o (λk hk=>no (Ty.own EX.o hk) (by decide))) (bM _)⟩, ?_,uX _ (uX _ gL.o cC.o) cC.o⟩;rintro k (e|e|(e|e)|(e|e)|e|e)
 ·subst e;exact cC.o
 ·exact iV.o k e
 ·have e':k=Dy:=e;have:=gM.o.1;omega
 ·exact gM.o.2 k e
 ·have e':k=E2:=e;have:=oq.o.1;omega
 ·exact oq.o.2 k e
 ·exact(Ox.o.lt k e).1
 exact(EX.o.lt k e).1
def aAW(w:aJ)(e:dX)(w':aJ):Prop:=∃(Am:Option ai) (cm:Nat) (As:Option ai) (cs:Nat) (Ac:Option ai) (cc:Nat),
 e=aT (ak.val ⟨[⟨1000,100⟩,⟨1000,100⟩,⟨1000,100⟩],Am,cm,[⟨10,12⟩],As,cs,[⟨4,7,9,10⟩],Ac,cc,500,200,1,64,32⟩)/\uz w' ⟨[⟨1000,100⟩,⟨1000,100⟩,⟨1000,100⟩],Am,cm,[⟨10,12⟩],As,cs,[⟨4,7,9,10⟩],Ac,cc,500,200,1,64,32⟩/\β w w'
theorem aJU(w:aJ):aQ aM 24 #[aG aF 3,aG aF 1,aG aF 1] w (aAW w):=by
 obtain⟨i0,bu,hz0,fw,hz2⟩:=dP aHs;obtain⟨j0,AE,Kj,aH5,nM⟩:=dP aKP;obtain⟨k0,ej,hx0,aH4,hx2⟩:=dP aDT;have HST:=η (aJT w);go_enter func24,ntmps24
 go_wp2_with fail
 refine(Xg _ _ _ _ (by omega) (by omega)).mono ?_;rintro e w1 ⟨rfl,rfl⟩;go_wp2_with fail
 go_loopw [12] (λi wr=>∃k:Nat,k<=3/\i=aG aF k/\Hid (∃v,ik w wr v (aH aB 0 0) (aH aB 0 0) (gP k ⟨1000,100⟩) [] [])) (λi _=>3-(ag i).toNat)
 case atStart=>exact⟨0,bM _,rfl,⟨_,HST.o⟩⟩
 case round=>
  obtain⟨k,hk,rfl,HP⟩:=hrel;obtain⟨v,hp⟩:=HP.o;have HQ:=η hp;have q0:wr.cell? ⟨w.heap.size+1,0,aB⟩=aC v:=hp.c 0;have ql:=hp.lt;by_cases hlt:k<3
  ·go_wp2_with (at_builtin;refine jC _ rfl _ _ 22 rfl (w.heap.size+2) 67 i0 _ 2 16 underlying22 bu hz0 fw hz2 rfl (by decide) _ (aA (gP k (⟨1000,100⟩:Pr))) (je (gP k ⟨1000,100⟩)) rfl (HQ.o.o0.alloc _) ⟨wr.heap.size,0,aB⟩ 1 1 [aG aF 1000,aG aF 100] rfl rfl (dS _ _ #[_,_] (by simp)) a8Q (by simp only [bO,BN];omega) (by simp only [BN];omega) (by simp;omega) ?_)
   intro v' w4 hown1 dK _;obtain⟨A',c',rfl⟩:=bL hown1;obtain⟨r0,r1,r2⟩:=HQ.o.m0 dK;have HN:=η (HQ.o.m (y:=⟨1000,100⟩) (by rw [BN];exact hown1) dK);rw [<-a6u] at HN;clear hown1 dK q0 ql;go_wp2_with fail
   go_roundw
   case rel=>exact⟨k+1,by omega,by go_num,⟨_,HN.o⟩⟩
   case measure=>simp [ag];omega
  obtain rfl:k=3:=by omega
  clear q0 ql;obtain⟨wo,rfl⟩:∃wo:aJ,wo=wr:=⟨_,rfl⟩;have BH:Hid (ik w wo v (aH aB 0 0) (aH aB 0 0) [⟨1000,100⟩,⟨1000,100⟩,⟨1000,100⟩] [] []):=HQ.o;go_wp2_with fail
  refine(Xg _ _ _ _ (by omega) (by omega)).mono ?_;rintro e w1 ⟨rfl,rfl⟩;go_wp2_with fail
  go_loopw [23] (λi wr=>∃k:Nat,k<=1/\i=aG aF k/\Hid (∃v1,ik w wr v v1 (aH aB 0 0) [⟨1000,100⟩,⟨1000,100⟩,⟨1000,100⟩] (gP k ⟨10,12⟩) [])) (λi _=>1-(ag i).toNat)
  case atStart=>exact⟨0,bM _,rfl,⟨_,BH.o⟩⟩
  case round=>
   obtain⟨k,hk,rfl,HP⟩:=hrel;obtain⟨v1,hp⟩:=HP.o;have HQ:=η hp;have q0:wr.cell? ⟨w.heap.size+1,1,aB⟩=aC v1:=hp.c 1;have ql:=hp.lt;by_cases hlt:k<1
   ·go_wp2_with (at_builtin;refine jC _ rfl _ _ 23 rfl (w.heap.size+2) 69 j0 _ 2 16 underlying23 AE Kj aH5 nM rfl (by decide) _ (aA (gP k (⟨10,12⟩:Pr))) (je (gP k ⟨10,12⟩)) rfl (HQ.o.o1.alloc _) ⟨wr.heap.size,0,aB⟩ 1 1 [aG aF 10,aG aF 12] rfl rfl (dS _ _ #[_,_] (by simp)) a8Q (by simp only [bO,BN];omega) (by simp only [BN];omega) (by simp;omega) ?_)
    intro v' w4 hown1 dK _;obtain⟨A',c',rfl⟩:=bL hown1;obtain⟨r0,r1,r2⟩:=HQ.o.s0 dK;have HN:=η (HQ.o.s (y:=⟨10,12⟩) (by rw [BN];exact hown1) dK);rw [<-a6u] at HN;clear hown1 dK q0 ql;go_wp2_with fail
    go_roundw
    case rel=>exact⟨k+1,by omega,by go_num,⟨_,HN.o⟩⟩
    case measure=>simp [ag];omega
   obtain rfl:k=1:=by omega
   clear q0 ql;obtain⟨wp,rfl⟩:∃wp:aJ,wp=wr:=⟨_,rfl⟩;have lT:Hid (ik w wp v v1 (aH aB 0 0) [⟨1000,100⟩,⟨1000,100⟩,⟨1000,100⟩] [⟨10,12⟩] []):=HQ.o;go_wp2_with fail
   refine(Xg _ _ _ _ (by omega) (by omega)).mono ?_;rintro e w1 ⟨rfl,rfl⟩;go_wp2_with fail
   go_loopw [8,34] (λ_ i wr=>∃k:Nat,k<=1/\i=aG aF k/\Hid (∃v2,ik w wr v v1 v2 [⟨1000,100⟩,⟨1000,100⟩,⟨1000,100⟩] [⟨10,12⟩] (gP k ⟨4,7,9,10⟩))) (λ_ i _=>1-(ag i).toNat)
   case atStart=>exact⟨0,bM _,rfl,⟨_,lT.o⟩⟩
   case round=>
    obtain⟨k,hk,rfl,HP⟩:=hrel;obtain⟨v2,hp⟩:=HP.o;by_cases hlt:k<1
    ·obtain rfl:k=0:=by omega
     have HQ:=η hp;have q0:wr.cell? ⟨w.heap.size+1,2,aB⟩=aC v2:=hp.c 2;have ql:=hp.lt;go_wp2_with (at_builtin;refine jC _ rfl _ _ 24 rfl (w.heap.size+2) 71 k0 _ 4 32 underlying24 ej hx0 aH4 hx2 rfl (by decide) _ 0 [] rfl (HQ.o.o2.alloc _) ⟨wr.heap.size,0,aB⟩ 1 1 [aG aF 4,aG aF 7,aG aF 9,aG aF 10] rfl rfl (dS _ _ #[_,_,_,_] (by simp)) a3R (by simp only [bO];omega) (by omega) (by simp;omega) ?_)
     intro v' w4 hown1 dK _;obtain⟨A',c',rfl⟩:=bL hown1;obtain⟨r0,r1,r2⟩:=HQ.o.y0 dK;have HN:=η (HQ.o.y (y:=⟨4,7,9,10⟩) hown1 dK);clear hown1 dK q0 ql;go_wp2_with fail
     go_roundw
     case rel=>exact⟨1,by omega,by go_num,⟨_,HN.o⟩⟩
     case measure=>simp [ag]
    obtain rfl:k=1:=by omega
    have HQ:Hid (ik w wr v v1 v2 [⟨1000,100⟩,⟨1000,100⟩,⟨1000,100⟩] [⟨10,12⟩] [⟨4,7,9,10⟩]):=hp;obtain⟨A0,n0,rfl⟩:=bL HQ.o.o0;obtain⟨A1,n1,rfl⟩:=bL HQ.o.o1;obtain⟨A2,n2,rfl⟩:=bL HQ.o.o2;have q0:wr.cell? ⟨w.heap.size+1,0,aB⟩=aC (aH A0 3 n0):=HQ.o.c 0;have q1:wr.cell? ⟨w.heap.size+1,1,aB⟩=aC (aH A1 1 n1):=HQ.o.c 1;have q2:wr.cell? ⟨w.heap.size+1,2,aB⟩=aC (aH A2 1 n2):=HQ.o.c 2;have q3:wr.cell? ⟨w.heap.size+1,3,aB⟩=aC (aG aF 500):=HQ.o.c 3;have q4:wr.cell? ⟨w.heap.size+1,4,aB⟩=aC (aG aF 200):=HQ.o.c 4;have q5:wr.cell? ⟨w.heap.size+1,5,aB⟩=aC (aG aF 1):=HQ.o.c 5;have q6:wr.cell? ⟨w.heap.size+1,6,aB⟩=aC (aG aF 64):=HQ.o.c 6;have q7:wr.cell? ⟨w.heap.size+1,7,aB⟩=aC (aG aF 32):=HQ.o.c 7;have r0:wr.cell? ⟨w.heap.size,0,aB⟩=aC (aH aB 0 0):=HQ.o.r 0;have r1:wr.cell? ⟨w.heap.size,1,aB⟩=aC (aH aB 0 0):=HQ.o.r 1;have r2:wr.cell? ⟨w.heap.size,2,aB⟩=aC (aH aB 0 0):=HQ.o.r 2;have r3:wr.cell? ⟨w.heap.size,3,aB⟩=aC (aG aF 0):=HQ.o.r 3;have r4:wr.cell? ⟨w.heap.size,4,aB⟩=aC (aG aF 0):=HQ.o.r 4;have r5:wr.cell? ⟨w.heap.size,5,aB⟩=aC (aG aF 0):=HQ.o.r 5;have r6:wr.cell? ⟨w.heap.size,6,aB⟩=aC (aG aF 0):=HQ.o.r 6;have r7:wr.cell? ⟨w.heap.size,7,aB⟩=aC (aG aF 0):=HQ.o.r 7;have g0:=HQ.o.rf;go_wp2_with fail
    obtain⟨hR,p0,p1,p2,yf⟩:=((((((((HQ.o.two).set 0 (aH A0 3 n0)).set 1 (aH A1 1 n1)).set 2 (aH A2 1 n2)).set 3 (aG aF 500)).set 4 (aG aF 200)).set 5 (aG aF 1)).set 6 (aG aF 64)).set 7 (aG aF 32);rw [aKZ] at hR;have Eb:=η hR;have wU:=η p0;have yD:=η p1;have mr:=η p2;have wT:=η yf;clear hR p0 p1 p2 yf q0 q1 q2 q3 q4 q5 q6 q7 r0 r1 r2 r3 r4 r5 r6 r7 g0 HQ;generalize (((((((wr.setCell ⟨w.heap.size,0,aB⟩ (aH A0 3 n0)).setCell ⟨w.heap.size,1,aB⟩ (aH A1 1 n1)).setCell ⟨w.heap.size,2,aB⟩ (aH A2 1 n2)).setCell ⟨w.heap.size,3,aB⟩ (aG aF 500)).setCell ⟨w.heap.size,4,aB⟩ (aG aF 200)).setCell ⟨w.heap.size,5,aB⟩ (aG aF 1)).setCell ⟨w.heap.size,6,aB⟩ (aG aF 64)).setCell ⟨w.heap.size,7,aB⟩ (aG aF 32)=W8 at*;have r0:W8.cell? ⟨w.heap.size,0,aB⟩=aC (aH A0 3 n0):=(ρ Eb.o).trans rfl;have r1:W8.cell? ⟨w.heap.size,1,aB⟩=aC (aH A1 1 n1):=(ρ Eb.o).trans rfl;have r2:W8.cell? ⟨w.heap.size,2,aB⟩=aC (aH A2 1 n2):=(ρ Eb.o).trans rfl;have r3:W8.cell? ⟨w.heap.size,3,aB⟩=aC (aG aF 500):=(ρ Eb.o).trans rfl;have r4:W8.cell? ⟨w.heap.size,4,aB⟩=aC (aG aF 200):=(ρ Eb.o).trans rfl;have r5:W8.cell? ⟨w.heap.size,5,aB⟩=aC (aG aF 1):=(ρ Eb.o).trans rfl;have r6:W8.cell? ⟨w.heap.size,6,aB⟩=aC (aG aF 64):=(ρ Eb.o).trans rfl;have r7:W8.cell? ⟨w.heap.size,7,aB⟩=aC (aG aF 32):=(ρ Eb.o).trans rfl;exact bodyPost_ret (v:=bP #[aH A0 3 n0,aH A1 1 n1,aH A2 1 n2,aG aF 500,aG aF 200,aG aF 1,aG aF 64,aG aF 32]) (by simp [results,results24,go_sem,r0,r1,r2,r3,r4,r5,r6,r7]) rfl ⟨A0,n0,A1,n1,A2,n2,rfl,⟨⟨aW.cB wU.o,aW.cB yD.o,aW.cB mr.o⟩,λe=>by have:=yu wU.o e;omega,λe=>by have:=yu yD.o e;omega,λe=>by have:=yu mr.o e;omega⟩,wT.o⟩
section
open Go.Lib
def Hv:Nat->Nat->List Nat
 |0,_=> []
 |n+1,v=>v % 65536::Hv n (v/65536)
def val:List Nat->Nat
 | []=>0
 |x::xs=>x+65536*val xs
theorem a2n:∀(ns:List Nat),(∀x∈ns,x<65536)->ns=Hv (aA ns) (val ns)
 | [],_=>rfl
 |x::xs,h=>by
  have h1:=h x (by simp);have ih:=a2n xs λy hy=>h y (by simp [hy])
  simp only [uS,Hv,val];have e1:(x+65536*val xs) % 65536=x:=by omega
  have e2:(x+65536*val xs)/65536=val xs:=by omega
  rw [e1,e2,<-ih]
theorem a5f(a:Nat)(ha:a<18446744073709551616):bits .and .u64 (a:Int) 65535=((a % 65536:Nat):Int):=by have h:=bits_and_u64_nat a 65535 ha (by omega);have e:a&&&65535=a % 65536:=Nat.and_two_pow_sub_one_eq_mod a 16;rw [e] at h;exact h
end
section
open Go.Lib Go.Sort
theorem Yi:∀(ns:List Nat) (j:Nat) (hj:j<aA ns) (t:Nat),val (ns.set j t)+ns[j]*65536^j=val ns+t*65536^j
 | [],_,hj,_=>by simp at hj
 |x::xs,0,_,t=>by simp [val];omega
 |x::xs,j+1,hj,t=>by have ih:=Yi xs j (by simpa using hj) t;simp only [List.set_cons_succ,val,aA5,PK];rw [<-PJ,<-PJ];omega
section
variable {w w':aJ} {b B:Nat} {ns:List Nat}
end
def upto(x:Nat->Nat):Nat->Nat
 |0=>0
 |k+1=>upto x k+x k*65536^k
end
section
open Go.Lib Go.Sort
end
section
open Go.Lib Go.Sort Go.Proofs.YtdokipdchlcmeaaGreat.pJ Go.Proofs.YtdokipdchlcmeaaGreat.ShareLaw
end
section
open Go.Lib Go.Sort Go.Proofs.YtdokipdchlcmeaaGreat.pJ Go.Proofs.YtdokipdchlcmeaaGreat.ShareLaw
section
variable {w wr w':aJ} {u v u':aN} {n:Nat} {ps rs:List Int}
end
section
variable {T S:Int} {W:Nat->Int} {n:Nat}
end
end
section
open Go.Lib Go.Sort
def tE(w:aJ)(b:Nat)(ns:List Nat):Prop:=w.heap[b]? =aC (aK (ns.map λ(n:Nat)=>aG .u64 (n:Int)).toArray 281 (0,0))
section
variable {w w':aJ} {b B:Nat} {ns:List Nat}
theorem tE.cell(h:tE w b ns) {i:Nat}(hi:i<aA ns):w.cell? ⟨b,i,aB⟩=aC (aG .u64 (ns[i]:Int)):=by rw [bH w b i _ 281 (0,0) h];simp [hi]
theorem tE.free(h:tE w b ns)(i:Nat):w.frozen? ⟨b,i,aB⟩=aP:=KH w b i _ 281 h
theorem tE.drew(h:tE w b ns):tE w.drew b ns:=h
theorem tE.set(h:tE w b ns)(i:Nat)(v:Nat):tE (w.setCell ⟨b,i,aB⟩ (aG .u64 (v:Int))) b (ns.set i v):=by unfold tE at*;rw [setCell_eq,mapBlock,Array.getElem?_modify,ifP rfl,h];simp [onCells,List.map_set]
theorem tE.new(w:aJ)(ns:List Nat):tE (w.alloc (aK (ns.map λ(n:Nat)=>aG .u64 (n:Int)).toArray 281)) w.heap.size ns:=cQ w _
end
structure MJ(bn Y M:Nat)(x y:Nat->Nat)(i k:Nat)(w3:aJ)(ns:List Nat)(wr:aJ):Prop where
 len:aA ns=8
 row:tE wr bn ns
 vl:val ns=upto x i*Y+x i*65536^i*upto y k
 bd:∀j (h:j<aA ns),ns[j]<=(4*i+k)*M
 b:aa bn w3 wr
theorem MJ.next {bn i Y M:Nat} {x y:Nat->Nat} {w3 wr:aJ} {ns:List Nat}(hY:upto y 4=Y)(h:MJ bn Y M x y i 4 w3 ns wr):MJ bn Y M x y (i+1) 0 w3 ns wr:=by
 refine⟨h.len,h.row, ?_,λj hj=> ?_,h.b⟩
 ·rw [h.vl,hY,show upto x (i+1)=upto x i+x i*65536^i from rfl,show upto y 0=0 from rfl,aAM,Gp,Gm]
 have:=h.bd j hj;rw [show 4*(i+1)+0=4*i+4 by omega];exact this
theorem MJ.step {bn i k p j Y M:Nat} {x y:Nat->Nat} {w3 wr:aJ} {ns:List Nat}(h:MJ bn Y M x y i k w3 ns wr)(hj:j<aA ns)(js:j=i+k)(hp:p=x i*y k)(hpl:p<=M):MJ bn Y M x y i (k+1) w3 (ns.set j (ns[j]+p)) (wr.setCell ⟨bn,j,aB⟩ (aG .u64 ((ns[j]+p:Nat):Int))).drew:=by
 refine⟨by rw [xD];exact h.len,(h.row.set j (ns[j]+p)).drew, ?_,λq hq=> ?_,(h.b.setCell (aZ _) _).drew⟩
 ·have hv:=Yi ns j hj (ns[j]+p);have e:p*65536^j=x i*65536^i*(y k*65536^k):=by
   rw [hp,js,Nat.pow_add];simp only [PJ,Nat.mul_left_comm]
  rw [Gm,h.vl,e] at hv;rw [show upto y (k+1)=upto y k+y k*65536^k from rfl,Nat.mul_add];generalize x i*65536^i*(y k*65536^k)=A at*;generalize ns[j]*65536^j=B at*;generalize x i*65536^i*upto y k=C at*;generalize upto x i*Y=D at*;omega
 rw [xD] at hq;have h1:=h.bd q hq;have e:(4*i+(k+1))*M=(4*i+k)*M+M:=by rw [<-Nat.add_assoc,Gm,Nat.one_mul]
 rw [PH,e];split
 ·rename_i c;subst c;omega
 omega
structure CJ(bn V i c:Nat)(w4:aJ)(ns:List Nat)(wr:aJ):Prop where
 len:aA ns=8
 row:tE wr bn ns
 lo:∀j (h:j<aA ns),j<i->ns[j]<65536
 bd:∀j (h:j<aA ns),ns[j]<=68717379600
 cb:c<=68717379600
 vl:val ns+c*65536^i=V
 b:aa bn w4 wr
theorem CJ.step {bn V i c t:Nat} {w4 wr:aJ} {ns:List Nat}(h:CJ bn V i c w4 ns wr)(hi:i<aA ns)(ht:t=ns[i]+c):CJ bn V (i+1) (t/65536) w4 (ns.set i (t % 65536)) ((wr.setCell ⟨bn,i,aB⟩ (aG .u64 (t:Int))).setCell ⟨bn,i,aB⟩ (aG .u64 ((t % 65536:Nat):Int))):=by
 have hb:=h.bd i hi;have hc:=h.cb;refine⟨by rw [xD];exact h.len, ?_,λj hj js=> ?_,λj hj=> ?_,by omega, ?_,(h.b.setCell (aZ _) _).setCell (aZ _) _⟩
 ·have:=(h.row.set i t).set i (t % 65536);rw [List.set_set] at this;exact this
 ·rw [xD] at hj;rw [PH];split
  ·omega
  exact h.lo j hj (by omega)
 ·rw [xD] at hj;rw [PH];split
  ·omega
  exact h.bd j hj
 have hv:=Yi ns i hi (t % 65536);have h1:=h.vl;rw [PK,<-PJ,aAL];have e:t/65536*65536*65536^i+t % 65536*65536^i=ns[i]*65536^i+c*65536^i:=by rw [<-Gm,<-Gm];congr 1;omega
 generalize t/65536*65536*65536^i=A at*;generalize t % 65536*65536^i=B at*;generalize ns[i]*65536^i=C at*;generalize c*65536^i=D at*;omega
theorem CJ.ends {bn V c:Nat} {w4 wr:aJ} {ns:List Nat}(h:CJ bn V 8 c w4 ns wr)(hV:V<340282366920938463463374607431768211456):ns=Hv 8 V:=by
 have h1:=h.vl;have hc:c=0:=by
  rcases Nat.eq_zero_or_pos c with e|e
  ·exact e
  exfalso;have:1*65536^8<=c*65536^8:=Gr _ e;have e8:(65536:Nat)^8=340282366920938463463374607431768211456:=by decide
  rw [e8] at h1 this;omega
 rw [hc,Nat.zero_mul,Gp] at h1;have hd:=a2n ns λx hx=>by obtain⟨j,hj,rfl⟩:=tD.1 hx;exact h.lo j hj (by have:=h.len;omega)
 rw [h.len,h1] at hd;exact hd
def rq(a j:Nat):Nat:=a/65536^j % 65536
theorem a8U(a:Nat):∀k,upto (rq a) k+a/65536^k*65536^k=a
 |0=>by simp [upto]
 |k+1=>by
  have ih:=a8U a k;have h:=M8 (a/65536^k) 65536;rw [Nat.div_div_eq_div_mul,<-PK] at h;show upto (rq a) k+a/65536^k % 65536*65536^k+a/65536^(k+1)*65536^(k+1)=a;have e:a/65536^k*65536^k=a/65536^k % 65536*65536^k+a/65536^(k+1)*65536^(k+1):=by rw [PK 65536 k,<-PJ,aAL,<-Gm];congr 1;rw [<-PK];omega
  omega
theorem a8T {a:Nat}(h:a<18446744073709551616):upto (rq a) 4=a:=by have h1:=a8U a 4;have h2:a/65536^4=0:=Nat.div_eq_of_lt (Nat.lt_of_lt_of_eq h (by decide:(18446744073709551616:Nat)=65536^4));rw [h2,Nat.zero_mul,Gp] at h1;exact h1
theorem a2m(a j:Nat):rq a j<=65535:=by unfold rq;omega
theorem a2l {a s i:Nat}(ha:a<18446744073709551616)(hs:s=16*i):bits .and .u64 ((a:Int)/2^s) 65535=(rq a i:Int):=by
 have e:(a:Int)/2^s=((a/2^s:Nat):Int):=by simp
 rw [e,a5f _ (Nat.lt_of_le_of_lt (Nat.div_le_self _ _) ha),hs,show 2^(16*i)=65536^i by rw [Nat.pow_mul]];unfold rq;rfl
theorem aK8(a b:Int)(X Y:Nat)(w:aJ)(ha:aL a)(hb:aL b)(hX:X=rJ a)(hY:Y=rJ b):
 aQ aM 154 #[aG aF a,aG aF b] w λe w'=>e=aT (bC #[aG aF (gU (a*b)),aG aF (dR (a*b))])/\aa w.heap.size w w':=by
 have HA:=η ha;have HB:=η hb;have hXl:X<=9223372036854775808:=by rw [hX];exact Sa ha
 have hYl:Y<=9223372036854775808:=by rw [hY];exact Sa hb
 have yK:∀W,Hid (aQ aM 204 #[aG aF a] W λe w'=>e=aT (aG .u64 (X:Int))/\W=w'):=λW=>η (by rw [hX];exact a7G a W ha)
 have GZ:∀W,Hid (aQ aM 204 #[aG aF b] W λe w'=>e=aT (aG .u64 (Y:Int))/\W=w'):=λW=>η (by rw [hY];exact a7G b W hb)
 have Jp:=η (kh hX hY);clear ha hb hX hY;go_enter func154,ntmps154
 go_wp2_with fail
 refine(yK _).o.mono ?_;rintro e w' ⟨rfl,rfl⟩;go_wp2_with fail
 refine(GZ _).o.mono ?_;rintro e w' ⟨rfl,rfl⟩;go_wp2_with fail
 obtain⟨M,hM⟩:∃M,M=4294836225:=⟨_,rfl⟩;have a3v:M<=4294836225:=by omega
 have aMY:4294836225<=M:=by omega
 clear hM;have zS:Hid (∀w4,w4=w.alloc (aK #[aG .u64 0,aG .u64 0,aG .u64 0,aG .u64 0,aG .u64 0,aG .u64 0,aG .u64 0,aG .u64 0] 281)->MJ w.heap.size Y M (rq X) (rq Y) 0 0 w4 [0,0,0,0,0,0,0,0] w4/\aa w.heap.size w w4):=by
  rintro w4 rfl;refine⟨⟨rfl,tE.new w [0,0,0,0,0,0,0,0],by simp [val,upto],λj hj=> ?_,aX _ _⟩,(aX _ _).alloc (aZ _) _⟩;have:∀x∈ [0,0,0,0,0,0,0,(0:Nat)],x=0:=by simp
  rw [this _ (cK hj)];omega
 have UJ:Hid (upto (rq Y) 4=Y):=η (a8T (by omega));have pE:Hid (upto (rq X) 4=X):=η (a8T (by omega));have UI:Hid (∀j,rq X j<=65535):=η (a2m X);have HYL:Hid (∀j,rq Y j<=65535):=η (a2m Y);have HXS:Hid (∀s i,s=16*i->bits .and .u64 ((X:Int)/2^s) 65535=(rq X i:Int)):=η λs i h=>a2l (by omega) h
 have HYS:Hid (∀s i,s=16*i->bits .and .u64 ((Y:Int)/2^s) 65535=(rq Y i:Int)):=η λs i h=>a2l (by omega) h
 have qH:=zS.o _ rfl;clear zS yK GZ;generalize rq X=x at*;generalize rq Y=y at*;generalize w.alloc (aK #[aG .u64 0,aG .u64 0,aG .u64 0,aG .u64 0,aG .u64 0,aG .u64 0,aG .u64 0,aG .u64 0] 281)=w4 at qH ⊢;have Oj:=η qH.1;have cC:=η qH.2;clear qH;generalize KR:w.heap.size=bn at*;have fF:=η KR;clear KR;go_loopw [9,10] (λu _ wr=>∃i:Nat,i<=4/\u=aG aF i/\∃ns:List Nat,Hid (MJ bn Y M x y i 0 w4 ns wr)) (λu _ _=>4-(ag u).toNat)
 case atStart=>exact⟨0,by omega,rfl,_,Oj⟩
 case round=>
  clear Oj;obtain⟨i,hi,rfl,ns,HM⟩:=hrel;by_cases hlt:i<4
  ·have nr:(i:Int)<4:=by omega
   obtain⟨wo,rfl⟩:∃wo:aJ,wo=wr:=⟨_,rfl⟩;go_wp2_with fail
   go_loopw [10] (λu wr=>∃k:Nat,k<=4/\u=aG aF k/\∃ns:List Nat,Hid (MJ bn Y M x y i k w4 ns wr)) (λu _=>4-(ag u).toNat)
   case atStart=>exact⟨0,by omega,rfl,_,HM⟩
   case round=>
    clear HM;obtain⟨k,hk,rfl,ns,HM⟩:=hrel;by_cases sA:k<4
    ·have Wp:(k:Int)<4:=by omega
     obtain⟨j,hj⟩:∃j,j=i+k:=⟨_,rfl⟩;have hlen:=HM.o.len;have rD:j<aA ns:=by omega
     obtain⟨q,hq⟩:∃q,q=ns[j]:=⟨_,rfl⟩;obtain⟨p,hp⟩:∃p,p=x i*y k:=⟨_,rfl⟩;obtain⟨t,ht⟩:∃t,t=q+p:=⟨_,rfl⟩;have hpl:p<=4294836225:=by rw [hp];exact yT (UI.o i) (HYL.o k)
     have X3:q<=68717379600:=by have h1:=HM.o.bd j rD;rw [hq];refine bz h1 (bz (yT (show 4*i+k<=16 by omega) a3v) (by omega))
     have cn:=HM.o.row.cell rD;rw [<-hq] at cn;have fnn:=HM.o.row.free j;have Ol:Hid (MJ bn Y M x y i (k+1) w4 (ns.set j t) (wr.setCell ⟨bn,j,aB⟩ (aG .u64 (t:Int))).drew):=by have:=HM.o.step rD hj hp (by omega);rw [<-hq,<-ht] at this;exact this
     obtain⟨si,hsi⟩:∃si,si=16*i:=⟨_,rfl⟩;obtain⟨sk,hsk⟩:∃sk,sk=16*k:=⟨_,rfl⟩;have ax:=HXS.o si i hsi;have ay:=HYS.o sk k hsk;have esi:(16:Int)*(i:Int)=(si:Int):=by omega
     have esk:(16:Int)*(k:Int)=(sk:Int):=by omega
     have lsi:si<=48:=by omega
     have lsk:sk<=48:=by omega
     have ep:(x i:Int)*(y k:Int)=(p:Int):=by rw [hp,Int.natCast_mul]
     have et:(q:Int)+(p:Int)=(t:Int):=by omega
     have Ff:t<=73012215825:=by omega
     have ea:((i:Int)+(k:Int)).toNat=j:=by omega
     have pa:(0:Int)<=(i:Int)+(k:Int):=by omega
     have ba:(i:Int)+(k:Int)<8:=by omega
     have ra:aF.wrap ((i:Int)+(k:Int))=(i:Int)+(k:Int):=by rw [fh];omega
     have rp:mW.wrap (p:Int)=(p:Int):=by rw [vM];omega
     have rt:mW.wrap (t:Int)=(t:Int):=by rw [vM];omega
     have rsi:aF.wrap (si:Int)=(si:Int):=by rw [fh];omega
     have rsk:aF.wrap (sk:Int)=(sk:Int):=by rw [fh];omega
     have hsx:Op.shift .shr .u64 (X:Int) aF (si:Int)=pure (aG .u64 ((X:Int)/2^si)):=shift_shr .u64 aF X si (by omega) (by simp [a0F];omega);have NN:Op.shift .shr .u64 (Y:Int) aF (sk:Int)=pure (aG .u64 ((Y:Int)/2^sk)):=shift_shr .u64 aF Y sk (by omega) (by simp [a0F];omega);clear hj hq hp ht hlen X3 hpl HM rD hsi hsk;go_wp2_with fail
     go_big_region
     clear cn fnn;generalize (wr.setCell ⟨bn,j,aB⟩ (aG .u64 (t:Int))).drew=w5 at Ol ⊢;clear ea pa ba ra rp rt ep et ax ay esi esk rsi rsk hsx NN;go_wp2
     go_roundw
     case rel=>exact⟨k+1,by omega,by go_num,_,Ol⟩
     case measure=>simp [ag];omega
    have Wp:¬(k:Int)<4:=by omega
    obtain rfl:k=4:=by omega
    have Ol:=η (HM.o.next UJ.o);clear HM;go_wp2_with fail
    go_roundw
    case rel=>exact⟨i+1,by omega,by go_num,_,Ol⟩
    case measure=>simp [ag];omega
  have nr:¬(i:Int)<4:=by omega
  obtain rfl:i=4:=by omega
  have jQ:Hid (CJ bn (X*Y) 0 0 w4 ns wr):=by refine⟨HM.o.len,HM.o.row,λj _ h=>by omega,λj h=>bz (HM.o.bd j h) (bz (yT (show 4*4+0<=16 by omega) a3v) (by omega)),by omega, ?_,HM.o.b⟩;have:=HM.o.vl;rw [pE.o,show upto y 0=0 from rfl,aAM,Gp] at this;rw [this,Nat.zero_mul,Gp]
  have TF:Hid (X*Y<340282366920938463463374607431768211456):=by have:X*Y<=9223372036854775808*9223372036854775808:=yT hXl hYl;show X*Y<_;omega
  clear HM;obtain⟨V,hV⟩:∃V,V=X*Y:=⟨_,rfl⟩;rw [<-hV] at jQ TF;have HV:=η hV;clear hV;go_wp2_with fail
  go_loopw [11,12] (λu v wr=>∃i c:Nat,i<=8/\u=aG .u64 c/\v=aG aF i/\∃ns:List Nat,Hid (CJ bn V i c w4 ns wr)) (λ_ v _=>8-(ag v).toNat)
  case atStart=>exact⟨0,0,by omega,rfl,rfl,_,jQ⟩
  case round=>
   clear jQ;obtain⟨i,c,hi,rfl,rfl,ns,HC⟩:=hrel;by_cases hlt:i<8
   ·have nr:(i:Int)<8:=by omega
    have nk:i<aA ns:=by have:=HC.o.len;omega
    obtain⟨q,hq⟩:∃q,q=ns[i]:=⟨_,rfl⟩;obtain⟨t,ht⟩:∃t,t=q+c:=⟨_,rfl⟩;obtain⟨m,hm⟩:∃m,m=t % 65536:=⟨_,rfl⟩;obtain⟨d,hd⟩:∃d,d=t/65536:=⟨_,rfl⟩;have X3:q<=68717379600:=by rw [hq];exact HC.o.bd i nk
    have kL:=HC.o.cb;have cn:=HC.o.row.cell nk;rw [<-hq] at cn;have fnn:=HC.o.row.free i;have kS:Hid (CJ bn V (i+1) d w4 (ns.set i m) ((wr.setCell ⟨bn,i,aB⟩ (aG .u64 (t:Int))).setCell ⟨bn,i,aB⟩ (aG .u64 (m:Int)))):=by have:=HC.o.step nk (t:=t) (by rw [<-hq];exact ht);rw [<-hm,<-hd] at this;exact this
    have et:(q:Int)+(c:Int)=(t:Int):=by omega
    have ed:(t:Int)/65536=(d:Int):=by omega
    have em:bits .and .u64 (t:Int) 65535=(m:Int):=by rw [hm];exact a5f t (by omega)
    have Ff:t<=137434759200:=by omega
    have hrow2:=η (HC.o.row.set i t);have cn2:(wr.setCell ⟨bn,i,aB⟩ (aG .u64 (t:Int))).cell? ⟨bn,i,aB⟩=aC (aG .u64 (t:Int)):=by rw [hrow2.o.cell (by rw [xD];exact nk),PH,ifP rfl]
    have fn2:(wr.setCell ⟨bn,i,aB⟩ (aG .u64 (t:Int))).frozen? ⟨bn,i,aB⟩=aP:=hrow2.o.free i;clear hq ht hm hd X3 kL HC nk;go_wp2_with fail
    go_roundw
    case rel=>exact⟨i+1,d,by omega,by first|rfl|go_num,by go_num,_,kS⟩
    case measure=>simp [ag];omega
   have nr:¬(i:Int)<8:=by omega
   obtain rfl:i=8:=by omega
   have hns:=HC.o.ends TF.o;subst hns;have BI:=HC.o.row;have oA:Hid (aa bn w wr):=cC.o.trans HC.o.b;clear HC;have lit:Hv 8 V= [V % 65536,V/65536 % 65536,V/4294967296 % 65536,V/281474976710656 % 65536,V/18446744073709551616 % 65536,V/1208925819614629174706176 % 65536,V/79228162514264337593543950336 % 65536,V/5192296858534827628530496329220096 % 65536]:=by simp only [Hv,Nat.div_div_eq_div_mul]
   obtain⟨n0,n1,n2,n3,n4,n5,n6,n7,a4W,kK,hval⟩:∃n0 n1 n2 n3 n4 n5 n6 n7:Nat,Hv 8 V= [n0,n1,n2,n3,n4,n5,n6,n7]/\(n0<=65535/\n1<=65535/\n2<=65535/\n3<=65535/\n4<=65535/\n5<=65535/\n6<=65535/\n7<=65535)/\V=n0+65536*n1+4294967296*n2+281474976710656*n3+18446744073709551616*(n4+65536*n5+4294967296*n6+281474976710656*n7):=
    ⟨_,_,_,_,_,_,_,_,lit,⟨by omega,by omega,by omega,by omega,by omega,by omega,by omega,by omega⟩,by have:=TF.o;omega⟩
   rw [a4W] at BI;clear a4W lit;have a0:=BI.cell (i:=0) (by simp);have a1:=BI.cell (i:=1) (by simp);have a2:=BI.cell (i:=2) (by simp);have a3:=BI.cell (i:=3) (by simp);have a4:=BI.cell (i:=4) (by simp);have a5:=BI.cell (i:=5) (by simp);have a6:=BI.cell (i:=6) (by simp);have a7:=BI.cell (i:=7) (by simp);simp only [List.getElem_cons_zero,aA5] at a0 a1 a2 a3 a4 a5 a6 a7;clear BI;obtain⟨N,hN⟩:∃N,N=n0+65536*n1+4294967296*n2+281474976710656*n3:=⟨_,rfl⟩;obtain⟨h,hh⟩:∃h,h=n4+n5+n6+n7:=⟨_,rfl⟩;obtain⟨z,hz⟩:∃z,z=a*b:=⟨_,rfl⟩;obtain⟨sg,nJ⟩:∃sg:Bool,sg= !(decide (a<0)==decide (b<0)):=⟨_,rfl⟩;have HZ:Hid (V=z.natAbs/\(sg=aO->z<=0)/\(sg=aP->0<=z)):=η ⟨by rw [HV.o,Jp.o.1,Jp.o.2,hz,a8H],λh=>by rw [hz];exact mul_neg (nJ.symm.trans h),λh=>by rw [hz];exact a5t (nJ.symm.trans h)⟩;have HVN:Hid ((h=0->V=N)/\(h≠0->18446744073709551616<=V)):=η ⟨λe=>by omega,λe=>by omega⟩;obtain⟨b0,b1,b2,b3,b4,b5,b6,b7⟩:=kK;have Jq:=η hz;have HN:=η hN;have BK:=η nJ;have eN:(n0:Int)+(n1:Int)*65536+(n2:Int)*4294967296+(n3:Int)*281474976710656=(N:Int):=by omega
   have eh:(n4:Int)+(n5:Int)+(n6:Int)+(n7:Int)=(h:Int):=by omega
   have bh:h<=262140:=by omega
   have bN:N<=18446744073709551615:=by omega
   clear hval hN hh hz nJ;have rM:Hid (aa w.heap.size w wr):=η (by rw [fF.o];exact oA.o);by_cases AD:h=0
   ·have eh0:(n4:Int)+(n5:Int)+(n6:Int)+(n7:Int)=0:=by omega
    have Cu:Hid (V=N):=η (HVN.o.1 AD);clear eh AD bh;by_cases Vt:N>9223372036854775808
    ·have a3w:(N:Int)>9223372036854775808:=by omega
     have hno:¬aL (a*b):=by have:=HZ.o.1;have:=Cu.o;have:=Jq.o;rw [<-Jq.o];unfold aL;omega
     go_wp2_with fail
     go_ret2;exact⟨nP (gw hno).1.symm (gw hno).2.symm,rM.o⟩
    cases sg
    ·have hS:(decide (a<0)==decide (b<0))=aO:=by have:=BK.o;revert this;cases (decide (a<0)==decide (b<0))<;>simp
     by_cases Vu:N=9223372036854775808
     ·have Vv:(N:Int)=9223372036854775808:=by omega
      have hno:¬aL (a*b):=by have:=HZ.o.1;have:=HZ.o.2.2 rfl;have:=Cu.o;rw [<-Jq.o];unfold aL;omega
      clear Vt;go_wp2_with fail
      go_ret2;exact⟨nP (gw hno).1.symm (gw hno).2.symm,rM.o⟩
     have a3w:¬(N:Int)>9223372036854775808:=by omega
     have Vv:¬(N:Int)=9223372036854775808:=by omega
     have hN3:(N:Int)<9223372036854775808:=by omega
     have Dt:aL (a*b)/\a*b=(N:Int):=by have:=HZ.o.1;have:=HZ.o.2.2 rfl;have:=Cu.o;rw [<-Jq.o];unfold aL;omega
     clear Vt Vu;have HY:=η Dt;clear Dt;go_wp2_with fail
     go_ret2;exact⟨nP (by rw [(eH HY.o.1).1,HY.o.2]) (eH HY.o.1).2.symm,rM.o⟩
    have hS:(decide (a<0)==decide (b<0))=aP:=by have:=BK.o;revert this;cases (decide (a<0)==decide (b<0))<;>simp
    have a3w:¬(N:Int)>9223372036854775808:=by omega
    have HY:Hid (aL (a*b)/\a*b= -(N:Int)):=η (by have:=HZ.o.1;have:=HZ.o.2.1 rfl;have:=Cu.o;rw [<-Jq.o];unfold aL;omega);clear Vt;by_cases Vu:N=9223372036854775808
    ·have Vv:(N:Int)=9223372036854775808:=by omega
     go_wp2_with fail
     go_ret2;exact⟨nP (by rw [(eH HY.o.1).1,HY.o.2];omega) (eH HY.o.1).2.symm,rM.o⟩
    have Vv:¬(N:Int)=9223372036854775808:=by omega
    have hN3:(N:Int)<9223372036854775808:=by omega
    clear Vu;by_cases hN0:N=0
    ·have hN4:¬(N:Int)>0:=by omega
     go_wp2_with fail
     go_ret2;exact⟨nP (by rw [(eH HY.o.1).1,HY.o.2];omega) (eH HY.o.1).2.symm,rM.o⟩
    have hN4:(N:Int)>0:=by omega
    obtain⟨m,hm⟩:∃m,m=N-1:=⟨_,rfl⟩;have em:(N:Int)-1=(m:Int):=by omega
    have bm:m<=9223372036854775806:=by omega
    have HMM:Hid (-(N:Int)= -(m:Int)-1):=η (by omega);clear hN0 hm hN3 bN;go_wp2_with fail
    go_ret2;exact⟨nP (by rw [(eH HY.o.1).1,HY.o.2,HMM.o]) (eH HY.o.1).2.symm,rM.o⟩
   have hhp:(h:Int)>0:=by omega
   have hno:¬aL (a*b):=by have:=HZ.o.1;have:=HVN.o.2 AD;rw [<-Jq.o];unfold aL;omega
   go_wp2_with fail
   go_ret2;exact⟨nP (gw hno).1.symm (gw hno).2.symm,rM.o⟩
theorem aK7(a b:Int)(w:aJ)(ha:aL a)(hb:aL b):aQ aM 154 #[aG aF a,aG aF b] w λe w'=>e=aT (bC #[aG aF (gU (a*b)),aG aF (dR (a*b))])/\aa w.heap.size w w':=
 aK8 a b _ _ w ha hb rfl rfl
end
end Go.Proofs.YtdokipdchlcmeaaGreat
