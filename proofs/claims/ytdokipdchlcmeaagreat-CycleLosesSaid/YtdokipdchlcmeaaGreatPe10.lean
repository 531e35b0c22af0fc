/-
  Several texts in one, for one claim (printed by pack.py).
-/
import Derived.Test.YtdokipdchlcmeaaGreatPe9
import Derived.RegionTactic
set_option linter.all false
set_option maxRecDepth 100000
set_option maxHeartbeats 12800000
open And renaming intro→kT
open Bool renaming true→aO,false→aP,and_eq_true→jX
open Go renaming World→aJ,Value→aN,Calls→aQ,Addr→ai,cell_of_row→bG,maxLen→bK,heap_alloc_new→cT,info_parts→dK,Ending→di,wpList_append_own→iw,frozen_of_row→Jc
open Go.Calls renaming mono→tT,quiet_of_same→IX
open Go.Ending renaming returned→aU
open Go.IntKind renaming i64→aF,wrap_i64→fW,u64→mC,wrap_u64→uo,bits→Zj
open Go.Obj renaming cells→aK
open Go.Proofs renaming intOf→ag
open Go.Proofs.Tryz renaming prog→aM,func23→a0M,ntmps23→a0f,ntmps8→aBQ
open Go.RowKit renaming Below→aa,wrap64→fV
open Go.RowKit.Below renaming refl→aX,size→gS,trans→jl,alloc→qj
open Go.Value renaming int→aG,slice→aH,tuple→bB,pointer→bH,bool→bM,agg→bO,ownBlock→dx
open Go.World renaming ownsRow_nil→gC,frozen?→iU
open Int renaming le_refl→dH,le_trans→jm,le_of_eq→rD,mul_le_mul_of_nonneg_right→LL
open List renaming length→aA,getElem_mem→cK,length_append→cL,take_length→cU,range→dQ,mem_map→dV,mem_cons_of_mem→df,mem_cons→fC,take_succ_eq_append_getElem→fF,mem_append→gJ,replicate→gN,getElem?_eq_getElem→iA,length_map→iK,mem_filter→j6,any_eq_true→kK,length_filter_le→qN,getD_eq_getElem?_getD→sQ,mem_iff_getElem→sR,length_cons→uB,mem_append_left→uD,length_take→ur,pairwise_iff_getElem→uu,flatMap_cons→wP,length_set→yA,map_cons→yB,getElem?_eq_some_iff→zF,mem_of_getElem?→zG,pairwise_map→B8,foldl_cons→Ca,length_replicate→Cb,mem_append_right→EE,getElem_modify→Fq,all_eq_false→JE,drop_eq_getElem_cons→JF,pairwise_append→LP,getElem_set→Tr,getElem?_of_mem→a9R,getElem_cons_succ→a9S
open List.Pairwise renaming imp_of_mem→OW,nil→Ti
open Nat renaming le_refl→aZ,zero_le→bL,le_trans→cC,mul_le_mul→yC,add_mul→Fw,add_zero→Fx,mul_le_mul_right→Fz,div_add_mod→LR,mul_assoc→Oc,pow_succ→Od,mul_right_comm→a9i,mul_zero→a9j
open Option renaming none→aB,some→aC,getD_some→Og
namespace Go.Proofs.YtdokipdchlcmeaaGreat
open Go.Proofs.Tryz Go.RowKit
theorem a5D:∀ {L:List Fi} {f:Fi},(∀f∈L,1<=f.q)->f∈L->f.q<=tP L
 |x::L,f,h,hf=>by
  have h1:=h x (by simp);have hr:∀y∈L,1<=y.q:=λy hy=>h y (df _ hy)
  have hn:=RN hr;simp only [tP];rcases fC.1 hf with rfl|hf
  ·omega
  have:=a5D hr hf;omega
theorem a4y:∀ {L:List Fi} {f:Fi},(∀f∈L,1<=f.c)->f∈L->f.c<=ma L
 |x::L,f,h,hf=>by
  have h1:=h x (by simp);have hr:∀y∈L,1<=y.c:=λy hy=>h y (df _ hy)
  have hn:=Lr hr;simp only [ma];rcases fC.1 hf with rfl|hf
  ·omega
  have:=a4y hr hf;omega
theorem aw.a2i {s:Int}:∀(L:List Fi) {C:Int} {g:Nat} {D:Dk},aw C g D->(1<=s/\s<=(aA D.x.ss:Int))->(∀f∈L,(1<=f.b.m/\f.b.m<=(aA D.x.ms:Int))/\(1<=f.q/\f.q<=274877906944)/\1<=f.c)->ma L<=B D 1 0 0->C+2*tP L<=4611686018427387904+1125899906842624->
 (∀k,k<=aA L->aw (C+2*tP L) (g+2*k) (tB s D (L.take k)))/\Sm D (tB s D L)/\(∀k m b,k≠1->k≠7->B (tB s D L) k m b=B D k m b)/\B (tB s D L) 1 0 0=B D 1 0 0-ma L
 | [],C,g,D,H,_,_,_,hC=>by grind [tP,Sm.refl,ma,tB]
 |x::L,C,g,D,H,hs,hx,hc,hC=>by
  have h1:=hx x (by simp);have hr:∀f∈L,(1<=f.b.m/\f.b.m<=(aA D.x.ms:Int))/\(1<=f.q/\f.q<=274877906944)/\1<=f.c:=λy hy=>hx y (df _ hy)
  have hq:=RN (L:=L) (λf hf=>(hr f hf).2.1.1);have hcn:=Lr (L:=L) (λf hf=>(hr f hf).2.2);simp only [tP] at hC ⊢;simp only [ma] at hc ⊢;obtain⟨G,S,K⟩:=H.fill hs h1.1 h1.2.1 h1.2.2 (by omega) (by omega);have h0:B (Gk s D x) 1 0 0=B D 1 0 0-x.c:=by grind
  obtain⟨G2,S2,K2,H2⟩:=aw.a2i L G hs hr (by omega) (by omega);refine⟨?_,S.trans S2, ?_, ?_⟩
  ·intro k hk;cases k with
   |zero=>exact H.wide (by omega) (by omega) (by omega)
   |succ k=>
    have:=G2 k (by simpa using hk);rw [show g+2*(k+1)=g+2+2*k by omega,show C+2*(x.q+tP L)=C+2*x.q+2*tP L by omega];exact this
  ·intro k m b e1 e7;refine(K2 k m b e1 e7).trans ((K k m b).trans ?_);grind
  refine H2.trans ?_;rw [h0];omega
theorem aCe {D:Dk} {s:Int} {Bs:List Bd}(h:FM D s Bs):aA Bs<=aA D.bx/\∀x∈Bs,x∈D.bx:=by
 obtain⟨is,ho,rfl⟩:=h;have hl:aA is=aA (q9 D.bx s):=by rw [ho.len,iK]
 have hf:aA (q9 D.bx s)<=aA D.bx:=qN _ _;refine⟨by grind,λx hx=> ?_⟩;obtain⟨i,hi,rfl⟩:=dV.1 hx;have hlt:=ho.lt i hi;rw [iK] at hlt;rw [sQ,iA hlt];exact(j6.1 (cK hlt)).1
def jV:Int:=140737488355328+549755813888
theorem aw.a1U {C:Int} {g:Nat} {D:Dk}(H:aw C g D)(hh:D.h= []) {s:Int}(hs:1<=s/\s<=(aA D.x.ss:Int)) {Bs:List Bd}(hB:FM D s Bs)(hC:C+jV<=4611686018427387904+1125899906842624)(hg:g+114<=90000):
 YL D s Bs/\aw (C+jV) (g+114) (JS D s Bs)/\Sm D (JS D s Bs):=by
 obtain⟨hBl,hBm⟩:=aCe hB;have hbl:=H.bl;have MD:∀x∈Bs,YI D.x x:=λx hx=>H.bx x (hBm x hx)
 have hgd:=H.DA s;have hg0:=(H.DA 0).bd;have rT:=H.short s;have Vi:=H.house s;have zi:=H.house 0;have lO:=H.beyond;have hrm:=H.room;have dD:kQ s=274877906944:=by grind [kQ]
 have kh:=H.bE.big;have hgb:=hgd.bd;have hB0:B D 1 0 s=balA (aA D.x.ms) (aA D.x.ss+1) D.l 1 0 s:=rfl;have VF:B D 1 0 0=balA (aA D.x.ms) (aA D.x.ss+1) D.l 1 0 0:=rfl;have qV:yG D=yF D+kA D:=rfl;have a3k:0<=jE D s/\jE D s<=274877906944:=by rw [rT];omega
 have a3c:0<=yG D/\yG D<=C+37383395344384:=by rw [qV,lO];omega
 obtain⟨R1,R2,R3,R4⟩:=Xd Bs (jE D s) (yG D) (λx hx=>⟨(MD x hx).2.2.1.1,(MD x hx).2.2.2.1.1⟩) a3k.1 a3c.1;have JK:∀f∈mZ D s Bs,f.b∈Bs/\1<=f.q/\1<=f.c:=R1;have R2':tP (mZ D s Bs)<=jE D s:=R2;have R3':ma (mZ D s Bs)<=yG D:=R3;have R4':aA (mZ D s Bs)<=aA Bs:=R4;have hcs:rI (mZ D s Bs)=ma (mZ D s Bs):=aDz (λf hf=>(JK f hf).2.2) (by omega);have hcn:=Lr (L:=mZ D s Bs) (λf hf=>(JK f hf).2.2);have hqn:=RN (L:=mZ D s Bs) (λf hf=>(JK f hf).2.1);have tG:aL (ot D s Bs):=by grind [ot,aL]
 have W:=H.drawn hh tG (by grind [jV]);have ME:=W.steps _ (aZ _);rw [cU] at ME;have Jh:aw (C+140737488355328) (g+50) (lY D (ot D s Bs)):=ME.wide (dH _) (by grind [jV]) (by have:=W.len;omega);have hx1:(lY D (ot D s Bs)).x=D.x:=W.sm.x;have aG0:ma (mZ D s Bs)<=B (lY D (ot D s Bs)) 1 0 0:=by have:=W.house;grind [ot]
 have hfi:∀f∈mZ D s Bs,(1<=f.b.m/\f.b.m<=((lY D (ot D s Bs)).x.ms.length:Int))/\(1<=f.q/\f.q<=274877906944)/\1<=f.c:=λf hf=>by obtain⟨a1,a2,a3⟩:=JK f hf;have hq:=a5D (λf hf=>(JK f hf).2.1) hf;rw [hx1];exact⟨(MD f.b a1).1,⟨a2,by omega⟩,a3⟩
 obtain⟨G,S,K,HH⟩:=aw.a2i (mZ D s Bs) Jh (by rw [hx1];exact hs) hfi aG0 (by grind [jV]);have vN:=G _ (aZ _);rw [cU] at vN;have QB:aw (C+jV) (g+114) (JS D s Bs):=vN.wide (by unfold jV;omega) hC (by omega);refine⟨⟨?_, ?_, ?_,tG, ?_,W.dI,by have:=W.len;omega, ?_, ?_,by omega⟩,QB,W.sm.trans S⟩
 ·grind [aL]
 ·unfold uG;rw [ifN (by omega),ifN];rintro (h|h|h)
  ·omega
  ·omega
  obtain⟨x,hx,hb⟩:=kK.1 h;have:=MD x hx;unfold rH at hb;rw [decide_eq_false (by have:=this.2.2.1;omega),decide_eq_false (by have:=this.2.2.2.1;omega)] at hb;cases hb
 ·intro x hx;have:=MD x hx;have h1:=this.2.2.1;have h2:=this.2.2.2.1;unfold aL;omega
 ·intro k hk;exact(W.steps k hk).ok (by have:=W.len;omega)
 ·intro k hk;exact(G k hk).ok (by omega)
 intro f hf;have h1:=hfi f hf;rw [hx1] at h1;have hm:=H.hs.ml;have hc:=a4y (λf hf=>(JK f hf).2.2) hf;grind [aL]
theorem aw.aCj {C:Int} {g:Nat} {D:Dk}(H:aw C g D)(hh:D.h= []) {s:Int}(hs:1<=s/\s<=(aA D.x.ss:Int))(hC:C+jV<=4611686018427387904+1125899906842624)(hg:g+114<=90000):SE D s:=by
 have iW:=H.hs.ml;have jf:=H.hs.sl;have Vi:=H.house s;have zi:=H.house 0;have kh:=H.bE.big;refine⟨H.ok (by omega),by unfold aL;omega,by unfold aL;omega,by unfold aL;omega,by omega,λm hm=> ?_,λd hd=> ?_,λ_ Bs hB=>(H.a1U hh hs hB hC hg).1⟩
 ·have:=H.who.pD m hm;unfold aL;omega
 exact(H.bx d hd).2.2.2.2
theorem aw.aCk {C:Int} {g:Nat} {D D':Dk}(H:aw C g D)(hh:D.h= []) {s:Int}(hs:1<=s/\s<=(aA D.x.ss:Int))(hC:C+jV<=4611686018427387904+1125899906842624)(hg:g+114<=90000)(hR:IW D s D'):aw (C+jV) (g+114) D'/\Sm D D':=by
 rcases hR with⟨_,rfl⟩|⟨_,Bs,hB,rfl⟩
 ·exact⟨H.wide (by unfold jV;omega) hC (by omega),Sm.refl _⟩
 exact(H.a1U hh hs hB hC hg).2
theorem aw.PH {C:Int} {g:Nat} {D:Dk}(H:aw C g D)(hh:D.h= [])(hC:C+8*jV<=4611686018427387904+1125899906842624)(hg:g+114*8<=90000) {n:Nat} {E:Dk}(hR:vu D n E):n<=aA D.x.ss->aw (C+(n:Int)*jV) (g+114*n) E/\Sm D E:=by
 have jf:=H.hs.sl;induction hR with
 |zero=>grind [Sm.refl]
 |succ hB hR ih=>
  rename_i n E E';intro hn;obtain⟨G,S⟩:=ih (by omega);have hc1:C+(n:Int)*jV+jV<=4611686018427387904+1125899906842624:=by grind [jV]
  obtain⟨G',S'⟩:=G.aCk (S.h.trans hh) (s:=(n:Int)+1) (by rw [S.x];omega) hc1 (by omega) hR;refine⟨?_,S.trans S'⟩;grind
theorem Xj {z:Lg}:∀ {L:List Lg} {xs:List Int},z∈ej L xs->0<z.n/\∃y∈L,z.m=y.m/\z.a=y.a
 | [],xs,h=>by simp [ej] at h
 |y::L,[],h=>by simp [ej] at h
 |y::L,n::xs,h=>by
  rw [RJ] at h;rcases gJ.1 h with h|h
  ·grind
  obtain⟨h1,y',hy',h2⟩:=Xj h;grind
theorem aFK {c:Int} {L:List Lg} {z:Lg}(h:z∈jb c L):0<z.n/\∃y∈L,z.m=y.m/\z.a=y.a:=by
 unfold jb at h;split at h
 ·exact Xj h
 cases h
theorem aGx {c:Int} {L:List Lg} {z:Lg}(h:z∈jh c L):0<z.n/\∃y∈L,z.m=y.m/\z.a=y.a:=by
 unfold jh at h;split at h
 ·exact Xj h
 cases h
theorem a1O {a a0:Int}:∀ {L:List Lg},(∀x∈L,x.a=a0)->nx a L=if a=a0 then sumI (bF L) else 0
 | [],_=>by split<;>rfl
 |x::L,h=>by have h1:=h x (by simp);have ih:=a1O (a:=a) (a0:=a0) (L:=L) (λy hy=>h y (df _ hy));grind [nx,sumI,bF]
theorem a1I:∀ {L:List Lg},(∀x∈L,1<=x.n)->0<=sumI (bF L)
 | [],_=>dH 0
 |x::L,h=>by have h1:=h x (by simp);have:=a1I (L:=L) (λy hy=>h y (df _ hy));grind [sumI,bF]
theorem a4x:∀ {L:List Lg} {z:Lg},(∀x∈L,1<=x.n)->z∈L->z.n<=sumI (bF L)
 |x::L,z,h,hz=>by
  have h1:=h x (by simp);have hr:∀y∈L,1<=y.n:=λy hy=>h y (df _ hy)
  have hn:=a1I hr;have e:sumI (bF (x::L))=x.n+sumI (bF L):=rfl;rcases fC.1 hz with rfl|hz
  ·omega
  have:=a4x hr hz;omega
structure Split(c:Int)(L:List Lg)(a0:Int):Prop where
 g:∀z∈jb c L,1<=z.n/\z.a=a0/\∃y∈L,z.m=y.m
 k:∀z∈jh c L,1<=z.n/\z.a=a0/\∃y∈L,z.m=y.m
 sum:∀a,nx a (jb c L)=if a=a0 then min c (sumI (bF L)) else 0
 gl:aA (jb c L)<=aA L
 kl:aA (jh c L)<=aA L
 em:jh c L= []↔sumI (bF L)<=c
 kn:∀z∈jh c L,z.n<=sumI (bF L)
theorem a6y {c:Int} {L:List Lg} {a0:Int}(h:jD c L=0)(ha:∀y∈L,y.a=a0):Split c L a0:=by
 have W:=a7n 0 h;have P:=aIh 0 h;have hg:∀z∈jb c L,1<=z.n/\z.a=a0/\∃y∈L,z.m=y.m:=λz hz=>by obtain⟨h1,y,hy,e1,e2⟩:=aFK hz;grind
 have hk:∀z∈jh c L,1<=z.n/\z.a=a0/\∃y∈L,z.m=y.m:=λz hz=>by grind [aGx]
 have hS:0<=sumI (bF L):=by
  have:=Xt (λ_=>aO) L W.n0
  rwa [KQ] at this
 refine⟨hg,hk,λa=> ?_,W.gl,W.ll,P.em,λz hz=> ?_⟩
 rotate_left
 ·have h1:=a4x (λx hx=>(hk x hx).1) hz;have h2:=W.tl;rw [KQ] at h2;have:=(PN h).2.2;omega
 rw [a1O (λx hx=>(hg x hx).2.1),<-KQ,W.tg]
theorem aFd {C:Int} {g:Nat} {D:Dk}(H:aw C g D) {s:Int}(hs:1<=s/\s<=(aA D.x.ss:Int))(hg:g+32<=90000):
 OQ D s/\aw C (g+32) (Ea D s)/\Sm D (Ea D s)/\(∀k m b,k≠1->k≠7->B (Ea D s) k m b=B D k m b)/\(∀y∈oB D s,y9 D.x y/\y.a=s/\aL y.n)/\aA (oB D s)<=16/\(∀y∈jP D s,1<=y.n)/\aA (jP D s)<=16:=by
 have G:=H.DA s;have P:=a6y (H.a6i s) (λy hy=>(G.each y hy).2.1);have iW:=H.hs.ml;have jf:=H.hs.sl;have kh:=H.bE.big;have Vi:=H.house s;have EX:∀z∈jP D s,y9 D.x z/\z.a=s:=λz hz=>by obtain⟨h1,h2,y,hy,e⟩:=P.g z hz;have:=(G.each y hy).1;exact⟨⟨by rw [e];exact this.1,by rw [h2];omega,h1⟩,h2⟩
 have Ji:∀z∈oB D s,y9 D.x z/\z.a=s/\aL z.n:=λz hz=>by obtain⟨h1,h2,y,hy,e⟩:=P.k z hz;have:=(G.each y hy).1;have hn:z.n<=vG D s:=P.kn z hz;have hb:=G.bd;have hm:=yU s;exact⟨⟨by rw [e];exact this.1,by rw [h2];omega,h1⟩,h2,by unfold aL;omega⟩
 have jQ:aA (jP D s)<=16:=cC P.gl G.len;have eC:aA (oB D s)<=16:=cC P.kl G.len;have jg:∀a,nx a (jP D s)<=B D 1 0 a:=λa=>by
  have e:nx a (jP D s)=if a=s then min (B D 1 0 s) (vG D s) else 0:=P.sum a
  rw [e];split
  ·grind
  exact(H.house a).1
 obtain⟨G1,S1,K1,_⟩:=aw.gives (jP D s) H (λx hx=>(EX x hx).1) jg;have vN:=G1 _ (aZ _);rw [cU] at vN;have MX:aw C (g+16) (ij D (jP D s)):=vN.wide (dH _) kh (by omega);have hE:=aw.Pa (kd:=14) (.inr (.inl rfl)) (oB D s) MX (λx hx=>by rw [S1.x];exact⟨(Ji x hx).1.2.1,.inl (Ji x hx).1.2.2⟩);refine⟨⟨by unfold aL;omega,λk hk=>(G1 k hk).ok (by omega),λx hx=> ?_,by omega,by have:=MX.gl;omega,by omega⟩,hE.wide (dH _) kh (by omega),S1.trans (a2Y _ (by decide) _), ?_,Ji,eC,λy hy=>(EX y hy).1.2.2,jQ⟩
 ·have h:=(EX x hx).1;have oF:x.n<=B D 1 0 s:=by
   have e:nx s (jP D s)=min (B D 1 0 s) (vG D s):=by
    have:=P.sum s
    rwa [ifP rfl] at this
   have:∀ {L:List Lg},(∀y∈L,1<=y.n/\y.a=s)->x∈L->x.n<=nx s L:=by
    intro L;induction L with
    |nil=>intro _ h;cases h
    |cons y L ih=>
     intro hh hx;have h0:=PD (a:=s) (L:=L) (λz hz=>(hh z (df _ hz)).1);have h1:=hh y (by simp);simp only [nx];rw [ifP h1.2];rcases fC.1 hx with rfl|hx
     ·omega
     have:=ih (λz hz=>hh z (df _ hz)) hx;omega
   have:=this (λy hy=>⟨(EX y hy).1.2.2,(EX y hy).2⟩) hx;omega
  have h1:=h.1;have h2:=h.2.1;have h3:=h.2.2;grind [aL]
 intro k m b e1 e7;exact K1 k m b e1 e7
structure a9A(C:Int)(g:Nat)(E:Dk)(n:Nat):Prop where
 ie:aw C (g+32*n) (hands E n)
 sm:Sm E (hands E n)
 keep:∀k m b,k≠1->k≠7->B (hands E n) k m b=B E k m b
 lk:∀y∈iM E n,y9 E.x y/\aL y.n
 ll:aA (iM E n)<=16*n
 gs:∀N,∀G∈rN E N n,(∀y∈G,1<=y.n)/\aA G<=16
theorem aw.VN {C:Int} {g:Nat} {E:Dk}(H:aw C g E)(hg:g+32*8<=90000):∀n,n<=aA E.x.ss->a9A C g E n/\∀k,k<n->OQ (hands E k) ((k:Int)+1)
 |0,_=>by refine⟨⟨H,Sm.refl E,λ_ _ _ _ _=>rfl,by simp [iM],by simp [iM],λN G hG=> ?_⟩,λk hk=>absurd hk (Nat.not_lt_zero _)⟩;have:G= []:=List.eq_of_mem_replicate hG;grind
 |n+1,hn=>by
  have jf:=H.hs.sl;obtain⟨A,O⟩:=aw.VN H hg n (by omega);have hx:=A.sm.x;obtain⟨h1,h2,h3,h4,h5,h6,h7,h8⟩:=aFd A.ie (s:=(n:Int)+1) (by rw [hx];omega) (by omega);refine⟨⟨?_,A.sm.trans h3,λk m b e1 e7=>(h4 k m b e1 e7).trans (A.keep k m b e1 e7), ?_, ?_, ?_⟩, ?_⟩
  ·rw [show g+32*(n+1)=g+32*n+32 by omega];exact h2
  ·intro y hy;have hy':=hy;rcases gJ.1 hy' with h|h
   ·exact A.lk y h
   grind
  ·show aA (iM E n++oB (hands E n) ((n:Int)+1))<=_;rw [cL];have:=A.ll;omega
  ·intro N G hG;have hG':=hG;rcases List.mem_or_eq_of_mem_set hG' with h|h
   ·exact A.gs N G h
   grind
  grind
theorem aIZ {D:Dk} {K:List Lg} {y:Lg}(h:y∈gY D K):y.a=0/\((∃z∈dg D 0,z.m=y.m)\/∃z∈K,z.m=y.m):=by
 unfold gY DX at h;split at h
 ·obtain⟨k,hk,rfl⟩:=dV.1 h;refine⟨rfl, ?_⟩;obtain⟨z,hz,e⟩:=(Qq _ k).1 hk;rcases gJ.1 hz with hz|hz
  ·grind
  right;unfold oL at hz;split at hz
  ·unfold rM at hz;split at hz
   ·obtain⟨q,hq,rfl⟩:=dV.1 hz;grind [Qq]
   cases hz
  cases hz
 cases h
theorem a6P {D E:Dk}(hx:E.x=D.x)(hw:E.who=D.who)(h8:∀m,B E 8 m 0=B D 8 m 0)(h9:∀m,B E 9 m 0=B D 9 m 0)(h3:B E 3 0 0=B D 3 0 0)(h4:B E 4 0 0=B D 4 0 0):kA E=kA D:=by
 have e:jB E=jB D:=by
  have e1:gU E (aA E.x.ms)=gU D (aA D.x.ms):=by show (dQ (aA E.x.ms)).map (λ(i:Nat)=>B E 8 ((i:Int)+1) 0)=(dQ (aA D.x.ms)).map (λ(i:Nat)=>B D 8 ((i:Int)+1) 0);grind
  have e2:gu E (aA E.x.ms)=gu D (aA D.x.ms):=by show (dQ (aA E.x.ms)).map (λ(i:Nat)=>B E 9 ((i:Int)+1) 0)=(dQ (aA D.x.ms)).map (λ(i:Nat)=>B D 9 ((i:Int)+1) 0);grind
  show (⟨gU E (aA E.x.ms),aB,0,gu E (aA E.x.ms),aB,0,B E 3 0 0,B E 4 0 0⟩:bz)=⟨gU D (aA D.x.ms),aB,0,gu D (aA D.x.ms),aB,0,B D 3 0 0,B D 4 0 0⟩;rw [e1,e2,h3,h4]
 unfold kA;rw [e,hw]
structure a9q(C:Int)(g:Nat)(D:Dk)(K:List Lg):Prop where
 ok:Oh D K
 ie:aw (C+140737488355328) (g+400) (I8 D K)
 sm:Sm D (ij (dZ D K) (iu D K))
 aHB:mQ D K≠ []->kA (I8 D K)=0
 g:(∀y∈iu D K,1<=y.n)/\aA (iu D K)<=144
 k:(∀y∈mQ D K,1<=y.n)/\aA (mQ D K)<=144
theorem aw.paid {C:Int} {g:Nat} {D:Dk}(H:aw C g D)(hh:D.h= []) {K:List Lg}(hK:∀y∈K,y9 D.x y/\aL y.n)(hKl:aA K<=128)(hC:C+140737488355328<=4611686018427387904+1125899906842624)(hg:g+400<=90000):a9q C g D K:=by
 have G0:=H.DA 0;have iW:=H.hs.ml;have jf:=H.hs.sl;have zi:=H.house 0;have hB0:B D 1 0 0=balA (aA D.x.ms) (aA D.x.ss+1) D.l 1 0 0:=rfl;have mH:aA (gY D K)<=144:=by have h1:=a4T (dg D 0) (oL D.x K);have h2:=YB D.x K;have h3:=G0.len;show aA (DX (dg D 0) (oL D.x K))<=144;omega
 have QK:∀y∈gY D K,(1<=y.m/\y.m<=(aA D.x.ms:Int))/\y.a=0:=λy hy=>by
  obtain⟨e,h⟩:=aIZ hy;rcases h with⟨z,hz,e2⟩|⟨z,hz,e2⟩
  ·have:=(G0.each z hz).1.1;rw [e2] at this;exact⟨this,e⟩
  have:=(hK z hz).1.1;rw [e2] at this;exact⟨this,e⟩
 have Mm:aL (iO (gY D K)):=Ro _;have hs0:0<=iO (gY D K):=by
  unfold iO;split
  ·rename_i hc;have hW:=a7n (cD:=0) 0 (show jD 0 (gY D K)=0 by grind [jD]);have:=Xt (λ_=>aO) (gY D K) hW.n0;grind [KQ]
  omega
 have hN:vg D K=max (iO (gY D K)-B D 1 0 0) 0:=XD hs0 zi.1 Mm;have tG:aL (vg D K):=by grind [aL]
 have W:=H.drawn hh tG hC;have ME:=W.steps _ (aZ _);rw [cU] at ME;have Jh:aw (C+140737488355328) (g+50) (dZ D K):=ME.wide (dH _) hC (by have:=W.len;omega);have hx1:(dZ D K).x=D.x:=W.sm.x;have aM6:=Jh.house 0;have VF:B (dZ D K) 1 0 0=balA (dZ D K).x.ms.length ((dZ D K).x.ss.length+1) (dZ D K).l 1 0 0:=rfl;have hG:(∀y∈iu D K,y9 D.x y/\y.a=0)/\aA (iu D K)<=144/\(∀a,nx a (iu D K)<=B (dZ D K) 1 0 a)/\(∀y∈mQ D K,y9 D.x y)/\aA (mQ D K)<=144/\(mQ D K≠ []->B (dZ D K) 1 0 0<iO (gY D K)):=by
  by_cases hc:yI (B (dZ D K) 1 0 0) (gY D K)=0
  ·have eg:iu D K=jb (B (dZ D K) 1 0 0) (gY D K):=by show zU (B (dZ D K) 1 0 0) (gY D K)=_;unfold zU;rw [ifP hc]
   have ek:mQ D K=jh (B (dZ D K) 1 0 0) (gY D K):=by show zV (B (dZ D K) 1 0 0) (gY D K)=_;unfold zV;rw [ifP hc]
   have jt:dA (gY D K)=0:=by grind [yI]
   have rT:jD (B (dZ D K) 1 0 0) (gY D K)=0:=by grind [jD]
   have P:=a6y rT (λy hy=>(QK y hy).2);rw [eg,ek];refine⟨λy hy=> ?_,cC P.gl mH,λa=> ?_,λy hy=> ?_,cC P.kl mH,λhne=> ?_⟩
   ·obtain⟨h1,h2,z,hz,e⟩:=P.g y hy;exact⟨⟨by grind,by rw [h2];omega,h1⟩,h2⟩
   ·rw [P.sum a];split
    ·grind
    exact(Jh.house a).1
   ·obtain⟨h1,h2,z,hz,e⟩:=P.k y hy;exact⟨by grind,by rw [h2];omega,h1⟩
   have h:=λh'=>hne (P.em.2 h')
   grind [iO]
  have eg:iu D K= []:=by show zU (B (dZ D K) 1 0 0) (gY D K)=_;unfold zU;rw [ifN hc]
  have ek:mQ D K= []:=by show zV (B (dZ D K) 1 0 0) (gY D K)=_;unfold zV;rw [ifN hc]
  rw [eg,ek];exact⟨by simp,by simp,λa=>by simp only [nx];exact(Jh.house a).1,by simp,by simp,λh=>absurd rfl h⟩
 obtain⟨g1,g2,g3,g4,g5,g6⟩:=hG;obtain⟨G1,S1,K1,_⟩:=aw.gives (iu D K) Jh (λx hx=>by grind) g3;have vN:=G1 _ (aZ _);rw [cU] at vN;have MX:aw (C+140737488355328) (g+194) (ij (dZ D K) (iu D K)):=vN.wide (dH _) hC (by omega);have hsm:Sm D (ij (dZ D K) (iu D K)):=W.sm.trans S1;have hE:=aw.Pa (kd:=15) (.inr (.inr rfl)) (mQ D K) MX (λx hx=>by rw [hsm.x];exact⟨(g4 x hx).2.1,.inl (g4 x hx).2.2⟩);have Jo:∀y∈iu D K,y.n<=B (dZ D K) 1 0 0:=λy hy=>by
  have h0:=g3 0;have:∀ {L:List Lg},(∀y∈L,1<=y.n/\y.a=0)->y∈L->y.n<=nx 0 L:=by
   intro L;induction L with
   |nil=>intro _ h;cases h
   |cons x L ih=>
    intro hh hx;have h0:=PD (a:=0) (L:=L) (λz hz=>(hh z (df _ hz)).1);have h1:=hh x (by simp);simp only [nx];rw [ifP h1.2];rcases fC.1 hx with rfl|hx
    ·omega
    have:=ih (λz hz=>hh z (df _ hz)) hx;omega
  have:=this (λz hz=>⟨(g1 z hz).1.2.2,(g1 z hz).2⟩) hy;omega
 refine⟨⟨H.ok (by omega),by unfold aL;omega,by omega,λy hy=> ?_,λi=> ?_,by have:=G0.len;omega,λy hy=> ?_,by omega,λm hm=> ?_,tG,λk hk=>(W.steps k hk).ok (by have:=W.len;omega),W.dI,by have:=W.len;omega,by unfold aL;omega,λk hk=>(G1 k hk).ok (by omega),λy hy=> ?_,by omega,by have:=MX.gl;omega,by omega⟩,hE.wide (dH _) hC (by omega),hsm,λhne=> ?_,⟨λy hy=>(g1 y hy).1.2.2,g2⟩,λy hy=>(g4 y hy).2.2,g5⟩
 ·have h:=hK y hy;have h1:=h.1.1;have h2:=h.1.2.1;grind [aL]
 ·unfold dW;split
  ·rename_i hs;have hs':1<=i/\i<=aA D.x.ss:=hs;have hl:(i-1).toNat<aA D.x.ss:=by omega
   have h1:=H.hs.sI _ (cK hl);rw [sQ,iA hl];grind [aL]
  show aL 0;decide
 ·have:=(G0.each y hy).1.1;unfold aL;omega
 ·have:=H.who.pD m hm;unfold aL;omega
 ·have h:=(g1 y hy).1;have h1:=h.1;have h2:=h.2.1;have h3:=h.2.2;grind [aL]
 have hlt:=g6 hne;have e:kA (I8 D K)=kA (dZ D K):=a6P (S1.x) (S1.who) (λm=>K1 8 m 0 (by decide) (by decide)) (λm=>K1 9 m 0 (by decide) (by decide)) (K1 3 0 0 (by decide) (by decide)) (K1 4 0 0 (by decide) (by decide));have e2:kA (dZ D K)=kA D-min (max (vg D K) 0) (kA D):=W.room;have e3:B (dZ D K) 1 0 0=B D 1 0 0+min (max (vg D K) 0) (kA D):=W.house;omega
theorem NC(f:Ob->Int)(g:Ob->Ob):∀(L:List Ob) (i:Nat) (x:Ob),L[i]? =aC x->dT f (L.modify i g)=dT f L-f x+f (g x)
 | [],i,x,h=>by simp at h
 |y::L,0,x,h=>by grind [dT]
 |y::L,i+1,x,h=>by have ih:=NC f g L i x (by simpa using h);grind [dT]
theorem mem_modify {L:List Ob} {i:Nat} {g:Ob->Ob} {y:Ob}(h:y∈L.modify i g):(∃k,k≠i/\L[k]? =aC y)\/∃x,L[i]? =aC x/\y=g x:=by
 obtain⟨k,hk,rfl⟩:=sR.1 h;have lZ:k<aA L:=by simpa using hk
 rw [Fq];split
 ·grind
 rename_i e;exact .inl ⟨k,λe'=>e e'.symm,iA lZ⟩
theorem kY.uniq {M S:Nat} {aj:Int} {who:List Int} {L:List Ob}(h:kY M S aj who L) {i j:Nat} {x y:Ob}(hi:L[i]? =aC x)(hj:L[j]? =aC y)(ox:eW x=aO)(oy:eW y=aO)(hm:x.m=y.m)(ha:x.a=y.a):i=j:=by
 obtain⟨pg,rfl⟩:=zF.1 hi;obtain⟨hj1,rfl⟩:=zF.1 hj;have ho:=uu.1 h.ord;rcases Nat.lt_trichotomy i j with hlt|he|hlt
 ·have:=ho i j pg hj1 hlt ox oy;omega
 ·exact he
 have:=ho j i hj1 pg hlt oy ox;omega
theorem kY.a7g {M S:Nat} {aj:Int} {who:List Int} {L:List Ob}(h:kY M S aj who L) {x y:Ob}(hx:x∈L)(hy:y∈L)(ox:eW x=aO)(oy:eW y=aO)(hm:x.m=y.m)(ha:x.a=y.a):x=y:=by obtain⟨i,hi⟩:=a9R hx;obtain⟨j,hj⟩:=a9R hy;have:=h.uniq hi hj ox oy hm ha;grind
theorem kY.mod {M S:Nat} {aj:Int} {who:List Int} {L:List Ob}(h:kY M S aj who L) {i:Nat} {x:Ob} {g:Ob->Ob}(hx:L[i]? =aC x)(hm:(g x).m=x.m)(ha:(g x).a=x.a)(ho:eW (g x)=aO->eW x=aO)(El:LU M S aj who (g x))(dR:(g x).ok)(hc:∀a,pY a (g x)<=pY a x)(hd:∀a,vB a (g x)<=vB a x):kY M S aj who (L.modify i g):=by
 refine⟨λy hy=> ?_,λy hy=> ?_, ?_,λa=> ?_,λa=> ?_,by have:=h.len;simpa using this⟩
 ·rcases mem_modify hy with⟨k,_,hk⟩|⟨z,hz,rfl⟩
  ·exact h.each y (zG hk)
  grind
 ·rcases mem_modify hy with⟨k,_,hk⟩|⟨z,hz,rfl⟩
  ·exact h.ok y (zG hk)
  grind
 ·rw [uu];intro j k hj hk hjk o1 o2;have hj':j<aA L:=by simpa using hj
  have lZ:k<aA L:=by simpa using hk
  obtain⟨hi',mL⟩:=zF.1 hx;rw [Fq] at o1;rw [Fq] at o2;rw [Fq,Fq];have fact:∀(q:Nat) (hq:q<aA L),(eW (if i=q then g L[q] else L[q])=aO->eW L[q]=aO)/\(if i=q then g L[q] else L[q]).m=L[q].m/\(if i=q then g L[q] else L[q]).a=L[q].a:=by grind
  rw [(fact j hj').2.1,(fact j hj').2.2,(fact k lZ).2.1,(fact k lZ).2.2];exact uu.1 h.ord j k hj' lZ hjk ((fact j hj').1 o1) ((fact k lZ).1 o2)
 ·rw [NC _ _ _ _ _ hx];have:=h.cl a;have:=hc a;omega
 rw [NC _ _ _ _ _ hx];have:=h.db a;have:=hd a;omega
theorem xR {x:Ob}:eW x=aO↔x.st=1:=by grind [eW]
theorem a1j {a:Int} {x:Ob}(h:x.st≠1):pY a x=0:=by grind [pY]
theorem a2D {a:Int} {x:Ob}(h:x.st≠1):vB a x=0:=by grind [vB]
theorem a1i(a:Int)(x:Ob):0<=pY a x:=by grind [pY]
theorem a2C(a:Int)(x:Ob):0<=vB a x:=by grind [vB]
theorem aF7 {m a:Int} {L:List Ob}(h:L[dS m a L]? =aB):∀y∈L,eW y=aO->¬(y.m=m/\y.a=a):=by grind [dS,yT,xR]
theorem kY.mark {M S:Nat} {aj:Int} {who:List Int} {L:List Ob}(h:kY M S aj who L) {m a s n:Int}(hs:2<=s/\s<=5)
 (hx:∀x∈L,eW x=aO->x.m=m->x.a=a->0<=n/\n<=x.size/\(s=2->n=x.size)/\(s=3->hasB who m=aO/\(x.az<0->n=0)/\(0<x.az->n<x.az))/\((s=4\/s=5)->x.az<0/\n< -x.az/\(s=4->a≠0))):
 kY M S aj who (lQ m a s n L)/\∀y∈lQ m a s n L,eW y=aO->y∈L/\¬(y.m=m/\y.a=a):=by
 cases hf:L[dS m a L]? with
 |none=>
  have e:lQ m a s n L=L:=by unfold lQ vY;rw [hf];rfl
  rw [e];exact⟨h,λy hy ho=>⟨hy,aF7 hf y hy ho⟩⟩
 |some x=>
  obtain⟨ho,hm,ha⟩:=M5 hf;have K0:=zG hf;obtain⟨h1,h2,h3,h4,h5⟩:=hx x K0 ho hm ha;have e0:vY m a s n L=0:=by unfold vY;rw [hf];simp only;rw [ifN];omega
  have e:lQ m a s n L=L.modify (dS m a L) (λx=> {x with st:=s,done:=n}):=by unfold lQ;rw [ifP e0]
  have E:=h.each x K0;have K:=h.ok x K0;rw [e];refine⟨h.mod hf rfl rfl (λJs=>ho) ?_ ?_ (λb=> ?_) (λb=> ?_),λy hy oy=> ?_⟩
  ·refine⟨E.m,E.a,E.big,E.c,by grind,h3,λhs3=> ?_,λjv=> ?_⟩
   ·grind
   grind
  ·exact⟨K.lo,K.hi,K.ne,h1,h2⟩
  ·rw [a1j (show s≠1 by omega)];exact a1i b x
  ·rw [a2D (show s≠1 by omega)];exact a2C b x
  rcases mem_modify hy with⟨k,hk,hk2⟩|⟨z,hz,rfl⟩
  ·refine⟨zG hk2,λhma=>hk (h.uniq hk2 hf oy ho (hma.1.trans hm.symm) (hma.2.trans ha.symm))⟩
  rw [xR] at oy;grind
theorem a5T {m:Int}:∀ {L:List Lg},(∀y∈L,1<=y.n)->0<=ofV m L
 | [],_=>dH 0
 |y::L,h=>by have h1:=h y (by simp);have:=a5T (m:=m) (L:=L) (λz hz=>h z (df _ hz));grind [ofV]
theorem aHX(a n dn:Int)(lost:Bool):2<=rj a n dn lost/\rj a n dn lost<=5:=by grind [rj]
theorem aw.obs {C:Int} {g:Nat} {D:Dk}(H:aw C g D) {cQ:List Ob}(h:kY (aA D.x.ms) (aA D.x.ss) D.aj D.who cQ):aw C g {D with ob:=cQ}:=
 ⟨H.hs,H.bE,H.h8,H.hl,H.fl,H.lg,H.gl,H.who,h,H.bx,H.bl,H.st,H.aj⟩
theorem Wy(GS:List (List Lg))(lost:List Lg):∀(L:List Ob) (E:Dk),rh GS lost E L= {E with ob:=(rh GS lost E L).ob}
 | [],E=>rfl
 |x::L,E=>by have ih:=Wy GS lost L (F6 GS lost E x);grind [rh,F6]
theorem a4t {GS:List (List Lg)} {lost:List Lg} {M S:Nat} {aj:Int} {who:List Int}(hG:∀G∈GS,∀y∈G,1<=y.n):∀(L:List Ob) (E:Dk),kY M S aj who E.ob->(∀x∈L,x.az<0/\∀y∈E.ob,eW y=aO->y.m=x.m->y.a=x.a->y.az=x.az)->
 (∀k,k<=aA L->kY M S aj who (rh GS lost E (L.take k)).ob)/\∀y∈(rh GS lost E L).ob,eW y=aO->y∈E.ob/\∀x∈L,¬(y.m=x.m/\y.a=x.a)
 | [],E,h,_=>⟨λk hk=>by have:k=0:=by simpa using hk
                        subst this;exact h,λy hy _=>⟨hy,by simp⟩⟩
 |x::L,E,h,hx=>by
  obtain⟨x1,x2⟩:=hx x (by simp);have Gy:0<=ofV x.m (GS.getD x.a.toNat []):=by refine a5T ?_;grind
  obtain⟨A1,A2⟩:=h.mark (m:=x.m) (a:=x.a) (s:=rj x.a (-x.az) (ofV x.m (GS.getD x.a.toNat [])) (decide (ofV x.m lost>0))) (n:=Bh (-x.az) (ofV x.m (GS.getD x.a.toNat []))) (aHX _ _ _ _) (λy hy oy hm ha=>by grind [Ob.size,rj,Bh]);have ih:=a4t (lost:=lost) hG L (F6 GS lost E x) A1 (λz hz=>⟨(hx z (df _ hz)).1,λy hy oy hm ha=>(hx z (df _ hz)).2 y (A2 y hy oy).1 oy hm ha⟩);refine⟨λk hk=> ?_,λy hy oy=> ?_⟩
  ·cases k with
   |zero=>exact h
   |succ k=>exact ih.1 k (by simpa using hk)
  obtain⟨b1,b2⟩:=ih.2 y hy oy;obtain⟨c1,c2⟩:=A2 y b1 oy;grind
theorem aCT {M A:Nat} {l:List Int} {k m a:Int}(h:a<0):balA M A l k m a=0:=by grind [JR,plcA]
theorem aw.leaves {C:Int} {g:Nat} {D:Dk}(H:aw C g D):∀k:Nat,k<=aA D.x.ss+1->aw C (g+k) (leaveD D k)/\Sm D (leaveD D k)/\(∀q m b,q≠1->q≠2->B (leaveD D k) q m b=B D q m b)/\(∀b:Int,b<(k:Int)->B (leaveD D k) 1 0 b=0)
 |0,_=>⟨H,Sm.refl D,λ_ _ _ _ _=>rfl,λb hb=>aCT (by omega)⟩
 |k+1,hk=>by
  obtain⟨G,S,K,Z⟩:=aw.leaves H k (by omega);have hx:=S.x;have e:leaveD D (k+1)=leave1 (leaveD D k) (k:Int):=rfl;rw [e];by_cases h0:0<balA (leaveD D k).x.ms.length ((leaveD D k).x.ss.length+1) (leaveD D k).l 1 0 (k:Int)
  ·have e1:leave1 (leaveD D k) (k:Int)= {leaveD D k with l:=bg (leaveD D k) 1 0 2 0 (k:Int) (balA (leaveD D k).x.ms.length ((leaveD D k).x.ss.length+1) (leaveD D k).l 1 0 (k:Int)),log:=(leaveD D k).log++ [⟨16,0,(k:Int),balA (leaveD D k).x.ms.length ((leaveD D k).x.ss.length+1) (leaveD D k).l 1 0 (k:Int),0⟩]}:=by
    grind [leave1]
   obtain⟨_,G2,hd⟩:=G.goes (tk:=2) (tm:=0) (a:=(k:Int)) (n:=balA (leaveD D k).x.ms.length ((leaveD D k).x.ss.length+1) (leaveD D k).l 1 0 (k:Int)) (e:=⟨16,0,(k:Int),balA (leaveD D k).x.ms.length ((leaveD D k).x.ss.length+1) (leaveD D k).l 1 0 (k:Int),0⟩) (.inr ⟨rfl,rfl⟩) (by rw [hx];omega) (by omega) (dH _) ⟨rfl,rfl,rfl⟩;rw [e1];refine⟨G2,S.trans ⟨rfl,rfl,rfl,rfl,rfl,rfl,rfl,rfl,_,rfl,by simp⟩,λq m b h1 h2=> ?_,λb hb=> ?_⟩
   ·grind
   grind
  have e1:leave1 (leaveD D k) (k:Int)=leaveD D k:=by grind [leave1]
  rw [e1];refine⟨G.wide (dH _) H.bE.big (by omega),S,K,λb hb=> ?_⟩;by_cases hbk:b=(k:Int)
  ·subst hbk;have:=(G.house (k:Int)).1;grind
  exact Z b (by omega)
structure a9y(C:Int)(g:Nat)(D D':Dk):Prop where
 ie:aw (C+8*jV+140737488355328) (g+1700) D'
 x:D'.x=D.x
 who:D'.who=D.who
 aj:D'.aj=D.aj
 en:D'.en=D.en
 h:D'.h= []
 op:∀x∈D'.ob,eW x=aO->False
 hz:∀a,a<=(aA D.x.ss:Int)->B D' 1 0 a=0
 bx:D'.bx= []
 st:D'.st=0
 lg:∃t,D'.log=D.log++t/\((∃e∈t,e.k=15)->kA D'=0)
theorem aw.done {C:Int} {g:Nat} {V:Dk}(h:aw C g V):aw C g {V with bx:= [],st:=0}:=
 ⟨h.hs,h.bE,h.h8,h.hl,h.fl,h.lg,h.gl,h.who,h.ob,by simp,by simp,by simp,h.aj⟩
theorem aw.rest {C:Int} {g:Nat} {D E:Dk}(H:aw C g E)(hS:Sm D E)(hh:D.h= [])(hst:∀x∈D.ob,eW x=aO->x.az<0)(hC:C+140737488355328<=4611686018427387904+1125899906842624)(hg:g+700<=90000):
 Zx E/\aw (C+140737488355328) (g+700) (pI E)/\(pI E).x=D.x/\(pI E).who=D.who/\(pI E).aj=D.aj/\(pI E).en=D.en/\(pI E).h= []/\(∀x∈(pI E).ob,eW x=aO->False)/\(∀a,a<=(aA D.x.ss:Int)->B (pI E) 1 0 a=0)/\∃t,(pI E).log=D.log++t/\((∃e∈t,e.k=15)->kA (pI E)=0):=by
 have iW:=H.hs.ml;have jf:=H.hs.sl;obtain⟨A,O⟩:=H.VN (by omega) (aA E.x.ss) (aZ _);have MC:aw C (g+256) (nh E):=A.ie.wide (dH _) H.bE.big (by omega);have hAx:(nh E).x=E.x:=A.sm.x;have hAh:(nh E).h= []:=A.sm.h.trans (hS.h.trans hh);have P:=MC.paid hAh (K:=pJ E) (λy hy=>by rw [hAx];exact A.lk y hy) (by have:=A.ll;show aA (iM E (aA E.x.ss))<=128;omega) hC (by omega);have VM:(eT E).x=E.x:=P.sm.x.trans hAx;have a3S:(eT E).ob=D.ob:=P.sm.ob.trans (A.sm.ob.trans hS.ob);have aFb:(eT E).who=D.who:=P.sm.who.trans (A.sm.who.trans hS.who);have aFZ:(eT E).aj=D.aj:=P.sm.aj.trans (A.sm.aj.trans hS.aj);have aFa:(eT E).en=D.en:=P.sm.en.trans (A.sm.en.trans hS.en);have hPh:(eT E).h= []:=P.sm.h.trans hAh;have aLu:(eT E).bx=D.bx:=P.sm.bx.trans (A.sm.bx.trans hS.bx);have hPc:aw (C+140737488355328) (g+656) (eT E):=P.ie.wide (dH _) hC (by omega);have Px:kY (eT E).x.ms.length (eT E).x.ss.length (eT E).aj (eT E).who (eT E).ob:=hPc.ob;have jt:∀x∈sq (eT E),x∈(eT E).ob/\eW x=aO/\x.az<0:=λx hx=>by obtain⟨h1,h2⟩:=j6.1 hx;simp only [jX,beq_iff_eq,decide_eq_true_eq] at h2;exact⟨h1,xR.2 h2.1,h2.2⟩
 have hGS:∀G∈tS E,(∀y∈G,1<=y.n)/\aA G<=144:=λG hG=>by
  rcases List.mem_or_eq_of_mem_set hG with h|h
  ·have:=A.gs _ G h;exact⟨this.1,by omega⟩
  subst h;exact P.g
 obtain⟨M1,M2⟩:=a4t (GS:=tS E) (lost:=Br E) (λG hG=>(hGS G hG).1) (sq (eT E)) (eT E) Px (λx hx=>by obtain⟨h1,h2,h3⟩:=jt x hx;exact⟨h3,λy hy oy hm ha=>by rw [Px.a7g hy h1 oy h2 hm ha]⟩);have hMk:∀k,k<=aA (sq (eT E))->aw (C+140737488355328) (g+656) (rh (tS E) (Br E) (eT E) ((sq (eT E)).take k)):=λk hk=>by rw [Wy];exact hPc.obs (M1 k hk)
 have DD:iX E= {eT E with ob:=(iX E).ob}:=Wy _ _ _ _;have hMc:aw (C+140737488355328) (g+656) (iX E):=by have:=hMk _ (aZ _);rw [cU] at this;exact this
 have MI:(iX E).x=E.x:=by rw [DD];exact VM
 have hop:∀x∈(iX E).ob,eW x=aO->False:=λy hy oy=>by
  obtain⟨h1,h2⟩:=M2 y hy oy;have hn:y.az<0:=by rw [a3S] at h1;exact hst y h1 oy
  refine h2 y (j6.2 ⟨h1, ?_⟩) ⟨rfl,rfl⟩;simp only [jX,beq_iff_eq,decide_eq_true_eq];exact⟨xR.1 oy,hn⟩
 have L:=λk hk=>hMc.leaves k hk
 obtain⟨V1,V2,V3,V4⟩:=L ((iX E).x.ss.length+1) (aZ _);obtain⟨V,hV⟩:∃V,V=leaveD (iX E) ((iX E).x.ss.length+1):=⟨_,rfl⟩;have hDV:pI E= {V with bx:= [],st:=0}:=by rw [hV];rfl
 rw [<-hV] at V1 V2 V3 V4;have hVc:aw (C+140737488355328) (g+700) V:=V1.wide (dH _) hC (by rw [MI];omega);have hVx:V.x=E.x:=V2.x.trans MI;rw [hDV];have hMl:(iX E).l=(eT E).l:=by rw [DD]
 have Pp:∀k m b,B (iX E) k m b=B (eT E) k m b:=λk m b=>by rw [DD]
 have eG:aA (tS E)=aA (tS E):=rfl;refine⟨⟨by omega,O,λk hk=> ?_,P.ok, ?_,λx hx=> ?_,λk hk=>(hMk k hk).ok (by omega),λG hG=>by have:=(hGS G hG).2;omega,by have:=P.k.2;show aA (mQ (nh E) (pJ E))<=_;omega,λk hk=>(L k hk).1.ok (by rw [MI] at hk;omega),λk hk=> ?_,by rw [MI];omega⟩, ?_, ?_, ?_, ?_, ?_, ?_, ?_, ?_, ?_⟩
 ·have lZ:=(H.VN (by omega) k hk).1.ll;omega
 ·rw [a3S,<-hS.ob];exact(H.ob.fine H.aj.2).len
 ·obtain⟨h1,_,_⟩:=jt x hx;have h2:=(Px.each x h1).a;have h3:=Px.ok x h1;have h4:((eT E).x.ss.length:Int)=(aA E.x.ss:Int):=by rw [VM]
  have h5:=h3.lo;have h6:=h3.hi;exact⟨h2.1,by omega,by unfold fj at h5;unfold aL;omega,h5⟩
 ·have G:=(L k (by omega)).1;have h1:=G.house (k:Int);have h2:=G.bE.big;have hx2:(leaveD (iX E) k).x=(iX E).x:=(L k (by omega)).2.1.x;have h3:B (leaveD (iX E) k) 1 0 (k:Int)=balA (iX E).x.ms.length ((iX E).x.ss.length+1) (leaveD (iX E) k).l 1 0 (k:Int):=by rw [<-hx2]
  have h4:0<=B (leaveD (iX E) k) 1 0 (k:Int)/\B (leaveD (iX E) k) 1 0 (k:Int)<=C+140737488355328:=h1;rw [<-h3];unfold aL;omega
 ·exact hVc.done
 ·exact hVx.trans hS.x
 ·show V.who=_;rw [V2.who,DD];exact aFb
 ·show V.aj=_;rw [V2.aj,DD];exact aFZ
 ·show V.en=_;rw [V2.en,DD];exact aFa
 ·show V.h=_;rw [V2.h,DD];exact hPh
 ·intro x hx;have mL:x∈V.ob:=hx;rw [V2.ob] at mL;exact hop x mL
 ·intro a ha;exact V4 a (by rw [MI,hS.x];omega)
 obtain⟨t1,e1,n1⟩:=hS.lg;obtain⟨t2,e2,n2⟩:=A.sm.lg;obtain⟨t3,e3,n3⟩:=P.sm.lg;obtain⟨t4,e4,n4⟩:=V2.lg;have eP:(eT E).log=(ij (dZ (nh E) (pJ E)) (iu (nh E) (pJ E))).log++(mQ (nh E) (pJ E)).map λx=>(⟨15,x.m,x.a,x.n,0⟩:Ev):=rfl
 have eM:(iX E).log=(eT E).log:=by rw [DD]
 refine⟨t1++t2++t3++((mQ (nh E) (pJ E)).map λx=>(⟨15,x.m,x.a,x.n,0⟩:Ev))++t4, ?_, ?_⟩
 ·show V.log=_;rw [show V.log=(iX E).log++t4 from e4,eM,eP,e3,show (nh E).log=E.log++t2 from e2,e1];simp only [List.append_assoc]
 rintro⟨e,he,hk⟩;have hne:mQ (nh E) (pJ E)≠ []:=by
  intro h0;rw [h0] at he;simp only [List.map_nil,List.append_nil,gJ] at he;rcases he with ((he|he)|he)|he
  ·exact n1 e he hk
  ·exact n2 e he hk
  ·exact n3 e he hk
  exact n4 e he hk
 have h0:kA (eT E)=0:=P.aHB hne;rw [<-h0];have hw:V.who=(eT E).who:=by rw [V2.who,DD]
 refine a6P (hVx.trans VM.symm) hw (λm=> ?_) (λm=> ?_) ?_ ?_
 ·exact(V3 8 m 0 (by decide) (by decide)).trans (Pp 8 m 0)
 ·exact(V3 9 m 0 (by decide) (by decide)).trans (Pp 9 m 0)
 ·exact(V3 3 0 0 (by decide) (by decide)).trans (Pp 3 0 0)
 exact(V3 4 0 0 (by decide) (by decide)).trans (Pp 4 0 0)
theorem aw.settled {C:Int} {g:Nat} {D:Dk}(H:aw C g D)(hh:D.h= [])(hst:∀x∈D.ob,eW x=aO->x.az<0)(hC:C+8*jV+140737488355328<=4611686018427387904+1125899906842624)(hg:g+1700<=90000):
 Tx D/\∀E,vu D (aA D.x.ss) E->a9y C g D (pI E):=by
 have jf:=H.hs.sl;have a3t:jV=140737488355328+549755813888:=rfl;have key:∀n E,n<=aA D.x.ss->vu D n E->aw (C+8*jV) (g+912) E/\Sm D E:=λn E hn hB=>by obtain⟨G,S⟩:=H.PH hh (by omega) (by omega) hB hn;refine⟨G.wide ?_ (by omega) (by omega),S⟩;have:(n:Int)*jV<=8*jV:=LL (by omega) (by omega);omega
 refine⟨⟨by omega,λn E hn hB=> ?_,λE hB=> ?_⟩,λE hB=> ?_⟩
 ·obtain⟨G,S⟩:=H.PH hh (by omega) (by omega) hB (by omega);have h1:(n:Int)*jV+jV<=8*jV:=by
   have:((n:Int)+1)*jV<=8*jV:=LL (by omega) (by omega);rw [Int.add_mul,Int.one_mul] at this;exact this
  exact G.aCj (S.h.trans hh) (s:=(n:Int)+1) (by rw [S.x];omega) (by omega) (by omega)
 ·obtain⟨G,S⟩:=key _ E (aZ _) hB;exact(G.rest S hh hst (by omega) (by omega)).1
 obtain⟨G,S⟩:=key _ E (aZ _) hB;obtain⟨_,h1,h2,h3,h4,h5,h6,h7,h8,h9⟩:=G.rest S hh hst (by omega) (by omega);exact⟨h1.wide (dH _) (by omega) (by omega),h2,h3,h4,h5,h6,h7,h8,rfl,rfl,h9⟩
theorem aw.tell {C:Int} {g:Nat} {D:Dk}(H:aw C g D) {e:Ev}(he:M0 (aA D.x.ss) e)(hf:yJ e=0):aw C (g+1) {D with log:=D.log++ [e]}:=by
 have gV:∀a,mf (D.log++ [e]) a=B D 1 0 a:=λa=>by rw [D8,D9,H.fl a,hf];split<;>simp
 exact⟨H.hs,H.bE,H.h8,H.hl,gV,H.lg.snoc he (λa=>by rw [gV];have h5:=H.house a;have h6:=H.bE.big;exact⟨h5.1,by grind⟩),by show aA (D.log++ [_])<=g+1;rw [cL];have:=H.gl;simp;omega,H.who,H.ob,H.bx,H.bl,H.st,H.aj⟩
theorem aw.tells {C:Int}:∀(L:List Ev) {g:Nat} {D:Dk},aw C g D->(∀e∈L,M0 (aA D.x.ss) e/\yJ e=0)->aw C (g+aA L) {D with log:=D.log++L}
 | [],g,D,H,_=>by rw [List.append_nil];exact H
 |e::L,g,D,H,h=>by have ih:=aw.tells L (H.tell (h e (by simp)).1 (h e (by simp)).2) (λy hy=>h y (df _ hy));grind
structure Sq(D D':Dk):Prop where
 x:D'.x=D.x
 l:D'.l=D.l
 h:D'.h=D.h
 bx:D'.bx=D.bx
 who:D'.who=D.who
 aj:D'.aj=D.aj
 st:D'.st=D.st
 en:D'.en=D.en
 lg:∃t,D'.log=D.log++t/\∀e∈t,e.k≠15
theorem Sq.refl(D:Dk):Sq D D:=⟨rfl,rfl,rfl,rfl,rfl,rfl,rfl,rfl,[],by simp,by simp⟩
theorem Sq.trans {D E F:Dk}(h:Sq D E)(h':Sq E F):Sq D F:=by obtain⟨t,e,ht⟩:=h.lg;obtain⟨t',e',zu⟩:=h'.lg;exact⟨h'.x.trans h.x,h'.l.trans h.l,h'.h.trans h.h,h'.bx.trans h.bx,h'.who.trans h.who,h'.aj.trans h.aj,h'.st.trans h.st,h'.en.trans h.en,t++t',by grind,λx hx=>(gJ.1 hx).elim (ht x) (zu x)⟩
theorem aEx {x:Ob} {who:List Int}(h1:x.st=1)(h2:nO x who≠1):(nO x who=2/\0<x.az/\x.done=x.az/\vE x who=x.done)\/(nO x who=3/\0<x.az/\x.done≠x.az/\vE x who=x.done)\/(nO x who=3/\x.az<0/\hasB who x.m=aO/\vE x who=0):=by grind [nO,vE]
theorem a1n {E:Dk} {x:Ob}(h:x.st≠1\/nO x E.who=1):yH E x=E:=by grind [yH]
theorem aDe {E:Dk} {x:Ob}:Sq E (yH E x):=by
 unfold yH;repeat' split
 ·exact Sq.refl E
 ·exact Sq.refl E
 ·exact⟨rfl,rfl,rfl,rfl,rfl,rfl,rfl,rfl,_,rfl,by simp⟩
 exact⟨rfl,rfl,rfl,rfl,rfl,rfl,rfl,rfl,[],by simp,by simp⟩
theorem aw.closes {C:Int}:∀(L:List Ob) {g:Nat} {E:Dk},aw C g E->
 (∀x∈L,x.ok/\(0<=x.a/\x.a<=(aA E.x.ss:Int))/\(x.st=1->(∀y∈E.ob,eW y=aO->y.m=x.m->y.a=x.a->y=x)/\(0<x.az->x.done≠x.az->hasB E.who x.m=aO)))->
 (∀k,k<=aA L->aw C (g+k) (uH E (L.take k)))/\Sq E (uH E L)/\∀y∈(uH E L).ob,eW y=aO->y∈E.ob/\∀x∈L,x.st=1->x.m=y.m->x.a=y.a->nO x E.who=1
 | [],g,E,H,_=>⟨λk hk=>by have:k=0:=by simpa using hk
                          subst this;exact H,Sq.refl E,λy hy _=>⟨hy,by simp⟩⟩
 |x::L,g,E,H,hx=>by
  have e:∀L',uH E (x::L')=uH (yH E x) L':=λ_=>rfl
  have hr:∀z∈L,z.ok/\(0<=z.a/\z.a<=(aA E.x.ss:Int))/\(z.st=1->(∀y∈E.ob,eW y=aO->y.m=z.m->y.a=z.a->y=z)/\(0<z.az->z.done≠z.az->hasB E.who z.m=aO)):=λz hz=>hx z (df _ hz)
  obtain⟨xo,xa,xu⟩:=hx x (by simp);by_cases hid:x.st≠1\/nO x E.who=1
  ·rw [e,a1n hid];obtain⟨I1,I2,I3⟩:=aw.closes L H hr;refine⟨λk hk=> ?_,I2,λy hy oy=> ?_⟩
   ·cases k with
    |zero=>exact H
    |succ k=>
     have:=I1 k (by simpa using hk);rw [List.take_succ_cons,e,a1n hid];exact this.wide (dH _) H.bE.big (by omega)
   grind
  have h1:x.st=1:=by omega
  have h2:nO x E.who≠1:=λh=>hid (.inr h)
  obtain⟨xu1,xu2⟩:=xu h1;have F:=aEx h1 h2;obtain⟨A1,A2⟩:=H.ob.mark (m:=x.m) (a:=x.a) (s:=nO x E.who) (n:=vE x E.who) (by omega) (λy hy oy hm ha=>by
   have:=xu1 y hy oy hm ha;subst this;have d0:=xo.d0;have d1:=xo.d1;have hsz:0<y.az->y.size=y.az:=λh=>by unfold Ob.size;rw [ifN (by omega)]
   grind)
  have El:(yH E x).ob=lQ x.m x.a (nO x E.who) (vE x E.who) E.ob:=by grind [yH]
  have G:aw C (g+1) (yH E x):=by
   have h3:=H.obs A1;unfold yH;rw [ifN (by omega),ifN h2];split
   ·exact h3.tell (e:=⟨9,x.m,x.a,-x.az,0⟩) ⟨xa.1,xa.2,.inl (by grind)⟩ rfl
   exact h3.wide (dH _) H.bE.big (by omega)
  have S:=aDe (E:=E) (x:=x);obtain⟨I1,I2,I3⟩:=aw.closes L G (λz hz=>by obtain⟨z1,z2,z3⟩:=hr z hz;refine⟨z1,by rw [S.x];exact z2,λzs=> ?_⟩;obtain⟨z4,z5⟩:=z3 zs;rw [S.who];grind);rw [e];refine⟨λk hk=> ?_,S.trans I2,λy hy oy=> ?_⟩
  ·cases k with
   |zero=>exact H
   |succ k=>
    grind
  obtain⟨b1,b2⟩:=I3 y hy oy;rw [El] at b1;obtain⟨c1,c2⟩:=A2 y b1 oy;refine⟨c1,λz hz hz1 hm ha=> ?_⟩;rcases fC.1 hz with rfl|hz
  ·omega
  have:=b2 z hz hz1 hm ha;rw [S.who] at this;exact this
theorem VO {zs:List Int} {m:Int}:hasB zs m=aO↔m∈zs:=by grind [hasB]
theorem LU.who {M S:Nat} {aj:Int} {w w':List Int} {x:Ob}(h:LU M S aj w x)(hw:∀m∈w,m∈w'):LU M S aj w' x:=
 ⟨h.m,h.a,h.big,h.c,h.st,h.a6h,λe=>⟨VO.2 (hw _ (VO.1 (h.o e).1)),(h.o e).2⟩,h.cmp⟩
theorem a2g {D:Dk} {m:Int}:m∈su D↔∃x∈D.ob,x.st=1/\0<x.az/\x.done<x.az/\x.m=m:=by grind [su,R8,BK]
structure a8B(C:Int)(g:Nat)(D:Dk):Prop where
 ok:SH D
 ie:aw C (g+500) (qQ D)
 x:(qQ D).x=D.x
 l:(qQ D).l=D.l
 h:(qQ D).h=D.h
 bx:(qQ D).bx=D.bx
 aj:(qQ D).aj=D.aj
 st:(qQ D).st=D.st
 en:(qQ D).en=D.en
 lg:∃t,(qQ D).log=D.log++t/\∀e∈t,e.k≠15
 op:∀y∈(qQ D).ob,eW y=aO->y.az<0
theorem aw.closed {C:Int} {g:Nat} {D:Dk}(H:aw C g D)(hg:g+500<=90000):a8B C g D:=by
 have iW:=H.hs.ml;have mH:=H.ob.len;have hcy:=H.aj;have hfw:Le (aA D.x.ms) (su D):=⟨a5X _,λm hm=>by obtain⟨x,hx,_,_,_,rfl⟩:=a2g.1 hm;exact(H.ob.each x hx).m⟩;have gV:=hfw.len;have hww:Le (aA D.x.ms) (qc (D.who++su D)):=⟨a5X _,λm hm=>by
  rw [R8] at hm;rcases gJ.1 hm with h|h
  ·exact H.who.pD m h
  exact hfw.pD m h⟩
 have WU:∀m∈D.who,m∈qc (D.who++su D):=λm hm=>(R8 _ _).2 (uD _ hm)
 have hoE:aA (ru D (su D))<=16:=by grind [ru]
 have h0:aw C (g+16) (ve D):=by have h1:=(H.tells (ru D (su D)) (λe he=>by obtain⟨m,_,rfl⟩:=dV.1 he;exact⟨⟨dH _,by grind,.inr (.inr rfl)⟩,rfl⟩)).wide (dH _) H.bE.big (g':=g+16) (by omega);exact⟨h1.hs,h1.bE,h1.h8,h1.hl,h1.fl,h1.lg,h1.gl,hww,⟨λx hx=>(H.ob.each x hx).who WU,H.ob.ok,H.ob.ord,H.ob.cl,H.ob.db,H.ob.len⟩,h1.bx,h1.bl,h1.st,h1.aj⟩
 have hL:∀x∈D.ob,x.ok/\(0<=x.a/\x.a<=((ve D).x.ss.length:Int))/\(x.st=1->(∀y∈(ve D).ob,eW y=aO->y.m=x.m->y.a=x.a->y=x)/\(0<x.az->x.done≠x.az->hasB (ve D).who x.m=aO)):=λx hx=>by
  refine⟨H.ob.ok x hx,(H.ob.each x hx).a,λh1=>⟨λy hy oy hm ha=>H.ob.a7g hy hx oy (xR.2 h1) hm ha,λh2 h3=> ?_⟩⟩;have d1:=(H.ob.ok x hx).d1;have hsz:x.size=x.az:=by grind [Ob.size]
  exact VO.2 ((R8 _ _).2 (EE _ (a2g.2 ⟨x,hx,h1,h2,by omega,rfl⟩)))
 obtain⟨I1,I2,I3⟩:=h0.closes D.ob hL;have vN:=I1 _ (aZ _);rw [cU] at vN;obtain⟨t,et,ht⟩:=I2.lg;refine⟨⟨H.ok (by omega),by omega,λk hk=>(I1 k hk).ok (by omega)⟩,vN.wide (dH _) H.bE.big (by omega),I2.x,I2.l,I2.h,I2.bx,I2.aj,I2.st,I2.en,⟨ru D (su D)++t, ?_, ?_⟩,λy hy oy=> ?_⟩
 ·refine et.trans ?_;show D.log++ru D (su D)++t=_;grind
 ·intro e he;rcases gJ.1 he with h|h
  ·obtain⟨m,_,rfl⟩:=dV.1 h;simp
  exact ht e h
 obtain⟨b1,b2⟩:=I3 y hy oy;have b1':=b1;have h1:=xR.1 oy;have hf:=b2 y b1' h1 rfl rfl;have hne:=(H.ob.ok y b1').ne;grind [nO]
structure a8F(C:Int)(g:Nat)(D D':Dk):Prop where
 ie:aw (C+140737488355328) (g+600) D'
 x:D'.x=D.x
 aj:D'.aj=D.aj
 en:D'.en=D.en
 h:D'.h= []
 op:∀y∈D'.ob,eW y=aO->y.az<0
 bx:D'.bx=D.bx
 st:D'.st=2
 lg:∃t,D'.log=D.log++t/\∀e∈t,e.k≠15
theorem aw.aKt {C:Int} {g:Nat} {V:Dk}(h:aw C g V):aw C g {V with h:= []}:=
 ⟨h.hs,h.bE,by simp,by simp,h.fl,h.lg,h.gl,h.who,h.ob,h.bx,h.bl,h.st,h.aj⟩
theorem aw.state {C:Int} {g:Nat} {V:Dk}(h:aw C g V) {s:Int}(hs:0<=s/\s<=2):aw C g {V with st:=s}:=
 ⟨h.hs,h.bE,h.h8,h.hl,h.fl,h.lg,h.gl,h.who,h.ob,h.bx,h.bl,hs,h.aj⟩
theorem aw.due {C:Int} {g:Nat} {D:Dk}(H:aw C g D)(vT:pU D.h)(hC:C+140737488355328<=4611686018427387904+1125899906842624)(hg:g+600<=90000):SI D/\a8F C g D (oA D):=by
 have K:=H.closed (by omega);have h2:aw C (g+500) (gQ D):=K.ie.aKt;have iW:=h2.hs.ml;have jf:=h2.hs.sl;have hg0:=(h2.DA 0).bd;have dD:=yU 0;have zi:=h2.house 0;have hdN:uJ D=max (vG (gQ D) 0-B (gQ D) 1 0 0) 0:=by show pG (iO (dg (gQ D) 0)) (B (gQ D) 1 0 0)=_;rw [h2.a7E 0];grind [XD,aL]
 have tG:aL (uJ D):=by grind [aL]
 have W:=h2.drawn rfl tG hC;have h3:=W.steps _ (aZ _);rw [cU] at h3;have Gq:aw (C+140737488355328) (g+600) (lY (gQ D) (uJ D)):=h3.wide (dH _) hC (by have:=W.len;omega);have h4:aw (C+140737488355328) (g+600) (oA D):=Gq.state (by omega);have Wd:(oA D).x=(gQ D).x:=W.sm.x;refine⟨⟨K.ok,by rw [K.h];exact vT,h2.ok (by omega),by unfold aL;omega,by omega,λm hm=> ?_,tG,λk hk=>(W.steps k hk).ok (by have:=W.len;omega),W.dI,by have:=W.len;omega,h4.ok (by omega),by rw [Wd];omega,λs hs=> ?_⟩,⟨h4,W.sm.x.trans K.x,W.sm.aj.trans K.aj,W.sm.en.trans K.en,W.sm.h,λy hy oy=> ?_,W.sm.bx.trans K.bx,rfl, ?_⟩⟩
 ·have:=h2.who.pD m hm;unfold aL;omega
 ·have:=h4.house ((s:Int)+1);unfold aL;omega
 ·have hy':y∈(lY (gQ D) (uJ D)).ob:=hy;rw [W.sm.ob] at hy';exact K.op y hy' oy
 obtain⟨t1,e1,n1⟩:=K.lg;obtain⟨t2,e2,n2⟩:=W.sm.lg;refine⟨t1++t2, ?_,λe he=>(gJ.1 he).elim (n1 e) (n2 e)⟩;show (lY (gQ D) (uJ D)).log=_;grind [gQ]
theorem aw.swap {C:Int} {g:Nat} {D:Dk}(H:aw C g D) {fk tk m n:Int} {e:Ev}(hk:(fk=7/\tk=8)\/(fk=8/\tk=7))(hm:1<=m/\m<=(aA D.x.ms:Int))(h1:1<=n)(h0:uU D fk m tk m 0 n=0)(hc:tk=8->B D 8 m 0+n<=1099511627776)(he:M0 (aA D.x.ss) e)(hf:yJ e=0):
 aw C (g+1) {D with l:=bg D fk m tk m 0 n,log:=D.log++ [e]}/\∀k q b,balA (aA D.x.ms) (aA D.x.ss+1) (bg D fk m tk m 0 n) k q b=balA (aA D.x.ms) (aA D.x.ss+1) D.l k q b+((if k=fk/\q=m/\b=0 then-n else 0)+(if k=tk/\q=m/\b=0 then n else 0)):=by
 have hi:∃i,plcA (aA D.x.ms) (aA D.x.ss+1) fk m 0=aC i:=Bp (by omega) hm (by omega) (by omega);have hj:∃i,plcA (aA D.x.ms) (aA D.x.ss+1) tk m 0=aC i:=Bp (by omega) hm (by omega) (by omega);obtain⟨i,hi⟩:=hi;obtain⟨j,hj⟩:=hj;have hd:=Qz h0 H.bE.ok.len hi hj;have dR:nE (aA D.x.ms) (aA D.x.ss+1) (bg D fk m tk m 0 n):=nE.mv H.bE.ok H.hs.sl.2;have k1:∀b,balA (aA D.x.ms) (aA D.x.ss+1) (bg D fk m tk m 0 n) 1 0 b=balA (aA D.x.ms) (aA D.x.ss+1) D.l 1 0 b:=λb=>by grind
 have k2:∀b,balA (aA D.x.ms) (aA D.x.ss+1) (bg D fk m tk m 0 n) 2 0 b=balA (aA D.x.ms) (aA D.x.ss+1) D.l 2 0 b:=λb=>by grind
 have N0:∀q b,balA (aA D.x.ms) (aA D.x.ss+1) (bg D fk m tk m 0 n) 7 q b+balA (aA D.x.ms) (aA D.x.ss+1) (bg D fk m tk m 0 n) 8 q b=balA (aA D.x.ms) (aA D.x.ss+1) D.l 7 q b+balA (aA D.x.ms) (aA D.x.ss+1) D.l 8 q b:=λq b=>by grind
 have gV:∀b,mf (D.log++ [e]) b=balA (aA D.x.ms) (aA D.x.ss+1) (bg D fk m tk m 0 n) 1 0 b:=λb=>by rw [D8,D9,H.fl b,hf,k1];split<;>omega
 refine⟨⟨H.hs,⟨dR, ?_, ?_, ?_, ?_, ?_, ?_, ?_,H.bE.big,H.bE.F0⟩,H.h8,H.hl,gV,H.lg.snoc he (λb=>by rw [gV];refine⟨dR.nn rfl 0 b, ?_⟩;rw [k1];have:=(H.house b).2;have:=H.bE.big;omega), ?_,H.who,H.ob,H.bx,H.bl,H.st,H.aj⟩,hd⟩
 ·intro q b;show balA (aA D.x.ms) (aA D.x.ss+1) (bg D fk m tk m 0 n) 8 q b<=_;rw [hd];have h8:=H.bE.sr q b;grind
 ·intro q b;show balA (aA D.x.ms) (aA D.x.ss+1) (bg D fk m tk m 0 n) 9 q b<=_;rw [hd,ifN (by omega),ifN (by omega)];have:=H.bE.zY q b;grind
 ·intro b;show balA (aA D.x.ms) (aA D.x.ss+1) (bg D fk m tk m 0 n) 3 0 b<=_;rw [hd,ifN (by omega),ifN (by omega)];have:=H.bE.zx b;grind
 ·intro b;show balA (aA D.x.ms) (aA D.x.ss+1) (bg D fk m tk m 0 n) 4 0 b<=_;rw [hd,ifN (by omega),ifN (by omega)];have:=H.bE.cap b;grind
 ·intro q b;show _<=balA (aA D.x.ms) (aA D.x.ss+1) (bg D fk m tk m 0 n) 7 q b+balA (aA D.x.ms) (aA D.x.ss+1) (bg D fk m tk m 0 n) 8 q b-balA (aA D.x.ms) (aA D.x.ss+1) (bg D fk m tk m 0 n) 1 0 b;rw [N0,k1];exact H.bE.lo q b
 ·intro q b;show balA (aA D.x.ms) (aA D.x.ss+1) (bg D fk m tk m 0 n) 7 q b+balA (aA D.x.ms) (aA D.x.ss+1) (bg D fk m tk m 0 n) 8 q b+balA (aA D.x.ms) (aA D.x.ss+1) (bg D fk m tk m 0 n) 1 0 b<=_;rw [N0,k1];exact H.bE.hi q b
 ·intro b;show balA (aA D.x.ms) (aA D.x.ss+1) (bg D fk m tk m 0 n) 2 0 b+balA (aA D.x.ms) (aA D.x.ss+1) (bg D fk m tk m 0 n) 1 0 b<=_;rw [k2,k1];exact H.bE.es b
 show aA (D.log++ [e])<=g+1;rw [cL];have:=H.gl;simp;omega
theorem Qw {x:ak} {m:Int}(h:jS x m=0):1<=m/\m<=(aA x.ms:Int):=by
 unfold jS at h;split at h
 ·rename_i h';exact h'
 cases h
theorem Rc {x:ak} {a:Int}(h:jC x a=0):1<=a/\a<=(aA x.ss:Int):=by
 unfold jC at h;split at h
 ·rename_i h';exact h'
 cases h
theorem a5E {D:Dk} {m n:Int}(h:nY D m n=0):(1<=m/\m<=(aA D.x.ms:Int))/\1<=n:=by
 refine⟨?_,a5B h⟩;unfold nY at h;by_cases h0:jS D.x m=0
 ·exact Qw h0
 omega
structure Cj(D D':Dk):Prop where
 x:D'.x=D.x
 h:D'.h=D.h
 ob:D'.ob=D.ob
 bx:D'.bx=D.bx
 aj:D'.aj=D.aj
 st:D'.st=D.st
 en:D'.en=D.en
 k1:∀b,B D' 1 0 b=B D 1 0 b
 k2:∀b,B D' 2 0 b=B D 2 0 b
 N0:∀q b,B D' 7 q b+B D' 8 q b=B D 7 q b+B D 8 q b
 lg:∃t,D'.log=D.log++t/\∀e∈t,e.k≠15
theorem Cj.refl(D:Dk):Cj D D:=⟨rfl,rfl,rfl,rfl,rfl,rfl,rfl,λ_=>rfl,λ_=>rfl,λ_ _=>rfl,[],by simp,by simp⟩
theorem a7V {D:Dk} {fk tk m n:Int} {e:Ev}(hk:(fk=7/\tk=8)\/(fk=8/\tk=7))(he:e.k≠15)(hd:∀k q b,balA (aA D.x.ms) (aA D.x.ss+1) (bg D fk m tk m 0 n) k q b=balA (aA D.x.ms) (aA D.x.ss+1) D.l k q b+((if k=fk/\q=m/\b=0 then-n else 0)+(if k=tk/\q=m/\b=0 then n else 0))):Cj D {D with l:=bg D fk m tk m 0 n,log:=D.log++ [e]}:=by
 refine⟨rfl,rfl,rfl,rfl,rfl,rfl,rfl,λb=> ?_,λb=> ?_,λq b=> ?_,[e],rfl,by simpa using he⟩
 ·grind
 ·grind
 grind
theorem aw.top {C:Int} {g:Nat} {D:Dk}(H:aw C g D)(m n:Int):aw C (g+1) (AP D m n)/\Cj D (AP D m n):=by
 by_cases h:Dh D m n=0
 ·have e:AP D m n=Na D m n:=by grind [AP]
  rw [e];unfold Dh at h;have hm:nY D m n=0:=by omega
  rw [ifN (by rw [hm];simp)] at h;obtain⟨mG,hn⟩:=a5E hm;have hc8:=H.bE.sr m 0;have hn8:=H.bE.ok.nn (k:=8) rfl m 0;have hle:n<=1099511627776-balA (aA D.x.ms) (aA D.x.ss+1) D.l 8 m 0:=by grind [pG,Wz]
  obtain⟨i,hi⟩:=Bp (M:=aA D.x.ms) (A:=aA D.x.ss+1) (k:=7) (.inl rfl) mG (a:=0) (by omega) (by omega);obtain⟨j,hj⟩:=Bp (M:=aA D.x.ms) (A:=aA D.x.ss+1) (k:=8) (.inr (.inl rfl)) mG (a:=0) (by omega) (by omega);have ho:=H.own m 0;have kh:=H.bE.big;have hh:=H.house 0;have h0:uU D 7 m 8 m 0 n=0:=N6 hi hj (by omega) (by omega) (by unfold aL;omega) (.inl rfl) (by unfold aL;omega) (by unfold aL;omega) H.bE.ok.len;obtain⟨G,hd⟩:=H.swap (e:=⟨17,m,0,n,0⟩) (.inl ⟨rfl,rfl⟩) mG hn h0 (λ_=>by grind) ⟨dH _,by grind,.inl hn⟩ rfl;exact⟨G,a7V (.inl ⟨rfl,rfl⟩) (by simp) hd⟩
 have e:AP D m n=D:=by grind [AP]
 rw [e];exact⟨H.wide (dH _) H.bE.big (by omega),Cj.refl D⟩
theorem aw.take {C:Int} {g:Nat} {D:Dk}(H:aw C g D)(m n:Int):aw C (g+1) (AO D m n)/\Cj D (AO D m n):=by
 by_cases h:FJ D m n=0
 ·have e:AO D m n=NZ D m n:=by grind [AO]
  rw [e];unfold FJ at h;have hm:nY D m n=0:=by omega
  rw [ifN (by rw [hm];simp)] at h;obtain⟨mG,hn⟩:=a5E hm;obtain⟨G,hd⟩:=H.swap (e:=⟨18,m,0,n,0⟩) (.inr ⟨rfl,rfl⟩) mG hn h (λe=>by omega) ⟨dH _,by grind,.inl hn⟩ rfl;exact⟨G,a7V (.inr ⟨rfl,rfl⟩) (by simp) hd⟩
 have e:AO D m n=D:=by grind [AO]
 rw [e];exact⟨H.wide (dH _) H.bE.big (by omega),Cj.refl D⟩
structure nk(Cf:Int)(D:Dk):Prop where
 hd:∀a,B D 1 0 a=dT (ou a) D.ob
 lo:∀m a,-Cf<=B D 7 m a+B D 8 m a+dT (o7 m a) D.ob
 hi:∀m a,B D 7 m a+B D 8 m a+dT (o7 m a) D.ob<=Cf
 es:∀a,B D 2 0 a<=Cf
theorem RF {f f':Ob->Int}:∀ {L:List Ob},(∀x∈L,f x<=f' x)->dT f L<=dT f' L
 | [],_=>dH _
 |x::L,h=>by have h1:=h x (by simp);have ih:=RF (L:=L) (λy hy=>h y (df _ hy));grind [dT]
theorem F9 {f:Ob->Int} {L:List Ob}(h:∀x∈L,f x=0):dT f L=0:=by
 induction L with
 |nil=>rfl
 |cons x L ih=>
  grind [dT]
theorem a5d {f:Ob->Int} {L:List Ob}(h:∀x∈L,0<=f x):0<=dT f L:=by
 have:=RF (f:=λ_=>0) (f':=f) h
 rwa [F9 (λ_ _=>rfl)] at this
theorem JZ {M S:Nat} {aj:Int} {who:List Int} {L:List Ob}(h:kY M S aj who L)(m a:Int):0<=dT (o7 m a) L/\dT (o7 m a) L<=dT (ou a) L/\dT (ou a) L<=288230376151711744:=by
 have h1:∀x∈L,0<=o7 m a x:=λx hx=>by have:=(h.ok x hx).d0;unfold o7;split<;>omega
 have h2:∀x∈L,o7 m a x<=ou a x:=λx hx=>by have:=(h.ok x hx).d0;grind [o7,ou]
 have h3:∀x∈L,ou a x<=vB a x:=λx hx=>by have d1:=(h.ok x hx).d1;grind [ou,vB,Ob.size]
 have:=h.db a;have:=yU a;have:=RF h3;exact⟨a5d h1,RF h2,by omega⟩
theorem nk.dr {Cf:Int} {D:Dk}(F:nk Cf D) {M S:Nat} {aj:Int} {who:List Int}(h:kY M S aj who D.ob):
 (∀m a,-(Cf+576460752303423488)<=B D 7 m a+B D 8 m a-B D 1 0 a)/\(∀m a,B D 7 m a+B D 8 m a+B D 1 0 a<=Cf+576460752303423488)/\∀a,B D 2 0 a+B D 1 0 a<=Cf+576460752303423488:=by
 refine⟨λm a=> ?_,λm a=> ?_,λa=> ?_⟩
 ·have:=JZ h m a;have:=F.lo m a;have:=F.hd a;omega
 ·have:=JZ h m a;have:=F.hi m a;have:=F.hd a;omega
 have:=JZ h 0 a;have:=F.es a;have:=F.hd a;omega
theorem nk.swp {Cf:Int} {D D':Dk}(F:nk Cf D)(S:Cj D D'):nk Cf D':=
 ⟨λa=>by rw [S.k1,S.ob];exact F.hd a,λm a=>by rw [S.N0,S.ob];exact F.lo m a,λm a=>by rw [S.N0,S.ob];exact F.hi m a,λa=>by rw [S.k2];exact F.es a⟩
section
structure Cg(D D':Dk):Prop where
 x:D'.x=D.x
 h:D'.h=D.h
 bx:D'.bx=D.bx
 aj:D'.aj=D.aj
 st:D'.st=D.st
 en:D'.en=D.en
 lg:∃t,D'.log=D.log++t/\∀e∈t,e.k≠15
theorem Cg.refl(D:Dk):Cg D D:=⟨rfl,rfl,rfl,rfl,rfl,rfl,[],by simp,by simp⟩
theorem a6k {D:Dk} {m a:Int}(h:oK D m a=0):(1<=m/\m<=(aA D.x.ms:Int))/\0<=a/\a<=(aA D.x.ss:Int):=by
 unfold oK at h;by_cases h0:jS D.x m=0
 ·refine⟨Qw h0, ?_⟩;rw [ifN (by omega)] at h;by_cases ha:a=0
  ·omega
  rw [ifN ha] at h;have:=Rc h;omega
 omega
section
variable {C Cf:Int} {g:Nat} {D:Dk}
theorem kY.paid {M S:Nat} {aj:Int} {who:List Int} {L:List Ob}(h:kY M S aj who L) {m a d:Int} {x:Ob} {i:Nat}(hx:L[i]? =aC x)(ho:eW x=aO)(hm:x.m=m)(ha:x.a=a)(hn:0<x.az)(h0:0<=x.done+d)(h1:x.done+d<=x.az):
 kY M S aj who (L.modify i λx=> {x with done:=x.done+d})/\(∀b,dT (ou b) (L.modify i λx=> {x with done:=x.done+d})=dT (ou b) L+if b=a then d else 0)/\∀q b,dT (o7 q b) (L.modify i λx=> {x with done:=x.done+d})=dT (o7 q b) L+if q=m/\b=a then d else 0:=by
 have hs:=xR.1 ho;have K0:=zG hx;have E:=h.each x K0;have K:=h.ok x K0;have hsz:x.size=x.az:=by grind [Ob.size]
 refine⟨h.mod hx rfl rfl (λo=>o) ⟨E.m,E.a,E.big,E.c,E.st,λe=> ?_,λe=> ?_,λe=> ?_⟩ ⟨K.lo,K.hi,K.ne,h0, ?_⟩ (λb=>dH _) (λb=>dH _),λb=> ?_,λq b=> ?_⟩
 ·grind
 ·grind
 ·grind
 ·show x.done+d<=x.size;omega
 ·grind [NC,ou]
 grind [NC,o7]
theorem aw.moved(H:aw (Cf+576460752303423488) g D)(F:nk Cf D) {m a d n fk fm tk tm:Int} {e:Ev} {cQ:List Ob}(WS:(1<=m/\m<=(aA D.x.ms:Int))/\0<=a/\a<=(aA D.x.ss:Int))(hk:(fk=7/\fm=m/\tk=1/\tm=0/\d=n)\/(fk=1/\fm=0/\tk=7/\tm=m/\d= -n))(h1:1<=n)
 (ho:kY (aA D.x.ms) (aA D.x.ss) D.aj D.who cQ) (Gy:∀b,dT (ou b) cQ=dT (ou b) D.ob+if b=a then d else 0) (hdm:∀q b,dT (o7 q b) cQ=dT (o7 q b) D.ob+if q=m/\b=a then d else 0) (he:e.a=a/\e.n=n/\yJ e=d):
 aw (Cf+576460752303423488) (g+1) {D with ob:=cQ,l:=bg D fk fm tk tm a n,log:=D.log++ [e]}/\nk Cf {D with ob:=cQ,l:=bg D fk fm tk tm a n,log:=D.log++ [e]}:=by
 have kh:=H.bE.big;have hha:=F.hd a;have VF:B D 1 0 a=balA (aA D.x.ms) (aA D.x.ss+1) D.l 1 0 a:=rfl;have hdb:=JZ H.ob m a;have aM7:=JZ ho m a;have aFr:=Gy a;rw [ifP rfl] at aFr;have QJ:=H.own m a;have hoh:=H.house a;obtain⟨ih,QD⟩:=NL (M:=aA D.x.ms) (A:=aA D.x.ss+1) WS.2.1 (by omega);obtain⟨io,Vm⟩:=Bp (M:=aA D.x.ms) (A:=aA D.x.ss+1) (k:=7) (.inl rfl) WS.1 WS.2.1 (by omega);have hP:∃i j,plcA (aA D.x.ms) (aA D.x.ss+1) fk fm a=aC i/\plcA (aA D.x.ms) (aA D.x.ss+1) tk tm a=aC j:=by grind
 obtain⟨i,j,hi,hj⟩:=hP;have h0:uU D fk fm tk tm a n=0:=by
  rcases hk with⟨rfl,rfl,rfl,rfl,hd⟩|⟨rfl,rfl,rfl,rfl,hd⟩
  ·exact N6 hi hj (by omega) (by omega) (by unfold aL;omega) (.inl rfl) (by unfold aL;omega) (by unfold aL;omega) H.bE.ok.len
  exact N6 hi hj (by omega) (by omega) (by unfold aL;omega) (.inr ⟨by omega,by rw [Va H.h8 (by decide)];omega⟩) (by unfold aL;omega) (by unfold aL;omega) H.bE.ok.len
 have hd:=Qz h0 H.bE.ok.len hi hj;have dR:nE (aA D.x.ms) (aA D.x.ss+1) (bg D fk fm tk tm a n):=nE.mv H.bE.ok H.hs.sl.2;have k1:∀b,balA (aA D.x.ms) (aA D.x.ss+1) (bg D fk fm tk tm a n) 1 0 b=balA (aA D.x.ms) (aA D.x.ss+1) D.l 1 0 b+if b=a then d else 0:=λb=>by grind
 have k7:∀q b,balA (aA D.x.ms) (aA D.x.ss+1) (bg D fk fm tk tm a n) 7 q b=balA (aA D.x.ms) (aA D.x.ss+1) D.l 7 q b-if q=m/\b=a then d else 0:=λq b=>by grind
 have ko:∀k q b,k≠1->k≠7->balA (aA D.x.ms) (aA D.x.ss+1) (bg D fk fm tk tm a n) k q b=balA (aA D.x.ms) (aA D.x.ss+1) D.l k q b:=λk q b e1 e7=>by grind
 have hF:nk Cf {D with ob:=cQ,l:=bg D fk fm tk tm a n,log:=D.log++ [e]}:=by
  refine⟨λb=> ?_,λq b=> ?_,λq b=> ?_,λb=> ?_⟩
  ·have:=F.hd b;grind
  ·have:=F.lo q b;grind
  ·have:=F.hi q b;grind
  exact jm (rD (ko 2 0 b (by decide) (by decide))) (F.es b)
 obtain⟨r1,r2,r3⟩:=hF.dr ho;have gV:∀b,mf (D.log++ [e]) b=balA (aA D.x.ms) (aA D.x.ss+1) (bg D fk fm tk tm a n) 1 0 b:=λb=>by rw [D8,D9,H.fl b,he.1,he.2.2,k1];omega
 refine⟨⟨H.hs,⟨dR, ?_, ?_, ?_, ?_,r1,r2,r3,H.bE.big,H.bE.F0⟩,H.h8,H.hl,gV,H.lg.snoc ⟨by omega,by omega,.inl (by rw [he.2.1];exact h1)⟩ (λb=>by rw [gV];refine⟨dR.nn rfl 0 b, ?_⟩;have h5:=(JZ ho m b).2.2;have h6:=hF.hd b;have h7:B {D with ob:=cQ,l:=bg D fk fm tk tm a n,log:=D.log++ [e]} 1 0 b=balA (aA D.x.ms) (aA D.x.ss+1) (bg D fk fm tk tm a n) 1 0 b:=rfl;have h8:dT (ou b) ({D with ob:=cQ,l:=bg D fk fm tk tm a n,log:=D.log++ [e]}:Dk).ob=dT (ou b) cQ:=rfl;omega), ?_,H.who,ho,H.bx,H.bl,H.st,H.aj⟩,hF⟩
 ·intro q b;exact jm (rD (ko 8 q b (by decide) (by decide))) (H.bE.sr q b)
 ·intro q b;exact jm (rD (ko 9 q b (by decide) (by decide))) (H.bE.zY q b)
 ·intro b;exact jm (rD (ko 3 0 b (by decide) (by decide))) (H.bE.zx b)
 ·intro b;exact jm (rD (ko 4 0 b (by decide) (by decide))) (H.bE.cap b)
 show aA (D.log++ [e])<=g+1;rw [cL];have:=H.gl;simp;omega
theorem aw.pay(H:aw (Cf+576460752303423488) g D)(F:nk Cf D)(m a n:Int):
 aw (Cf+576460752303423488) (g+1) (pF D m a n 7 m 1 0 5 (ir m a n D.ob) (kR m a n D.ob))/\nk Cf (pF D m a n 7 m 1 0 5 (ir m a n D.ob) (kR m a n D.ob))/\Cg D (pF D m a n 7 m 1 0 5 (ir m a n D.ob) (kR m a n D.ob)):=by
 unfold pF;by_cases hs:oK D m a≠0
 ·rw [ifP hs];exact⟨H.wide (dH _) H.bE.big (by omega),F,Cg.refl D⟩
 rw [ifN hs];by_cases hp:ir m a n D.ob≠0
 ·rw [ifP hp];have e:kR m a n D.ob=D.ob:=by grind [kR]
  rw [e];exact⟨H.wide (dH _) H.bE.big (by omega),F,Cg.refl D⟩
 rw [ifN hp];have gW:ir m a n D.ob=0:=by omega
 have e:kR m a n D.ob=D.ob.modify (dS m a D.ob) λx=> {x with done:=x.done+n}:=by grind [kR]
 cases hf:D.ob[dS m a D.ob]? with
 |none=>grind [ir]
 |some x=>
  unfold ir at gW;rw [hf] at gW;simp only at gW;obtain⟨ho,hm,ha⟩:=M5 hf;have K:=H.ob.ok x (zG hf);have hd0:=K.d0;by_cases c1:x.az<0
  ·omega
  rw [ifN c1] at gW;by_cases c2:n<1
  ·omega
  rw [ifN c2] at gW;by_cases c3:x.az-x.done<n
  ·omega
  obtain⟨A1,A2,A3⟩:=H.ob.paid (d:=n) hf ho hm ha (by omega) (by omega) (by omega);rw [e];obtain⟨G,F'⟩:=H.moved F (d:=n) (n:=n) (fk:=7) (fm:=m) (tk:=1) (tm:=0) (e:=⟨5,m,a,n,0⟩) (a6k (by omega)) (.inl ⟨rfl,rfl,rfl,rfl,rfl⟩) (by omega) A1 A2 A3 ⟨rfl,rfl,rfl⟩;exact⟨G,F',⟨rfl,rfl,rfl,rfl,rfl,rfl,_,rfl,by simp⟩⟩
theorem aw.aJL(H:aw (Cf+576460752303423488) g D)(F:nk Cf D)(m a n:Int):
 aw (Cf+576460752303423488) (g+1) (pF D m a n 1 0 7 m 6 (l8 m a n D.ob) (ni m a n D.ob))/\nk Cf (pF D m a n 1 0 7 m 6 (l8 m a n D.ob) (ni m a n D.ob))/\Cg D (pF D m a n 1 0 7 m 6 (l8 m a n D.ob) (ni m a n D.ob)):=by
 unfold pF;by_cases hs:oK D m a≠0
 ·rw [ifP hs];exact⟨H.wide (dH _) H.bE.big (by omega),F,Cg.refl D⟩
 rw [ifN hs];by_cases hp:l8 m a n D.ob≠0
 ·rw [ifP hp];have e:ni m a n D.ob=D.ob:=by grind [ni]
  rw [e];exact⟨H.wide (dH _) H.bE.big (by omega),F,Cg.refl D⟩
 rw [ifN hp];have gW:l8 m a n D.ob=0:=by omega
 have e:ni m a n D.ob=D.ob.modify (dS m a D.ob) λx=> {x with done:=x.done+ -n}:=by grind [ni]
 cases hf:D.ob[dS m a D.ob]? with
 |none=>grind [l8]
 |some x=>
  unfold l8 at gW;rw [hf] at gW;simp only at gW;obtain⟨ho,hm,ha⟩:=M5 hf;have K:=H.ob.ok x (zG hf);have DF:=K.d1;by_cases c1:x.az<0
  ·omega
  rw [ifN c1] at gW;by_cases c2:n<1
  ·omega
  rw [ifN c2] at gW;by_cases c3:x.done<n
  ·omega
  have hsz:x.size=x.az:=by grind [Ob.size]
  obtain⟨A1,A2,A3⟩:=H.ob.paid (d:= -n) hf ho hm ha (by omega) (by omega) (by omega);rw [e];obtain⟨G,F'⟩:=H.moved F (d:= -n) (n:=n) (fk:=1) (fm:=0) (tk:=7) (tm:=m) (e:=⟨6,m,a,n,0⟩) (a6k (by omega)) (.inr ⟨rfl,rfl,rfl,rfl,rfl⟩) (by omega) A1 A2 A3 ⟨rfl,rfl,rfl⟩;exact⟨G,F',⟨rfl,rfl,rfl,rfl,rfl,rfl,_,rfl,by simp⟩⟩
theorem aCf {x:ak} {d:Bd}(hx:Fo x)(h:nK x d=0):(1<=d.m/\d.m<=(aA x.ms:Int))/\(1<=d.c/\d.c<=(aA x.ss:Int))/\(1<=d.q/\d.q<=274877906944)/\1<=d.p/\d.p<=1048576:=by
 unfold nK at h;by_cases c1:GV x d=aO
 ·grind
 rw [ifN c1] at h;by_cases c2:GX x d=aO
 ·grind
 rw [ifN c2] at h;by_cases c3:GY d=aO
 ·grind
 rw [ifN c3] at h;by_cases c4:JU d=aO
 ·grind
 rw [ifN c4] at h;by_cases c5:GZ x d=aO
 ·grind
 have hm:jS x d.m=0:=by simpa [GV] using c1
 have hs:jC x d.c=0:=by simpa [GX] using c2
 have h3:¬(d.q<1\/d.p<1):=by simpa [GY] using c3
 have h4:¬d.q>274877906944:=by simpa [JU] using c4
 have h5:¬d.p>(dW x d.c).b:=by simpa [GZ] using c5
 have hc:=Rc hs;have hb:(dW x d.c).b<=1048576:=by
  unfold dW;rw [ifP (show tQ x d.c from hc)];have hl:(d.c-1).toNat<aA x.ss:=by omega
  rw [sQ,iA hl];exact(hx.sI _ (cK hl)).2.2
 exact⟨Qw hm,hc,by omega,by omega⟩
structure Bdd(D D':Dk):Prop where
 x:D'.x=D.x
 h:D'.h=D.h
 l:D'.l=D.l
 ob:D'.ob=D.ob
 aj:D'.aj=D.aj
 st:D'.st=D.st
 en:D'.en=D.en
 bx:D'.bx=D.bx\/D.st=2
 lg:∃t,D'.log=D.log++t/\∀e∈t,e.k≠15
theorem aw.Ll(H:aw C g D)(d:Bd):aw C (g+1) (pW D d)/\Bdd D (pW D d):=by
 by_cases h:wV D d=0
 ·have e:pW D d=PG D d:=by grind [pW]
  rw [e];unfold wV at h;by_cases hs:D.st≠2
  ·omega
  rw [ifN hs] at h;by_cases hb:nK D.x d≠0
  ·omega
  rw [ifN hb] at h;by_cases hw:hasB D.who d.m=aO
  ·grind
  rw [ifN hw] at h;by_cases hv:jE D d.c=0
  ·omega
  rw [ifN hv] at h;unfold wT at h;rw [ifN hb] at h;have hlen:¬D.x.bY<=(aA D.bx:Int):=λh'=>by omega
  have bU:=H.hs.bd;have I:=aCf H.hs (show nK D.x d=0 by omega);have G:=H.tell (e:=⟨11,d.m,d.c,d.q,(aA D.bx:Int)+1⟩) ⟨by show 0<=d.c;omega,I.2.1.2,.inl I.2.2.1.1⟩ rfl;refine⟨⟨G.hs,G.bE,G.h8,G.hl,G.fl,G.lg,G.gl,G.who,G.ob,λy hy=> ?_, ?_,G.st,G.aj⟩,⟨rfl,rfl,rfl,rfl,rfl,rfl,rfl,.inr (by omega),_,rfl,by simp⟩⟩
  ·have hy':=hy;rcases gJ.1 hy' with h|h
   ·exact H.bx y h
   obtain rfl:=List.mem_singleton.1 h;exact⟨I.1,I.2.1,I.2.2.1,I.2.2.2,by grind [aL]⟩
  show aA (D.bx++ [_])<=32;grind
 have e:pW D d=D:=by grind [pW]
 rw [e];exact⟨H.wide (dH _) H.bE.big (by omega),⟨rfl,rfl,rfl,rfl,rfl,rfl,rfl,.inl rfl,[],by simp,by simp⟩⟩
end
end
def tO(x:ak)(a:Int):Int:=if jC x a=0 then (dW x a).a else 1
def D3(D:Dk):List Ob:=D.ob.filter λx=>x.st==1&&(λx=>decide (0<x.az)) x
def NQ(x:ak)(m:Int)(n:Int)(o:Ob):Int:=if o.m=m then fV (n+fV (o.az*tO x o.a)) else n
def FD(x:ak)(m:Int)(L:List Ob):Int:=L.foldl (NQ x m) 0
def AG(D:Dk)(m:Int):Int:=FD D.x m (D3 D)
theorem aJO {x:ak} {m:Int} {L:List Ob} {k:Nat}(h:k<aA L):FD x m (L.take (k+1))=NQ x m (FD x m (L.take k)) L[k]:=by rw [fF h];unfold FD;rw [List.foldl_append];rfl
theorem aEc(db:Nat)(p:Dp)(D:Dk)(m:Int)(w:aJ)(H:bT w db p D)(hO:fZ D)(hI:∀x∈D.ob,aL x.a):
 aQ aM 58 #[π db,ν m] w λe w'=>e=aU (ν (AG D m))/\β w w':=by
 have HC:=η (λW (hW:β w W)=>(H.below hW).cells);have tq:Hid (aA D.ob<=1024):=η hO.ob.len;have yl:=η (aHx D.ob p.sv p.sb 0 w H.sh (by have:=tq.o;omega));have hde:(D.ob.filter λx=>x.st==1&&(λx=>decide (0<x.az)) x)=D3 D:=rfl;rw [hde] at yl;have TI:Hid (AG D m=FD D.x m (D3 D)):=η rfl;have aM8:aA (D3 D)<=1024:=cC (qN _ _) tq.o;have Sj:Hid (∀x∈D3 D,aL x.a):=η (λx hx=>hI x (j6.1 hx).1);have oX:=η (λW (hW:β w W) a (ha:aL a)=>NS D.x a W (H.below hW).src ha);have c9:=H.cells.c9;generalize AG D m=R at*;unfold ak.val at oX;generalize D3 D=L at*;go_enter func58,ntmps58
 go_upto_region 3 with (go_at_call 116;refine yl.o.mono ?_;rintro e w1 ⟨v1,rfl,eR,hb1⟩;obtain⟨A1,k1,zv⟩:=bJ eR;subst zv;have cW:=η (aW.cA eR);have aR:=η hb1)
 clear yl c9;go_loopw [5,7,8,9,10,17] (λn _ _ _ _ i wr=>∃k:Nat,k<=aA L/\i=ν (k:Int)/\n=ν (FD D.x m (L.take k))/\Hid (β w1 wr)) (λ_ _ _ _ _ i _=>aA L-(ag i).toNat)
 case atStart=>exact⟨0,bL _,rfl,rfl,η (aX _ _)⟩
 case round=>
  skip
  obtain⟨k,hk,rfl,rfl,HB⟩:=hrel;by_cases hlt:k<aA L
  ·obtain⟨bl,ol,kN,hbl,l0,l1,l2,l3,l4,l5⟩:=xO ((cW.o.below HB.o).mono HB.o.size) hlt;have eV:(0:Int)<=(k:Int):=by omega
   have hkb:(k:Int)<(aA L:Int):=by omega
   have HL:=η (aJO (x:=D.x) (m:=m) hlt);have OO:=η (Sj.o _ (cK hlt));subst kN;generalize FD D.x m (L.take k)=n at*;generalize L[k]=x at*;obtain⟨xc,xm,xa,xn,xd,xs⟩:=x;simp only at l0 l1 l2 l3 l4 l5;have lL:Hid (NQ D.x m n ⟨xc,xm,xa,xn,xd,xs⟩=if xm=m then fV (n+fV (xn*tO D.x xa)) else n):=η rfl;have gz:Hid (β wr (wr.alloc (aK #[ν xc,ν xm,ν xa,ν xn,ν xd,ν xs] 59))):=η σ;have uA:Hid ((wr.alloc (aK #[ν xc,ν xm,ν xa,ν xn,ν xd,ν xs] 59)).heap[wr.heap.size]? =aC (aK #[ν xc,ν xm,ν xa,ν xn,ν xd,ν xs] 59 (0,0))):=η (cT wr _);have vW:wr.heap.size<(wr.alloc (aK #[ν xc,ν xm,ν xa,ν xn,ν xd,ν xs] 59)).heap.size:=by simp
   go_upto_region 5 with (fail)
   generalize wr.alloc (aK #[ν xc,ν xm,ν xa,ν xn,ν xd,ν xs] 59)=w6 at*;obtain⟨bx,bQ⟩:∃bx,bx=wr.heap.size:=⟨_,rfl⟩;rw [<-bQ] at uA vW ⊢;clear bQ l0 l1 l2 l3 l4 l5;have cE:Hid (β w1 w6):=η (HB.o.trans (gz.o.mono HB.o.size));have fL:Hid (∀W,β w6 W->W.cell? ⟨bx,1,aB⟩=aC (ν xm)/\W.cell? ⟨bx,2,aB⟩=aC (ν xa)/\W.cell? ⟨bx,3,aB⟩=aC (ν xn)):=η (λW hW=>by have hd:=(hW.block bx vW).trans uA.o;exact⟨ρ hd,ρ hd,ρ hd⟩);have e1:=(fL.o _ (aX _ _)).1;clear HB gz uA;by_cases h1:xm=m
   case neg=>
    have hb:(xm==m)=aP:=by simpa using h1
    rw [ifN h1] at lL;clear h1;go_wp2_with fail
    go_roundw
    case rel=>exact⟨k+1,by omega,by go_num,by rw [HL.o,lL.o],cE⟩
    case measure=>simp [ag];omega
   subst h1;rw [ifP rfl] at lL;have eJ:Hid (∀W,β w6 W->β w W):=η (λW hW=>aR.o.trans ((cE.o.trans (hW.mono cE.o.size)).mono aR.o.size));have wL:Hid (∀W,β w6 W->W.cell? ⟨db,0,aB⟩=aC (aH D.x.Am (aA D.x.ms) D.x.cm)/\W.cell? ⟨db,1,aB⟩=aC (aH D.x.As (aA D.x.ss) D.x.cs)/\W.cell? ⟨db,2,aB⟩=aC (aH D.x.Ac (aA D.x.cy) D.x.cc)/\W.cell? ⟨db,3,aB⟩=aC (ν D.x.line)/\W.cell? ⟨db,4,aB⟩=aC (ν D.x.bu)/\W.cell? ⟨db,5,aB⟩=aC (ν D.x.lead)/\W.cell? ⟨db,6,aB⟩=aC (ν D.x.tr)/\W.cell? ⟨db,7,aB⟩=aC (ν D.x.bY)/\W.cell? ⟨bx,2,aB⟩=aC (ν xa)):=η (λW hW=>by have c:=HC.o W (eJ.o W hW);exact⟨c.c0,c.c1,c.c2,c.c3,c.c4,c.c5,c.c6,c.c7,(fL.o W hW).2.1⟩);go_upto_region 7 with (fail)
   have bU:β w6 w6.drew:=(aX _ _).drew;have hdd:=wL.o _ bU;clear e1;go_region_held3 (λW=>W.cell? ⟨db,0,aB⟩=aC (aH D.x.Am (aA D.x.ms) D.x.cm)/\W.cell? ⟨db,1,aB⟩=aC (aH D.x.As (aA D.x.ss) D.x.cs)/\W.cell? ⟨db,2,aB⟩=aC (aH D.x.Ac (aA D.x.cy) D.x.cc)/\W.cell? ⟨db,3,aB⟩=aC (ν D.x.line)/\W.cell? ⟨db,4,aB⟩=aC (ν D.x.bu)/\W.cell? ⟨db,5,aB⟩=aC (ν D.x.lead)/\W.cell? ⟨db,6,aB⟩=aC (ν D.x.tr)/\W.cell? ⟨db,7,aB⟩=aC (ν D.x.bY)/\W.cell? ⟨bx,2,aB⟩=aC (ν xa)) (first|(with_reducible assumption)|(refine wL.o _ (qj (by with_reducible assumption) (gS (by with_reducible assumption)) _))|(refine wL.o _ (BD _ (BD _ (qj (by with_reducible assumption) (gS (by with_reducible assumption)) _) (gS (by with_reducible assumption))) (gS (by with_reducible assumption))))|(refine wL.o _ (BD _ (BD _ (by with_reducible assumption) (aZ _)) (aZ _)))) (first|(go_at_call 117;refine(oX.o _ (eJ.o _ (by with_reducible assumption)) xa OO.o).mono ?_;rintro e w7 ⟨rfl,gD⟩;have eH:β w6 w7:=jl (by with_reducible assumption) (gD.mono (gS (by with_reducible assumption)));have hcc:=wL.o _ eH;have gG:=(ez gD).1;have hbf:=(ez gD).2)|(go_at_call 117;refine(oX.o _ (eJ.o _ (qj (by with_reducible assumption) (gS (by with_reducible assumption)) _)) xa OO.o).mono ?_;rintro e w7 ⟨rfl,gD⟩;have eH:β w6 w7:=jl (qj (by with_reducible assumption) (gS (by with_reducible assumption)) _) (gD.mono (gS (qj (by with_reducible assumption) (gS (by with_reducible assumption)) _)));have hcc:=wL.o _ eH;have gG:=(ez gD).1;have hbf:=(ez gD).2))
   all_goals
    first
    |(have hbl:=qj eH eH.size (aK #[ν (dW D.x xa).a,ν (dW D.x xa).b] 69)
      have ew:=η hbl;have e3:=(fL.o _ hbl).2.2;by_cases h2:jC D.x xa=0
      ·have Fc:Hid (tO D.x xa=(dW D.x xa).a):=η (by unfold tO;rw [ifP h2]);go_wp2_with fail
       go_roundw
       case rel=>exact⟨k+1,by omega,by go_num,(by rw [HL.o,lL.o,Fc.o];try simp),η (cE.o.trans (ew.o.mono cE.o.size))⟩
       case measure=>simp [ag];omega
      have Fc:Hid (tO D.x xa=1):=η (by unfold tO;rw [ifN h2]);go_wp2_with fail
      go_roundw
      case rel=>exact⟨k+1,by omega,by go_num,(by rw [HL.o,lL.o,Fc.o];try simp),η (cE.o.trans (ew.o.mono cE.o.size))⟩
      case measure=>simp [ag];omega)
    |(have hbl:=BD (i:=1) (ν (dW D.x xa).b) (BD (b:=w6.heap.size) (i:=0) (ν (dW D.x xa).a) eH (aZ _)) (aZ _)
      have ew:=η hbl;have e3:=(fL.o _ hbl).2.2;by_cases h2:jC D.x xa=0
      ·have Fc:Hid (tO D.x xa=(dW D.x xa).a):=η (by unfold tO;rw [ifP h2]);go_wp2_with fail
       go_roundw
       case rel=>exact⟨k+1,by omega,by go_num,(by rw [HL.o,lL.o,Fc.o];try simp),η (cE.o.trans (ew.o.mono cE.o.size))⟩
       case measure=>simp [ag];omega
      have Fc:Hid (tO D.x xa=1):=η (by unfold tO;rw [ifN h2]);go_wp2_with fail
      go_roundw
      case rel=>exact⟨k+1,by omega,by go_num,(by rw [HL.o,lL.o,Fc.o];try simp),η (cE.o.trans (ew.o.mono cE.o.size))⟩
      case measure=>simp [ag];omega)
  obtain rfl:k=aA L:=by omega
  rw [cU];go_wp2_with fail
  go_ret;exact⟨cY TI.o.symm,aR.o.trans (HB.o.mono aR.o.size)⟩
def XK(E:Dk)(m:Int):Dk:= {E with h:=E.h++ [⟨m,8,m,0,min (Bv E m) (AG E m)⟩]}
def kq(E:Dk):Nat->Dk
 |0=>E
 |k+1=>XK (kq E k) ((k:Int)+1)
def qZ(D:Dk)(L:List Lg):Int:=
 if D.st≠0 then 11 else if (aA D.x.cy:Int)<=D.aj then 6 else if mP D.x L≠0 then mP D.x L else if qC (gw L) (dQ (aA D.x.ss+1)) 0≠0 then qC (gw L) (dQ (aA D.x.ss+1)) 0 else rr (D.aj+1) (gw L) D.ob
def F8(D:Dk)(L:List Lg):Dk:= {D with ob:=ng (D.aj+1) (gw L) D.ob,aj:=D.aj+1,st:=1}
def Bl(D:Dk)(L:List Lg):Dk:=jq (F8 D L) 4 (gw L)
def DZ(D:Dk)(L:List Lg):Dk:=kq (Bl D L) (aA D.x.ms)
def yV(D:Dk)(L:List Lg):Dk:=if qZ D L=0 then DZ D L else D
structure Oj(E:Dk)(m:Int):Prop where
 ok:fZ E
 mI:aL m
 aI:∀x∈E.ob,aL x.a
 up:pU E.h
 pos:Db E.h m=aA E.h
 is:vX E.h m=aP
 room:aA E.h<aA E.x.ms
 ms:aA E.x.ms<=100000
 n0:0<=min (Bv E m) (AG E m)
 NJ:plcA (aA E.x.ms) (aA E.x.ss+1) 8 m 0≠aB
 bI:aL (balA (aA E.x.ms) (aA E.x.ss+1) E.l 8 m 0-iG E.h 8 m 0)
 le:min (Bv E m) (AG E m)<=balA (aA E.x.ms) (aA E.x.ss+1) E.l 8 m 0-iG E.h 8 m 0
structure Tu(D:Dk)(L:List Lg):Prop where
 ok:fZ D
 ml:aA D.x.ms<=100000
 sl:aA D.x.ss<=100000
 cI:aL D.aj/\D.aj<=1000
 nl:aA (gw L)<=2000
 good:qZ D L=0->∀k,k<aA D.x.ms->Oj (kq (Bl D L) k) ((k:Int)+1)
theorem a5K {x:ak} {L:List Lg}(h:mP x L=0):∀y∈gw L,aL y.n:=by
 intro y hy;unfold gw lh at hy;obtain⟨q,hq,rfl⟩:=dV.1 hy;have tI:=(j6.1 hq).1;unfold mP at h;split at h
 ·cases h
 split at h
 ·rename_i h2;exact absurd h h2
 split at h
 ·cases h
 rename_i h3;by_cases hI:aL (rq L q)
 ·exact hI
 exact absurd (kK.2 ⟨q,tI,by rw [(gh hI).2];rfl⟩) h3
theorem bT.a1v {w:aJ} {db:Nat} {p:Dp} {D:Dk}(H:bT w db p D)(s:Int):cZ db p p {D with aj:=s} w (w.setCell ⟨db,12,aB⟩ (aG aF s)):=
 ⟨H.PJ 12 (ν s) rfl rfl rfl rfl rfl rfl ⟨rfl,rfl,rfl,rfl,rfl,rfl,rfl⟩ H.who H.log,rfl,rfl,rfl,rfl,(bC.refl _ _).setCell (p:=⟨db,12,aB⟩) (.inl (.inl rfl)) _,λ_ h=> .inl h⟩
theorem a1z(db:Nat)(p:Dp)(D:Dk)(L:List Lg)(A:Option ai)(c:Nat)(w:aJ)(H:bT w db p D)(hs:aW w w.heap.size A (bA L))(hI:∀y∈L,y.ok)(hl:aA L<=100000)(P:Tu D L):
 aQ aM 26 #[π db,aH A (aA L) c] w λe w'=>e=aU (ν (qZ D L))/\aq db p (yV D L) w w':=by
 have hb0:β w (w.alloc (aK #[ν 0] 3)):=(aX _ _).alloc (aZ _) _;have jI:=η (JY db p D 0 (aC ⟨w.heap.size,0,aB⟩) 1 _ (H.below hb0) (λj u hu=>⟨w.heap.size,0,rfl,by simp,by
  match j,hu with
  |0,hu=>exact(cM w #[ν 0] 3 0 rfl).trans (by simpa using hu)
  |j+1,hu=>simp at hu⟩))
 have HF:=η H;have HP:=η P;have aY:=η hb0;have HE:Hid (qZ D L=if D.st≠0 then 11 else if (aA D.x.cy:Int)<=D.aj then 6 else if mP D.x L≠0 then mP D.x L else if qC (gw L) (dQ (aA D.x.ss+1)) 0≠0 then qC (gw L) (dQ (aA D.x.ss+1)) 0 else rr (D.aj+1) (gw L) D.ob):=η rfl;have yi:Hid (∀er,qZ D L=er->er≠0->∀W,aq db p D w W->(aU (ν er)=aU (ν (qZ D L)))/\aq db p (yV D L) w W):=η (λer h hn W hW=>by
  have e1:yV D L=D:=by unfold yV;rw [ifN (by rw [h];exact hn)]
  rw [e1,h];exact⟨rfl,hW⟩)
 have Sd:Hid (qZ D L=0->∀W,aq db p (DZ D L) w W->(aU (ν 0)=aU (ν (qZ D L)))/\aq db p (yV D L) w W):=η (λh W hW=>by
  have e1:yV D L=DZ D L:=by unfold yV;rw [ifP h]
  rw [e1,h];exact⟨rfl,hW⟩)
 have th:=η (λW (hW:β w W)=>aHq D.x L A c W (H.below hW).src ((hs.below hW).mono hW.size) hI hl);have HC:=η (λW (hW:β w W)=>(H.below hW).cells);have xe:Hid (qZ D L=0->∀k,k<aA D.x.ms->Oj (kq (Bl D L) k) ((k:Int)+1)):=η P.good;have HXE:Hid ((Bl D L).x=D.x):=η rfl;have HTE:Hid (Bl D L=jq (F8 D L) 4 (gw L)):=η rfl;have qG:Hid (F8 D L= {D with ob:=ng (D.aj+1) (gw L) D.ob,aj:=D.aj+1,st:=1}):=η rfl;have FV:Hid (DZ D L=kq (Bl D L) (aA D.x.ms)):=η rfl;unfold ak.val at th;generalize qZ D L=ee at*;generalize yV D L=DW at*;go_enter func26,ntmps26
 by_cases h1:D.st=0
 case neg=>
  rw [ifP h1] at HE;rw [ifN h1] at jI;go_wp2_with (go_at_call 51;refine jI.o.mono ?_;rintro e w1 ⟨rfl,hb1⟩;have aR:=τ aY hb1)
  go_ret;exact yi.o 11 HE.o (by decide) _ (aq.bV HF.o aR.o)
 rw [ifN (by simpa using h1)] at HE;rw [ifP h1] at jI;go_upto_region 4 with (go_at_call 51;refine jI.o.mono ?_;rintro e w1 ⟨rfl,hb1⟩;have aR:=τ aY hb1)
 have c2:=(HC.o _ aR.o).c2;have c12:=(HC.o _ aR.o).c12;go_quiet (fail)
 have aV:Hid (β w (w1.drewN nq)):=η (below_drewN aR.o nq);clear aR c2 c12;generalize w1.drewN nq=w2 at*;by_cases h2:(aA D.x.cy:Int)<=D.aj
 ·have hd:decide ((aA D.x.cy:Int)<=D.aj)=aO:=decide_eq_true h2;rw [ifP h2] at HE;go_wp2_with fail
  go_ret;exact yi.o 6 HE.o (by decide) _ (aq.bV HF.o aV.o)
 rw [ifN h2] at HE;obtain⟨c0,c1,c2,c3,c4,c5,c6,c7,c8,c9,c10,c11,c12,c13,c14,c15⟩:=HC.o _ aV.o;by_cases h3:mP D.x L=0
 case neg=>
  rw [ifP h3] at HE;have hb:(mP D.x L==0)=aP:=by simpa using h3
  have iZ:=η h3;have OA:=η ((th.o _ aV.o).mono (R':=λe w'=>e=aU (bB #[aH aB 0 0,ν (mP D.x L)])/\β w2 w') (by
   rintro e w' ⟨hb3,⟨q1,_⟩|⟨q1,rfl⟩⟩
   ·exact absurd q1 h3
   exact⟨rfl,hb3⟩))
  go_wp2_with (go_at_call 52;refine OA.o.mono ?_;rintro e w3 ⟨rfl,hb3⟩;have af:=τ aV hb3)
  go_ret;exact yi.o _ HE.o iZ.o _ (aq.bV HF.o af.o)
 rw [ifN (by simpa using h3)] at HE;have O9:Hid (∀y∈gw L,aL y.n):=η (a5K h3);have OA:=η ((th.o _ aV.o).mono (R':=λe w'=>∃A c,e=aU (bB #[aH A (aA (gw L)) c,ν 0])/\w'.ownsRow w.heap.size 76 3 (aH A (aA (gw L)) c) (aA (gw L)) (bA (gw L))/\β w2 w') (by
  rintro e w' ⟨hb3,⟨q1,v,rfl,ho⟩|⟨q1,rfl⟩⟩
  ·obtain⟨A,c,rfl⟩:=bJ ho;exact⟨A,c,rfl,jT ho aV.o.size,hb3⟩
  exact absurd h3 q1))
 have r8:Hid (aA (gw L)<=100000):=η (by have:=HP.o.nl;omega);generalize hM:gw L=Nn at*;go_upto_region 9 with (go_at_call 52;refine OA.o.mono ?_;rintro e w3 ⟨A3,k3,rfl,ik,hb3⟩;have af:=τ aV hb3;have cB:=η (iE.cA HF.o ik);have mB:=η ik)
 clear OA aV c0 c1 c2 c3 c4 c5 c6 c7;have LH:=η (aEi db p D Nn A3 k3 w3 (HF.o.below af.o) cB.o.dh r8.o O9.o HP.o.sl);by_cases h4:qC Nn (dQ (aA D.x.ss+1)) 0=0
 case neg=>
  rw [ifP h4] at HE;have gZ:=η h4;have hb:(qC Nn (dQ (aA D.x.ss+1)) 0==0)=aP:=by simpa using h4
  generalize qC Nn (dQ (aA D.x.ss+1)) 0=we at*;go_wp2_with (go_at_call 53;refine LH.o.mono ?_;rintro e w4 ⟨rfl,hb4⟩;have ar:=τ af hb4)
  go_ret;exact yi.o _ HE.o gZ.o _ (aq.bV HF.o ar.o)
 rw [h4] at LH;rw [ifN (by simpa using h4)] at HE;go_upto_region 12 with (go_at_call 53;refine LH.o.mono ?_;rintro e w4 ⟨rfl,hb4⟩;have ar:=τ af hb4;have dU:=η (cB.o.below hb4))
 have MQ:D.aj<=1000/\aL D.aj:=⟨HP.o.cI.2,HP.o.cI.1⟩;have hwc:aF.wrap (D.aj+1)=D.aj+1:=vq (by unfold aL at*;omega);have Z8:Hid (Nn≠ []->aA Nn<=k3):=η (λ_=>by
  rcases mB.o.2 with⟨e,h0⟩|⟨g,cap,cur,e,_,_,hle,_⟩
  ·omega
  injection e with _ _ e3;omega)
 have Z9:Hid (aA Nn<=k3):=η (by
  by_cases h0:Nn= []
  ·rw [h0];simp
  exact Z8.o h0)
 have hrw:bA Nn≠ []\/Nn= []:=by
  cases Nn with
  |nil=>exact .inr rfl
  |cons x l=>left;simp [bA,Lg.cells]
 have ZQ:=η hrw;have ZK:Hid (∀W,β w4 W->aQ aM 54 #[π p.sb,ν (D.aj+1),aH A3 (aA Nn) k3] W λe W'=>e=aU (ν (rr (D.aj+1) Nn D.ob))/\aq db p {D with ob:=ng (D.aj+1) Nn D.ob} W W'/\W'.cell? ⟨db,9,aB⟩=aC (π p.sb)/\W'.cell? ⟨db,5+7,aB⟩=aC (ν D.aj)):=η (λW hW=>by
  have Yq:=HF.o.below (ar.o.trans (hW.mono ar.o.size));have HOW:=dU.o.below hW;refine(aI1 D.ob (D.aj+1) Nn A3 k3 p.sv p.sb 0 W Yq.sh HP.o.ok.ob HOW.dh (λhne q hq=> ?_) (bL _) r8.o Z9.o O9.o).mono ?_
  ·have hn:¬eY db p q.block:=HOW.o (ZQ.o.resolve_right hne) q hq;exact⟨λe=>hn (.inr (.inr (.inl (.inl e)))),λe=>hn (.inr (.inr (.inl (.inr e.symm))))⟩
  intro e W' h;obtain⟨q1,q2⟩:=Yq.FH h;obtain⟨p3,H3,f1,f2,f3,f4,px,hs3⟩:=q2;exact⟨q1,⟨p3,H3,f1,f2,f3,f4,px,hs3⟩,by rw [<-f2];exact H3.cells.c9,H3.cells.c12⟩)
 have J5:Hid (∀W,β w4 W->W.cell? ⟨db,9,aB⟩=aC (π p.sb)/\W.cell? ⟨db,12,aB⟩=aC (ν D.aj)):=η (λW hW=>by have c:=HC.o W (ar.o.trans (hW.mono ar.o.size));exact⟨c.c9,c.c12⟩);have bU:β w4 w4.drew:=(aX _ _).drew;have hdd:=J5.o _ bU;go_region_held3 (λW=>W.cell? ⟨db,9,aB⟩=aC (π p.sb)/\W.cell? ⟨db,12,aB⟩=aC (ν D.aj)) (first|(with_reducible assumption)) ((go_at_call 54;refine(ZK.o _ (by with_reducible assumption)).mono ?_;rintro e w5 ⟨rfl,hop,hk9,QE⟩;have Vt:=kT hk9 QE))
 have CP:Hid (aq db p {D with ob:=ng (D.aj+1) Nn D.ob} w w5):=η (aq.trans (bC.bV _ (ar.o.trans (bU.mono ar.o.size))) (λ_ h=> .inl h) ⟨rfl,rfl,rfl,rfl⟩ hop);have ZM:Hid (aq db p {D with ob:=ng (D.aj+1) Nn D.ob} w4 w5):=η (aq.trans (bC.bV _ bU) (λ_ h=> .inl h) ⟨rfl,rfl,rfl,rfl⟩ hop);clear hop Vt hk9 bU hdd ZK J5 Z8 Z9 ZQ af HC;by_cases h5:rr (D.aj+1) Nn D.ob=0
 case neg=>
  have qz:=η h5;have hb:(rr (D.aj+1) Nn D.ob==0)=aP:=by simpa using h5
  have J1:Hid (aq db p D w w5):=η (by have h:=CP.o;rw [show ng (D.aj+1) Nn D.ob=D.ob from by unfold ng;rw [ifN h5]] at h;exact h);clear h5 QE;generalize rr (D.aj+1) Nn D.ob=oe at*;go_wp2_with fail
  go_ret;exact yi.o _ HE.o qz.o _ J1.o
 rw [h5] at HE;obtain⟨p5,BX⟩:=ZM.o.q;have fK:=η (dU.o.step BX);have oU:Hid (cZ db p p5 {D with ob:=ng (D.aj+1) Nn D.ob} w w5):=η ((cZ.bV HF.o ar.o).trans BX);have f12:w5.frozen? ⟨db,12,aB⟩=aP:=by have hb:=BX.at.blk;simp [iU,hb]
 have Nv:=η (xe.o HE.o);clear BX CP ZM dU ar;rw [show (⟨db,5+7,aB⟩:ai)=⟨db,12,aB⟩ from rfl] at QE;rw [h5];clear h5;go_upto_region 16 with (fail)
 have oV:=η (oU.o.trans (oU.o.at.a1v (D.aj+1)));have lV:=η (fK.o.step (oU.o.at.a1v (D.aj+1)));clear oU fK QE f12;generalize (w5.setCell ⟨db,12,aB⟩ (ν (D.aj+1)))=w6 at*;have f13:w6.frozen? ⟨db,13,aB⟩=aP:=by have hb:=oV.o.at.blk;simp [iU,hb]
 have c13:=oV.o.at.cells.c13;go_upto_region 17 with (fail)
 have qI:Hid (cZ db p p5 (F8 D L) w (w6.setCell ⟨db,13,aB⟩ (ν 1))):=η (by rw [qG.o];exact oV.o.trans (oV.o.at.Rf 1));have pQ:=η (lV.o.step (oV.o.at.Rf 1));have HLG:Hid ((F8 D L).log.length<=90000):=η (by rw [qG.o];exact HP.o.ok.gl);have a8m:Hid (aA Nn<=2000):=η (by rw [<-hM];exact HP.o.nl);have wG:Hid (aA D.x.ms<=100000):=η HP.o.ml;clear oV lV c13 f13 qG HP hwc;generalize (w6.setCell ⟨db,13,aB⟩ (ν 1))=w7 at*;generalize F8 D L=E0 at*;generalize Bl D L=T0 at*;have pA:=a8m.o;go_upto_region 18 with (fail)
 have iP:Hid (cZ db p p5 (jq E0 4 (Nn.take 0)) w w7):=η (by
  have e:jq E0 4 (Nn.take 0)=E0:=by unfold jq;simp
  rw [e];exact qI.o)
 clear qI;go_loopw [11,75] (λ_ i wr=>∃(k:Nat) (pk:Dp),k<=aA Nn/\i=ν (k:Int)/\Hid (cZ db p pk (jq E0 4 (Nn.take k)) w wr)/\Hid (iE db pk wr A3 (bA Nn))) (λ_ i _=>aA Nn-(ag i).toNat)
 case atStart=>exact⟨0,p5,bL _,rfl,iP,pQ⟩
 case round=>
  clear iP pQ;obtain⟨k,pk,hk,rfl,HQ,HO⟩:=hrel;by_cases hlt:k<aA Nn
  ·obtain⟨bl,ol,kN,hbl,l0,l1,l2⟩:=oG HO.o.dh hlt;have hkb:(k:Int)<(aA Nn:Int):=by omega
   have Km:Hid ((jq E0 4 (Nn.take k)).log.length<=100000):=η (by unfold jq;simp only [cL,iK,ur];have:=HLG.o;omega);have HL:=η (a2Z (D:=E0) (kd:=4) hlt);subst kN;generalize jq E0 4 (Nn.take k)=E at*;generalize Nn[k]=x at*;obtain⟨xm,xa,xn⟩:=x;simp only at l0 l1 l2;have xW:Hid (β wr ((wr.alloc (aK #[ν xm,ν xa,ν xn] 76)).alloc (aK #[ν 4,ν xm,ν xa,ν xn,ν 0] 45))):=η (σ.alloc (by simp) _);have kW:=η (wx db pk E [⟨4,xm,xa,xn,0⟩] (wr.heap.size+1) 1 _ (HQ.o.at.below xW.o) (dM (wr.alloc (aK #[ν xm,ν xa,ν xn] 76)) 45 #[ν 4,ν xm,ν xa,ν xn,ν 0] (by simp)) (by simp) (by simp) (by have:=Km.o;omega));have oW:=η (HQ.o.below xW.o);have tj:=η (HO.o.below xW.o);clear HQ HO;go_wp2_with (go_at_call 55;refine kW.o.mono ?_;rintro e w8 ⟨rfl,h8⟩;obtain⟨p9,zq,Ew⟩:=oW.o.then h8;have sH:=η zq;have wJ:=η (tj.o.step Ew);clear h8 zq Ew)
   go_roundw
   case rel=>exact⟨k+1,p9,by omega,by go_num,η (by rw [HL.o];exact sH.o),wJ⟩
   case measure=>simp [ag];omega
  obtain rfl:k=aA Nn:=by omega
  rw [cU,<-HTE.o] at HQ;clear HO;have c0:=HQ.o.at.cells.c0;rw [HXE.o] at c0;have iW:=wG.o;go_upto_region 23 with (fail)
  clear c0;generalize hMM:aA D.x.ms=M at*;have nr:Hid (cZ db p pk (kq T0 0) w wr):=η HQ.o;clear HQ;go_loopw [12,13,96] (λ_ _ i wr=>∃(k:Nat) (pk:Dp),k<=M/\i=ν (k:Int)/\Hid (cZ db p pk (kq T0 k) w wr)) (λ_ _ i _=>M-(ag i).toNat)
  case atStart=>exact⟨0,pk,bL _,rfl,nr⟩
  case round=>
   clear nr;obtain⟨k,pk,hk,rfl,HQ⟩:=hrel;by_cases hlt:k<M
   ·have eV:(0:Int)<=(k:Int):=by omega
    have hkb:(k:Int)<(M:Int):=by omega
    have eF:=η (Nv.o k hlt);have cG:Hid (kq T0 (k+1)=XK (kq T0 k) ((k:Int)+1)):=η rfl;have Dz:Hid (aL ((k:Int)+1)):=η eF.o.mI;have TU:=η (aEJ db pk (kq T0 k) ((k:Int)+1) wr HQ.o.at Dz.o eF.o.ok.lI (by have:=eF.o.ok.hl;omega));have TJ:=η (λW (hW:β wr W)=>aEc db pk (kq T0 k) ((k:Int)+1) W (HQ.o.at.below hW) eF.o.ok eF.o.aI);have hp8:∀(E:Dk) (m:Int) (W:aJ) (pw:Dp),Oj E m->bT W db pw E->aQ aM 57 #[π pw.vb,ν m,bO #[ν 8,ν m,ν 0,ν (min (Bv E m) (AG E m))]] W λe W'=>e=aU (ν 0)/\aq db pw (XK E m) W W'/\W'.cell? ⟨db,8,aB⟩=aC (π pw.vb):=by intro E m W pw P H;refine(aL1 pw.vb pw.vp (aA E.x.ms) (aA E.x.ss+1) (aA E.x.ms) E.l E.h ⟨m,8,m,0,min (Bv E m) (AG E m)⟩ W H.vt P.ok.lI (by have:=P.ok.hl;omega) P.up P.pos P.is ⟨by have:=P.room;omega,by have:=P.ms;omega⟩ (by decide:aL 8) P.mI rfl P.n0 P.NJ P.bI P.le).mono ?_;intro e W' h;obtain⟨q1,q2⟩:=H.held h;obtain⟨p3,H3,f1,f2,f3,f4,px,hs3⟩:=q2;exact⟨q1,⟨p3,H3,f1,f2,f3,f4,px,hs3⟩,by rw [<-f1];exact H3.cells.c8⟩
    have CR:=η (λW (hW:β wr W)=>hp8 (kq T0 k) ((k:Int)+1) W pk eF.o (HQ.o.at.below hW));have B1:=η (λW (hW:β wr W)=>(HQ.o.at.below hW).cells.c8);rw [<-cG.o] at CR;clear hp8 eF;generalize kq T0 k=E at*;generalize MF:kq T0 (k+1)=E1 at*;have xY:=η MF;clear MF;generalize Bv E ((k:Int)+1)=un at*;generalize AG E ((k:Int)+1)=rk at*;have BU:aF.wrap ((k:Int)+1)=(k:Int)+1:=vq Dz.o;go_upto_region 26 with (go_at_call 56;refine TU.o.mono ?_;rintro e wu ⟨rfl,hbu⟩;have HBU:=η hbu;clear hbu)
    rw [<-BU] at CR TJ;clear BU;have bU:β wr wu.drew:=HBU.o.drew;have hdd:=B1.o _ bU;go_region_held3 (λW=>W.cell? ⟨db,8,aB⟩=aC (π pk.vb)) (first|(with_reducible assumption)) (first|(go_at_call 47;with_reducible refine tT (zQ (aF.wrap ((k:Int)+1)) _) ?_;rintro e wa ⟨rfl,mF⟩;have yL:β wr wa:=jl (by with_reducible assumption) (mF.mono (gS (by with_reducible assumption)));have qV:=B1.o _ yL)|(go_at_call 58;with_reducible refine tT (TJ.o _ (by with_reducible assumption)) ?_;rintro e wb ⟨rfl,js⟩;have rP:β wr wb:=jl (by with_reducible assumption) (js.mono (gS (by with_reducible assumption)));have hcb:=B1.o _ rP)|(go_at_call 57;with_reducible refine tT (CR.o _ (by with_reducible assumption)) ?_;rintro e wc ⟨rfl,hpl,hcc⟩))
    all_goals
     have J1:Hid (aq db pk E1 wr wc):=η (aq.trans (bC.bV _ (by with_reducible assumption)) (λ_ h=> .inl h) ⟨rfl,rfl,rfl,rfl⟩ hpl);obtain⟨pc,Mi,_⟩:=HQ.o.then J1.o;have TF:=η Mi;clear hpl hcc mF yL qV js rP hcb bU hdd CR B1 TJ HQ Mi J1;go_wp2_with fail
     go_roundw
     case rel=>exact⟨k+1,pc,by omega,by go_num,η (by rw [xY.o];exact TF.o)⟩
     case measure=>simp [ag];omega
   obtain rfl:k=M:=by omega
   go_wp2_with fail
   go_ret;exact Sd.o HE.o _ (by rw [FV.o];exact HQ.o.p)
theorem a4I(q:Int×Int):∀l,aA (insSd q l)<=aA l+1
 | []=>by simp [insSd]
 |p::l=>by have:=a4I q l;grind [insSd]
theorem aJm(L:List Lg):aA (fw L)<=aA L:=by
 induction L with
 |nil=>simp [fw]
 |cons x L ih=>
  grind [a4I,fw]
theorem a5L(L:List Lg):aA (gw L)<=aA L:=by grind [gw,lh,aJm]
theorem aHj {x:ak} {L:List Lg}(h:mP x L=0):∀z∈L,mN x z=0:=by grind [ER,mP]
theorem aHe {x:ak} {y:Lg}(h:mN x y=0):(1<=y.m/\y.m<=(aA x.ms:Int))/\0<=y.a/\y.a<=(aA x.ss:Int):=by
 unfold mN at h;by_cases h1:jS x y.m=0
 ·rw [ifN (by omega)] at h;refine⟨Qw h1, ?_⟩;by_cases h2:y.a=0
  ·omega
  rw [ifN h2] at h;have:=Rc h;omega
 omega
theorem YA {L:List Lg}:∀(ks:List Nat) (r:Int),qC L ks r=0->∀a∈ks,IM L (a:Int)=aP
 | [],_,_,a,ha=>by simp at ha
 |k::ks,r,h,a,ha=>by
  unfold qC at h;by_cases hb:IM L (k:Int)=aO
  ·grind
  rw [ifN hb] at h;rcases fC.1 ha with rfl|ha
  ·simpa using hb
  by_cases hs:kS L (k:Int)=mS L (k:Int)
  ·rw [ifP hs] at h;exact YA ks r h a ha
  rw [ifN hs] at h;exact YA ks 17 h a ha
structure Zt(x:ak)(N:List Lg):Prop where
 pD:∀y∈N,(1<=y.m/\y.m<=(aA x.ms:Int))/\(0<=y.a/\y.a<=(aA x.ss:Int))/\y.n≠0/\aL y.n
 vk:N.Pairwise λy z=>y.m<z.m\/(y.m=z.m/\y.a<z.a)
 sid:∀a:Int,0<=a->a<=(aA x.ss:Int)->kS N a<=kQ a/\mS N a<=kQ a
theorem aHm {x:ak}(hx:Fo x) {L:List Lg}(h:mP x L=0)(hw:qC (gw L) (dQ (aA x.ss+1)) 0=0)(hI:∀y∈L,y.ok):Zt x (gw L):=by
 have hc:=aHj h;have hq:∀q∈fw L,(1<=q.1/\q.1<=(aA x.ms:Int))/\0<=q.2/\q.2<=(aA x.ss:Int):=λq hq=>by obtain⟨z,hz,rfl⟩:=(Rb L q).1 hq;exact aHe (hc z hz)
 have jf:=hx.sl;refine⟨λy hy=> ?_, ?_,λa h0 h1=> ?_⟩
 ·have aMU:=a5K h y hy;obtain⟨q,tI,rfl⟩:=dV.1 hy;grind
 ·unfold gw lh;rw [B8];refine OW ?_ ((a6a (λy hy=>(hI y hy).a)).filter _);grind [pE]
 have:=YA _ _ hw a.toNat (by grind);grind [IM]
theorem RD(f:Ob->Int)(L R:List Ob):dT f (L++R)=dT f L+dT f R:=by grind [dT]
theorem XB {f:Ob->Int}:∀ {L:List Ob},(∀x∈L,0<=f x)->∀x∈L,f x<=dT f L
 | [],_,x,hx=>by simp at hx
 |y::L,h,x,hx=>by
  have h1:=h y (by simp);have h2:=a5d (f:=f) (L:=L) (λz hz=>h z (df _ hz));have e:dT f (y::L)=f y+dT f L:=by simp [dT]
  rw [e];rcases fC.1 hx with rfl|hx
  ·omega
  have:=XB (f:=f) (L:=L) (λz hz=>h z (df _ hz)) x hx;omega
theorem a5c(f:Ob->Int)(y:Ob)(L:List Ob):dT f (y::L)=f y+dT f L:=by simp [dT]
theorem aK3(y:Lg)(N:List Lg)(a:Int):kS (y::N) a=(if 0<y.n/\y.a=a then y.n else 0)+kS N a:=by grind [kS,kZ,lX,j7,sumI]
theorem aK2(y:Lg)(N:List Lg)(a:Int):mS (y::N) a=(if y.n<0/\y.a=a then-y.n else 0)+mS N a:=by grind [mS,kZ,j9,j7,sumI]
theorem PS(c a:Int):∀N:List Lg,dT (vB a) (N.map (ft c))=kS N a
 | []=>rfl
 |y::N=>by rw [yB,a5c,PS c a N,aK3];unfold vB ft;simp
theorem PL(c a:Int):∀N:List Lg,dT (pY a) (N.map (ft c))=mS N a
 | []=>rfl
 |y::N=>by rw [yB,a5c,PL c a N,aK2];unfold pY ft;simp
theorem aEZ(c a:Int)(N:List Lg):dT (ou a) (N.map (ft c))=0:=F9 λx hx=>by grind [ou,ft]
theorem aEV(c m a:Int)(N:List Lg):dT (o7 m a) (N.map (ft c))=0:=F9 λx hx=>by grind [o7,ft]
theorem aK1 {L:List Ob}(h:L.any eW=aP):∀x∈L,x.st≠1:=λx hx e=>by grind [xR]
theorem kY.opened {x:ak} {aj:Int} {who:List Int} {L:List Ob} {N:List Lg}(h:kY (aA x.ms) (aA x.ss) aj who L)(F:Zt x N)(hl:aA N<=120)(hs:L.any eW=aP):
 kY (aA x.ms) (aA x.ss) (aj+1) who (L++N.map (ft (aj+1))):=by
 have rT:=aK1 hs;have hnz:∀(f:Ob->Int),(∀x,x.st≠1->f x=0)->dT f L=0:=λf hf=>F9 (λx hx=>hf x (rT x hx))
 have key:∀a:Int,kS N a<=kQ a/\mS N a<=kQ a:=λa=>by
  by_cases ha:0<=a/\a<=(aA x.ss:Int)
  ·exact F.sid a ha.1 ha.2
  have hm:=yU a;have h1:kS N a=0:=by
   rw [<-PS 0];refine F9 λz hz=> ?_
   obtain⟨y,hy,rfl⟩:=dV.1 hz;have:=(F.pD y hy).2.1;grind [vB,ft]
  have h2:mS N a=0:=by
   rw [<-PL 0];refine F9 λz hz=> ?_
   obtain⟨y,hy,rfl⟩:=dV.1 hz;have:=(F.pD y hy).2.1;grind [pY,ft]
  omega
 have kh:∀y∈N,-kQ y.a<=y.n/\y.n<=kQ y.a:=λy hy=>by have hk:=key y.a;have hm:=yU y.a;have d1:=XB (f:=vB y.a) (L:=N.map (ft 0)) (λz _=>a2C _ z) (ft 0 y) (dV.2 ⟨y,hy,rfl⟩);have d2:=XB (f:=pY y.a) (L:=N.map (ft 0)) (λz _=>a1i _ z) (ft 0 y) (dV.2 ⟨y,hy,rfl⟩);grind [PS,PL,vB,ft,pY]
 refine⟨λz hz=> ?_,λz hz=> ?_, ?_,λa=> ?_,λa=> ?_, ?_⟩
 ·rcases gJ.1 hz with hz|hz
  ·have E:=h.each z hz;exact⟨E.m,E.a,E.big,by have:=E.c;omega,E.st,E.a6h,E.o,E.cmp⟩
  obtain⟨y,hy,rfl⟩:=dV.1 hz;have I:=F.pD y hy;exact⟨I.1,I.2.1,kh y hy,dH _,by show (1:Int)<=1/\(1:Int)<=5;omega,λe=>by have:(1:Int)=2:=e;omega,λe=>by have:(1:Int)=3:=e;omega,λe=>by have:(1:Int)=4\/(1:Int)=5:=e;omega⟩
 ·rcases gJ.1 hz with hz|hz
  ·exact h.ok z hz
  obtain⟨y,hy,rfl⟩:=dV.1 hz;have I:=F.pD y hy;have hb:=kh y hy;have hm:=yU y.a;refine⟨?_, ?_,I.2.2.1,dH _, ?_⟩
  ·show fj<y.n;unfold fj;omega
  ·show y.n<=_;omega
  grind [Ob.size,ft]
 ·rw [LP];refine⟨h.ord, ?_,λz hz u hu o1 o2=>absurd (xR.1 o1) (rT z hz)⟩;rw [B8];exact F.vk.imp (λ{y z} h _ _=>h)
 ·rw [RD,hnz _ (λx hx=>a1j hx),PL];grind
 ·rw [RD,hnz _ (λx hx=>a2D hx),PS];grind
 rw [cL,iK];have:=h.len;omega
theorem XY {x:ak} {m:Int}:∀(L:List Ob) (n:Int),(∀o∈L,0<=o.az*tO x o.a/\o.az*tO x o.a<=288230376151711744)->0<=n->n+(aA (L.filter λo=>o.m==m):Int)*288230376151711744<=9*288230376151711744->0<=L.foldl (NQ x m) n
 | [],n,_,h0,_=>h0
 |o::L,n,h,h0,h1=>by
  have ho:=h o (by simp);have hr:∀z∈L,0<=z.az*tO x z.a/\z.az*tO x z.a<=288230376151711744:=λz hz=>h z (df _ hz)
  rw [Ca];unfold NQ;by_cases hm:o.m=m
  ·rw [ifP hm,List.filter_cons_of_pos (by simpa using hm),uB] at*;have hle:(0:Int)<=(aA (L.filter λo=>o.m==m):Int)*288230376151711744:=by omega
   rw [wrap64_in (by unfold aL;omega:aL (o.az*tO x o.a)),wrap64_in (by unfold aL;omega)];exact XY L _ hr (by omega) (by omega)
  rw [ifN hm];rw [List.filter_cons_of_neg (by simpa using hm)] at h1;exact XY L n hr h0 h1
theorem aw.aJN {C:Int} {g:Nat} {D:Dk}(H:aw C g D)(m:Int):0<=AG D m:=by
 unfold AG FD;have jf:=H.hs.sl;refine XY _ 0 (λo ho=> ?_) (dH _) ?_
 ·unfold D3 at ho;obtain⟨h1,h2⟩:=j6.1 ho;simp only [jX,beq_iff_eq,decide_eq_true_eq] at h2;have E:=H.ob.each o h1;have hb:=E.big.2;unfold tO;by_cases hs:jC D.x o.a=0
  ·rw [ifP hs];have zj:=Rc hs;have hp:1<=(dW D.x o.a).a/\(dW D.x o.a).a<=1048576:=by
    unfold dW;rw [ifP (show tQ D.x o.a from zj)];have hl:(o.a-1).toNat<aA D.x.ss:=by omega
    rw [sQ,iA hl];exact(H.hs.sI _ (cK hl)).1
   generalize (dW D.x o.a).a=p at hp;unfold kQ at hb;rw [ifN (by omega)] at hb;refine⟨Int.mul_nonneg (by omega) (by omega), ?_⟩;have:=Int.mul_le_mul hb hp.2 (by omega) (by omega);omega
  rw [ifN hs];have:=yU o.a;omega
 have hl:aA ((D3 D).filter λo=>o.m==m)<=9:=by
  have hp:(((D3 D).filter λo=>o.m==m).map (·.a)).Pairwise (· < ·):=by rw [B8];refine OW ?_ ((H.ob.ord.filter _).filter _);intro y z hy hz Mu;obtain⟨Hu,nW⟩:=j6.1 hy;obtain⟨hz1,hz2⟩:=j6.1 hz;have vV:=(j6.1 Hu).2;have hz3:=(j6.1 hz1).2;simp only [jX,beq_iff_eq,decide_eq_true_eq] at nW hz2 vV hz3;have:=Mu (xR.2 vV.1) (xR.2 hz3.1);omega
  have:=S5 (k:=9) (lo:= -1) hp (λa ha=>by obtain⟨y,hy,rfl⟩:=dV.1 ha;have Hu:=(j6.1 (j6.1 hy).1).1;have:=(H.ob.each y Hu).a;omega)
  rwa [iK] at this
 omega
structure a9t(E V:Dk)(k:Nat):Prop where
 x:V.x=E.x
 l:V.l=E.l
 ob:V.ob=E.ob
 bx:V.bx=E.bx
 who:V.who=E.who
 aj:V.aj=E.aj
 st:V.st=E.st
 en:V.en=E.en
 log:V.log=E.log
 row:∀r∈V.h,r.s=8/\r.m=r.i/\1<=r.i/\r.i<=(k:Int)
 up:pU V.h
 len:aA V.h=k
theorem RH {E:Dk}(hh:E.h= []):∀k,a9t E (kq E k) k
 |0=>by
  refine⟨rfl,rfl,rfl,rfl,rfl,rfl,rfl,rfl,rfl, ?_, ?_, ?_⟩
  ·show∀r∈E.h,_;rw [hh];simp
  ·show pU E.h;rw [hh];exact Ti
  show aA E.h=0;rw [hh];rfl
 |k+1=>by
  have I:=RH hh k;refine⟨I.x,I.l,I.ob,I.bx,I.who,I.aj,I.st,I.en,I.log, ?_, ?_, ?_⟩
  ·intro r hr;have Eu:=hr;rcases gJ.1 Eu with h|h
   ·have:=I.row r h
    push_cast
    omega
   grind
  ·show pU ((kq E k).h++ [_]);unfold pU;rw [LP];refine⟨I.up,by simp,λr hr u hu=> ?_⟩;obtain rfl:=List.mem_singleton.1 hu;have:=I.row r hr;simp only;omega
  show aA ((kq E k).h++ [_])=k+1;rw [cL,I.len];rfl
theorem aw.a5q {C:Int} {g:Nat} {E:Dk}(H:aw C g E)(hh:E.h= []) {k:Nat}(hk:k<=aA E.x.ms):aw C g (kq E k):=by have I:=RH hh k;have iW:=H.hs.ml;refine⟨by rw [I.x];exact H.hs,by rw [I.x,I.l,I.en];exact H.bE,λr hr=>(I.row r hr).1,by rw [I.len];omega,λa=>by rw [I.log,I.x,I.l];exact H.fl a,by rw [I.x,I.log];exact H.lg,by rw [I.log];exact H.gl,by rw [I.x,I.who];exact H.who,by rw [I.x,I.aj,I.who,I.ob];exact H.ob,by rw [I.bx,I.x];exact H.bx,by rw [I.bx];exact H.bl,by rw [I.st];exact H.st,by rw [I.aj];exact H.aj⟩
theorem aFv:∀(h:List Hr) (m:Int),(∀r∈h,r.m≠m)->iG h 8 m 0=0:=by
 intro h m hh
 suffices S:∀(h:List Hr) (n:Int),(∀r∈h,r.m≠m)->h.foldl (λn r=>if r.s==8&&r.m==m&&r.a==0 then fV (n+r.n) else n) n=n from S h 0 hh
 intro h;induction h with
 |nil=>intro n _;rfl
 |cons r h ih=>
  grind
theorem aw.aIx {C:Int} {g:Nat} {E:Dk}(H:aw C g E)(hh:E.h= [])(hg:g<=90000) {k:Nat}(hk:k<aA E.x.ms):Oj (kq E k) ((k:Int)+1):=by
 have I:=RH hh k;have G:=H.a5q hh (k:=k) (by omega);have iW:=H.hs.ml;have hlt:∀r∈(kq E k).h,r.i<(k:Int)+1:=λr hr=>by have:=I.row r hr;omega
 have hhe:iG (kq E k).h 8 ((k:Int)+1) 0=0:=aFv _ _ (λr hr=>by have:=I.row r hr;omega);have h8:=G.bE.sr ((k:Int)+1) 0;have h8n:=G.bE.ok.nn (k:=8) rfl ((k:Int)+1) 0;have hpl:∃n,plcA (kq E k).x.ms.length ((kq E k).x.ss.length+1) 8 ((k:Int)+1) 0=aC n:=by rw [I.x];exact Bp (.inr (.inl rfl)) ⟨by omega,by omega⟩ (by omega) (by omega)
 obtain⟨n,hn⟩:=hpl;have hu:Bv (kq E k) ((k:Int)+1)=balA (kq E k).x.ms.length ((kq E k).x.ss.length+1) (kq E k).l 8 ((k:Int)+1) 0:=by grind [Bv,dy,aL]
 have hr:=G.aJN ((k:Int)+1);refine⟨G.ok hg,by unfold aL;omega,λx hx=> ?_,I.up, ?_, ?_,by rw [I.len,I.x];exact hk,by rw [I.x];omega,by rw [hu];omega,by rw [hn];simp,by grind [aL],by rw [hu,hhe];omega⟩
 ·have:=(G.ob.each x hx).a;have:=G.hs.sl;unfold aL;omega
 ·refine XN (aZ _) (λj hj _=>hlt _ (cK hj)) (λhj=>absurd hj (Nat.lt_irrefl _))
 grind [vX]
structure a9k(K:Int)(g:Nat)(D D':Dk):Prop where
 ie:aw (K+576460752303423488) (g+120) D'
 Pj:nk K D'
 x:D'.x=D.x
 en:D'.en=D.en
 aj:D'.aj=D.aj+1
 up:pU D'.h
 bx:D'.bx=D.bx
 st:D'.st=1
 lg:∃t,D'.log=D.log++t/\∀e∈t,e.k≠15
theorem aw.az {K:Int} {g:Nat} {D:Dk}(H:aw (K+576460752303423488) g D)(F:nk K D)(hst:D.st=0->D.h= []) {L:List Lg}(hl:aA L<=120)(hI:∀y∈L,y.ok)(hg:g+120<=90000):Tu D L/\(qZ D L=0->a9k K g D (DZ D L)):=by
 have iW:=H.hs.ml;have jf:=H.hs.sl;have hcy:=H.aj;have pA:=a5L L;have key:qZ D L=0->aw (K+576460752303423488) (g+120) (Bl D L)/\(Bl D L).h= []/\nk K (Bl D L):=λh0=>by
  unfold qZ at h0;by_cases c1:D.st≠0
  ·omega
  rw [ifN c1] at h0;by_cases c2:(aA D.x.cy:Int)<=D.aj
  ·omega
  rw [ifN c2] at h0;by_cases c3:mP D.x L≠0
  ·omega
  rw [ifN c3] at h0;by_cases c4:qC (gw L) (dQ (aA D.x.ss+1)) 0≠0
  ·omega
  rw [ifN c4] at h0;have NF:=aHm H.hs (L:=L) (by omega) (by omega) hI;have hop:D.ob.any eW=aP:=by grind [rr]
  have eO:ng (D.aj+1) (gw L) D.ob=D.ob++(gw L).map (ft (D.aj+1)):=by grind [ng]
  have hO:=H.ob.opened NF (by omega) hop;have jt:=H.hs.cl
  have G0:aw (K+576460752303423488) g (F8 D L):=
   ⟨H.hs,H.bE,H.h8,H.hl,H.fl,H.lg,H.gl,H.who,by show kY _ _ _ _ (ng _ _ _);rw [eO];exact hO,H.bx,H.bl,by show (0:Int)<=1/\(1:Int)<=2;omega,by show 0<=D.aj+1/\D.aj+1<=4;omega⟩
  have G1:=aw.Pa (kd:=4) (.inl rfl) (gw L) G0 (λy hy=>⟨(NF.pD y hy).2.1,.inr rfl⟩);refine⟨G1.wide (dH _) H.bE.big (by omega),hst (by omega), ?_⟩;have lf:∀a,dT (ou a) (ng (D.aj+1) (gw L) D.ob)=dT (ou a) D.ob:=λa=>by rw [eO,RD,aEZ];omega
  have QG:∀m a,dT (o7 m a) (ng (D.aj+1) (gw L) D.ob)=dT (o7 m a) D.ob:=λm a=>by rw [eO,RD,aEV];omega
  exact⟨λa=>(F.hd a).trans (lf a).symm,λm a=>by
   show _<=B D 7 m a+B D 8 m a+dT (o7 m a) (ng (D.aj+1) (gw L) D.ob);rw [QG];exact F.lo m a,λm a=>by
   show B D 7 m a+B D 8 m a+dT (o7 m a) (ng (D.aj+1) (gw L) D.ob)<=_;rw [QG];exact F.hi m a,F.es⟩
 refine⟨⟨H.ok (by omega),by omega,by omega,⟨by unfold aL;omega,by omega⟩,by omega,λh0 k hk=>(key h0).1.aIx (key h0).2.1 hg hk⟩,λh0=> ?_⟩;obtain⟨G,hh,FT⟩:=key h0;have I:=RH hh (aA D.x.ms);have GP:=G.a5q hh (k:=aA D.x.ms) (aZ _);refine⟨GP,⟨λa=> ?_,λm a=> ?_,λm a=> ?_,λa=> ?_⟩,I.x,I.en,I.aj,I.up,I.bx,I.st, ?_⟩
 ·unfold B;unfold DZ;rw [I.x,I.l,I.ob];exact FT.hd a
 ·unfold B;unfold DZ;rw [I.x,I.l,I.ob];exact FT.lo m a
 ·unfold B;unfold DZ;rw [I.x,I.l,I.ob];exact FT.hi m a
 ·unfold B;unfold DZ;rw [I.x,I.l];exact FT.es a
 obtain⟨t,e,ht⟩:=(a2Y (F8 D L) (kd:=4) (by decide) (gw L)).lg;exact⟨t,I.log.trans e,ht⟩
theorem aKP(l r:List Int):sumI (l++r)=sumI l+sumI r:=by
 induction l with
 |nil=>simp [sumI]
 |cons x l ih=>grind [sumI]
theorem Rl(l r:List En)(q:Int×Int×Int):fA (l++r) q=fA l q+fA r q:=by unfold fA gq;grind [aKP]
theorem Rn(fk fm tk tm n:Int)(k m a:Int):fA (gX fk fm tk tm n) (k,m,a)=(if k=fk/\m=fm/\a=0 then-n else 0)+(if k=tk/\m=tm/\a=0 then n else 0):=by have h:=Rm fk fm tk tm 0 n (k,m,a);grind [kp,gX]
def Ja(D:Dk)(k m:Int):Int:=if k=7 then-((km D (m-1).toNat).a+(km D (m-1).toNat).b) else if k=8 then (km D (m-1).toNat).a else if k=9 then (km D (m-1).toNat).b else 0
theorem a7Q(D:Dk)(k m a:Int):∀n:Nat,fA (nN D n) (k,m,a)=if a=0/\1<=m/\m<=(n:Int) then Ja D k m else 0
 |0=>by rw [ifN (by omega)];rfl
 |n+1=>by
  unfold nN;rw [Rl,Rl,a7Q D k m a n,Rn,Rn];by_cases hm:m=(n:Int)+1
  ·have hn:(m-1).toNat=n:=by omega
   grind [Ja]
  grind
structure Ni(C:Int)(g:Nat)(D D':Dk):Prop where
 ie:aw (C+1099511627776) g D'
 x:D'.x=D.x
 h:D'.h=D.h
 ob:D'.ob=D.ob
 bx:D'.bx=D.bx
 who:D'.who=D.who
 aj:D'.aj=D.aj
 st:D'.st=D.st
 en:D.en=aP/\D'.en=aO
 log:D'.log=D.log
 k1:∀a,B D' 1 0 a=B D 1 0 a
 k2:∀a,B D' 2 0 a=B D 2 0 a
 lo:∀m a,B D 7 m a+B D 8 m a-1099511627776<=B D' 7 m a+B D' 8 m a
 hi:∀m a,B D' 7 m a+B D' 8 m a<=B D 7 m a+B D 8 m a
theorem aw.Jb {C:Int} {g:Nat} {D:Dk}(H:aw C g D)(hg:g<=90000)(hC:C+1099511627776<=4611686018427387904+1125899906842624):IZ D/\(vD D=D\/Ni C g D (vD D)):=by
 have iW:=H.hs.ml;refine⟨⟨H.ok hg,by omega,λk hk=> ?_,λy hy=> ?_, ?_, ?_⟩, ?_⟩
 ·have h8:=H.bE.sr ((k:Int)+1) 0;have h8n:=H.bE.ok.nn (k:=8) rfl ((k:Int)+1) 0;unfold aL;omega
 ·have:=H.hs.mI y hy;unfold aL;omega
 ·have:=H.hs.li;unfold aL;omega
 ·have:=H.hs.ca;unfold aL;omega
 unfold vD;by_cases he:D.en=aO
 ·grind
 rw [ifN he];have MR:D.en=aP:=by simpa using he
 by_cases hb:EN D=aO
 ·grind
 rw [ifN hb];refine .inr ?_;have hF:∀v:Int,v<=(if D.en=aO then (1099511627776:Int) else 0)->v<=0:=λv hv=>by grind
 by_cases hv:lR (aA D.x.ms) (aA D.x.ss+1) D.l D.h (fT D)=0
 ·have el:eK D (fT D)=jw (aA D.x.ms) (aA D.x.ss+1) D.l (fT D):=by grind [eK]
  obtain⟨hc,_⟩:=Y8 hv;have dR:nE (aA D.x.ms) (aA D.x.ss+1) (eK D (fT D)):=by rw [el];exact nE.post H.bE.ok (by have:=H.hs.sl;omega) hv
  have hd:∀k m a,balA (aA D.x.ms) (aA D.x.ss+1) (eK D (fT D)) k m a=balA (aA D.x.ms) (aA D.x.ss+1) D.l k m a+((if a=0/\1<=m/\m<=(aA D.x.ms:Int) then Ja D k m else 0)+((if k=5/\m=0/\a=0 then-D.x.line else 0)+(if k=3/\m=0/\a=0 then D.x.line else 0))+((if k=6/\m=0/\a=0 then-D.x.bu else 0)+(if k=4/\m=0/\a=0 then D.x.bu else 0))):=λk m a=>by rw [el,a5u H.bE.ok.len hc];unfold fT;rw [Rl,Rl,a7Q,Rn,Rn]
  have QH:∀m:Int,1<=m->m<=(aA D.x.ms:Int)->(0<=(km D (m-1).toNat).a/\(km D (m-1).toNat).a<=1099511627776-balA (aA D.x.ms) (aA D.x.ss+1) D.l 8 m 0)/\0<=(km D (m-1).toNat).b/\(km D (m-1).toNat).b<=1099511627776:=λm h1 h2=>by
   have hl:(m-1).toNat<aA D.x.ms:=by omega
   have hi:(km D (m-1).toNat)=D.x.ms[(m-1).toNat]:=by unfold km;rw [sQ,iA hl,Og]
   have hI:=H.hs.mI _ (cK hl);have hb':D7 D (m-1).toNat=aP:=by grind [EN]
   grind [D7]
  have e8:∀m a,balA (aA D.x.ms) (aA D.x.ss+1) (eK D (fT D)) 8 m a=balA (aA D.x.ms) (aA D.x.ss+1) D.l 8 m a+(if a=0/\1<=m/\m<=(aA D.x.ms:Int) then (km D (m-1).toNat).a else 0):=λm a=>by rw [hd];simp [Ja]
  have e9:∀m a,balA (aA D.x.ms) (aA D.x.ss+1) (eK D (fT D)) 9 m a=balA (aA D.x.ms) (aA D.x.ss+1) D.l 9 m a+(if a=0/\1<=m/\m<=(aA D.x.ms:Int) then (km D (m-1).toNat).b else 0):=λm a=>by rw [hd];simp [Ja]
  have e7:∀m a,balA (aA D.x.ms) (aA D.x.ss+1) (eK D (fT D)) 7 m a=balA (aA D.x.ms) (aA D.x.ss+1) D.l 7 m a+(if a=0/\1<=m/\m<=(aA D.x.ms:Int) then-((km D (m-1).toNat).a+(km D (m-1).toNat).b) else 0):=λm a=>by rw [hd];simp [Ja]
  have e3:∀a,balA (aA D.x.ms) (aA D.x.ss+1) (eK D (fT D)) 3 0 a=balA (aA D.x.ms) (aA D.x.ss+1) D.l 3 0 a+(if a=0 then D.x.line else 0):=λa=>by rw [hd];simp
  have e4:∀a,balA (aA D.x.ms) (aA D.x.ss+1) (eK D (fT D)) 4 0 a=balA (aA D.x.ms) (aA D.x.ss+1) D.l 4 0 a+(if a=0 then D.x.bu else 0):=λa=>by rw [hd];simp
  have e1:∀a,balA (aA D.x.ms) (aA D.x.ss+1) (eK D (fT D)) 1 0 a=balA (aA D.x.ms) (aA D.x.ss+1) D.l 1 0 a:=λa=>by rw [hd];simp
  have e2:∀a,balA (aA D.x.ms) (aA D.x.ss+1) (eK D (fT D)) 2 0 a=balA (aA D.x.ms) (aA D.x.ss+1) D.l 2 0 a:=λa=>by rw [hd];simp
  have lo:∀m a,balA (aA D.x.ms) (aA D.x.ss+1) D.l 7 m a+balA (aA D.x.ms) (aA D.x.ss+1) D.l 8 m a-1099511627776<=balA (aA D.x.ms) (aA D.x.ss+1) (eK D (fT D)) 7 m a+balA (aA D.x.ms) (aA D.x.ss+1) (eK D (fT D)) 8 m a:=λm a=>by
   rw [e7,e8];by_cases c:a=0/\1<=m/\m<=(aA D.x.ms:Int)
   ·grind
   omega
  have hi:∀m a,balA (aA D.x.ms) (aA D.x.ss+1) (eK D (fT D)) 7 m a+balA (aA D.x.ms) (aA D.x.ss+1) (eK D (fT D)) 8 m a<=balA (aA D.x.ms) (aA D.x.ss+1) D.l 7 m a+balA (aA D.x.ms) (aA D.x.ss+1) D.l 8 m a:=λm a=>by
   rw [e7,e8];by_cases c:a=0/\1<=m/\m<=(aA D.x.ms:Int)
   ·grind
   omega
  refine⟨⟨H.hs,⟨dR,λm a=> ?_,λm a=> ?_,λa=> ?_,λa=> ?_,λm a=> ?_,λm a=> ?_,λa=> ?_,hC,by omega⟩,H.h8,H.hl,λa=>(H.fl a).trans (e1 a).symm,H.lg,H.gl,H.who,H.ob,H.bx,H.bl,H.st,H.aj⟩,rfl,rfl,rfl,rfl,rfl,rfl,rfl,⟨MR,rfl⟩,rfl,e1,e2,lo,hi⟩
  ·refine jm (rD (e8 m a)) ?_;have:=H.bE.sr m a;by_cases c:a=0/\1<=m/\m<=(aA D.x.ms:Int)
   ·grind
   rw [ifN c];omega
  ·refine jm (rD (e9 m a)) ?_;have:=hF _ (H.bE.zY m a);show _<=(1099511627776:Int);by_cases c:a=0/\1<=m/\m<=(aA D.x.ms:Int)
   ·grind
   rw [ifN c];omega
  ·refine jm (rD (e3 a)) ?_;have:=hF _ (H.bE.zx a);have:=H.hs.li;show _<=(1099511627776:Int);split<;>omega
  ·refine jm (rD (e4 a)) ?_;have:=hF _ (H.bE.cap a);have:=H.hs.ca;show _<=(1099511627776:Int);split<;>omega
  ·have h1:=H.bE.lo m a;have h2:=lo m a;have h3:=e1 a;show _<=balA (aA D.x.ms) (aA D.x.ss+1) (eK D (fT D)) 7 m a+balA (aA D.x.ms) (aA D.x.ss+1) (eK D (fT D)) 8 m a-balA (aA D.x.ms) (aA D.x.ss+1) (eK D (fT D)) 1 0 a;omega
  ·have h1:=H.bE.hi m a;have h2:=hi m a;have h3:=e1 a;show balA (aA D.x.ms) (aA D.x.ss+1) (eK D (fT D)) 7 m a+balA (aA D.x.ms) (aA D.x.ss+1) (eK D (fT D)) 8 m a+balA (aA D.x.ms) (aA D.x.ss+1) (eK D (fT D)) 1 0 a<=_;omega
  have h1:=H.bE.es a;have h2:=e2 a;have h3:=e1 a;show balA (aA D.x.ms) (aA D.x.ss+1) (eK D (fT D)) 2 0 a+balA (aA D.x.ms) (aA D.x.ss+1) (eK D (fT D)) 1 0 a<=_;omega
 have el:eK D (fT D)=D.l:=by grind [eK]
 have eD:Lv D= {D with en:=aO}:=by unfold Lv;rw [el]
 rw [eD];have h8:=H.bE;refine⟨⟨H.hs,⟨h8.ok,h8.sr,λm a=> ?_,λa=> ?_,λa=> ?_,λm a=> ?_,λm a=> ?_,λa=> ?_,hC,by omega⟩,H.h8,H.hl,H.fl,H.lg,H.gl,H.who,H.ob,H.bx,H.bl,H.st,H.aj⟩,rfl,rfl,rfl,rfl,rfl,rfl,rfl,⟨MR,rfl⟩,rfl,λ_=>rfl,λ_=>rfl,λm a=> ?_,λm a=>dH _⟩
 ·have:=hF _ (h8.zY m a);show _<=(1099511627776:Int);exact jm this (by decide)
 ·have:=hF _ (h8.zx a);show _<=(1099511627776:Int);exact jm this (by decide)
 ·have:=hF _ (h8.cap a);show _<=(1099511627776:Int);exact jm this (by decide)
 ·have:=h8.lo m a;show-(C+1099511627776)<=balA (aA D.x.ms) (aA D.x.ss+1) D.l 7 m a+balA (aA D.x.ms) (aA D.x.ss+1) D.l 8 m a-balA (aA D.x.ms) (aA D.x.ss+1) D.l 1 0 a;omega
 ·have:=h8.hi m a;show balA (aA D.x.ms) (aA D.x.ss+1) D.l 7 m a+balA (aA D.x.ms) (aA D.x.ss+1) D.l 8 m a+balA (aA D.x.ms) (aA D.x.ss+1) D.l 1 0 a<=_;omega
 ·have:=h8.es a;show balA (aA D.x.ms) (aA D.x.ss+1) D.l 2 0 a+balA (aA D.x.ms) (aA D.x.ss+1) D.l 1 0 a<=_;omega
 grind
def Bk(x:ak):Dk:=⟨x,gN ((aA x.ss+1)*(6+3*aA x.ms)) 0,[],[],[],[],0,0,aP,[]⟩
def a8R(x:ak)(w:aJ)(e:di)(w':aJ):Prop:=∃db p Am cm As cs Ac cc,e=aU (bB #[bH (aC ⟨db,0,aB⟩),aG aF 0])/\bT w' db p (Bk {x with Am:=Am,cm:=cm,As:=As,cs:=cs,Ac:=Ac,cc:=cc})/\(∀k,eY db p k->w.heap.size<=k)/\aa w.heap.size w w'
theorem fX.made(w:aJ):fX (w.alloc (aK #[aH aB 0 0] 146)) w.heap.size 0 (aH aB 0 0) []:=⟨cT w _,gC _ _ _ _⟩
theorem a1o(x:ak)(w:aJ)(h:uZ w x)(hk:zT x=0)(hm:aA x.ms<=16)(hs:aA x.ss<=8)(hc:aA x.cy<=100):
 aQ aM 10 #[x.val] w (a8R x w):=by
 have aY:Hid (β w (w.alloc (aK #[aH x.Am (aA x.ms) x.cm,aH x.As (aA x.ss) x.cs,aH x.Ac (aA x.cy) x.cc,ν x.line,ν x.bu,ν x.lead,ν x.tr,ν x.bY] 26))):=η σ;have dC:Hid ((w.alloc (aK #[aH x.Am (aA x.ms) x.cm,aH x.As (aA x.ss) x.cs,aH x.Ac (aA x.cy) x.cc,ν x.line,ν x.bu,ν x.lead,ν x.tr,ν x.bY] 26)).heap[w.heap.size]? =aC (aK #[aH x.Am (aA x.ms) x.cm,aH x.As (aA x.ss) x.cs,aH x.Ac (aA x.cy) x.cc,ν x.line,ν x.bu,ν x.lead,ν x.tr,ν x.bY] 26 (0,0))):=η (cT w _);have hz0:w.heap.size<(w.alloc (aK #[aH x.Am (aA x.ms) x.cm,aH x.As (aA x.ss) x.cs,aH x.Ac (aA x.cy) x.cc,ν x.line,ν x.bu,ν x.lead,ν x.tr,ν x.bY] 26)).heap.size:=by simp
 have bP:=η (λW (hW:β w W)=>(aLZ x W (h.below hW) (by omega) (by omega) (by omega)).mono (R':=λe w'=>∃nb Am cm As cs Ac cc,e=aU (bB #[π nb,ν 0])/\jY w' nb ({x with Am:=Am,cm:=cm,As:=As,cs:=cs,Ac:=Ac,cc:=cc}:ak) (aH aB 0 0) []/\vw w' W.heap.size ({x with Am:=Am,cm:=cm,As:=As,cs:=cs,Ac:=Ac,cc:=cc}:ak)/\W.heap.size<=nb/\β W w') (by
  rintro e w' ⟨hb,⟨q1,_⟩|⟨_,nb,Am,cm,As,cs,Ac,cc,q2,q3,q4,q5⟩⟩
  ·exact absurd hk q1
  exact⟨nb,Am,cm,As,cs,Ac,cc,q2,q3,q4,q5,hb⟩))
 have J0:=η (λW=>aL0 (aA x.ms) (aA x.ss+1) (aA x.ms) hm (by omega) (by omega) W);have AY:=η (λW (hW:β w W)=>a1q x W (h.below hW) (by omega) (by omega) (by omega));have HNS:=η (λW=>aHz W);clear h hk;unfold ak.val at bP AY ⊢;go_enter func10,ntmps10
 go_upto_region 1 with (fail)
 generalize w.alloc (aK #[aH x.Am (aA x.ms) x.cm,aH x.As (aA x.ss) x.cs,aH x.Ac (aA x.cy) x.cc,ν x.line,ν x.bu,ν x.lead,ν x.tr,ν x.bY] 26)=w0 at*;obtain⟨bx,bQ⟩:∃bx,bx=w.heap.size:=⟨_,rfl⟩;rw [<-bQ] at dC hz0 ⊢;clear bQ;have fL:Hid (∀W,β w0 W->W.cell? ⟨bx,0,aB⟩=aC (aH x.Am (aA x.ms) x.cm)/\W.cell? ⟨bx,1,aB⟩=aC (aH x.As (aA x.ss) x.cs)/\W.cell? ⟨bx,2,aB⟩=aC (aH x.Ac (aA x.cy) x.cc)/\W.cell? ⟨bx,3,aB⟩=aC (ν x.line)/\W.cell? ⟨bx,4,aB⟩=aC (ν x.bu)/\W.cell? ⟨bx,5,aB⟩=aC (ν x.lead)/\W.cell? ⟨bx,6,aB⟩=aC (ν x.tr)/\W.cell? ⟨bx,7,aB⟩=aC (ν x.bY)):=η (λW hW=>by have hd:=(hW.block bx hz0).trans dC.o;exact⟨ρ hd,ρ hd,ρ hd,ρ hd,ρ hd,ρ hd,ρ hd,ρ hd⟩);have eJ:Hid (∀W,β w0 W->β w W):=η (λW hW=>aY.o.trans (hW.mono aY.o.size));obtain⟨d0,d1,d2,d3,d4,d5,d6,d7⟩:=fL.o w0 (aX _ _);go_upto_region 2 with (go_at_call 30;refine(bP.o _ aY.o).mono ?_;rintro e w1 ⟨nb,Am1,cm1,As1,cs1,Ac1,cc1,rfl,hx1,hc1,ju,hb1⟩;have Nl:Hid (β w0 w1):=η hb1;have qL:=η hx1;have wB:=η hc1;have ui:Hid (w.heap.size<=nb):=η (cC aY.o.size ju);clear hx1 hc1 ju hb1)
 clear bP d0 d1 d2 d3 d4 d5 d6 d7 dC;obtain⟨d0,d1,d2,d3,d4,d5,d6,d7⟩:=fL.o w1 Nl.o;have xy:=η (J0.o w1);rw [show (((aA x.ss+1:Nat)):Int)=(aA x.ss:Int)+1 from by omega] at xy;go_upto_region 5 with (go_at_call 31;refine xy.o.mono ?_;rintro e w2 ⟨vb,vp,rfl,hv2,hs2,hb2⟩;have tW:Hid (β w0 w2):=τ Nl hb2;have kJ:=η (qL.o.below hb2);have kE:=η (wB.o.below hb2);have TW:=η hv2;have cP:Hid (∀k,rG vb vp k->w.heap.size<=k):=η (λk hk=>cC (eJ.o _ Nl.o).size (hs2 k hk));clear hv2 hs2 hb2)
 clear J0 xy Nl qL wB d0 d1 d2 d3 d4 d5 d6 d7;obtain⟨d0,d1,d2,d3,d4,d5,d6,d7⟩:=fL.o w2 tW.o;go_wp2_with (first|(go_at_call 32;refine(AY.o _ (eJ.o _ tW.o)).mono ?_;rintro e w3 ⟨Am,cm,As,cs,Ac,cc,rfl,hc3,hb3⟩;have Ic:Hid (β w0 w3):=τ tW hb3;have nu:=η (kJ.o.below hb3);have Ig:=η (kE.o.below hb3);have TY:=η (TW.o.below hb3);have Kh:=η hc3;(try unfold ak.val);(try simp only);clear hc3 hb3)|(go_at_call 33;refine(HNS.o _).mono ?_;rintro e w4 ⟨rfl,rfl⟩))
 go_ret2;have hA:β w3 (w3.alloc (aK #[aH aB 0 0] 146)):=(aX _ _).alloc (aZ _) _;have hB:∀o,β w3 ((w3.alloc (aK #[aH aB 0 0] 146)).alloc o):=λo=>hA.alloc (by simp) _
 have hS:∀o,aa (w3.alloc (aK #[aH aB 0 0] 146)).heap.size (w3.alloc (aK #[aH aB 0 0] 146)) ((w3.alloc (aK #[aH aB 0 0] 146)).alloc o):=λo=>(aX _ _).alloc (aZ _) _
 have hw3:w.heap.size<=w3.heap.size:=(eJ.o _ Ic.o).size;refine⟨w3.heap.size+1,⟨vb,vp,w3.heap.size,aH aB 0 0,nb,_,aH aB 0 0,aH aB 0 0,aH aB 0 0⟩,Am,cm,As,cs,Ac,cc,rfl,⟨MS _ _ (by simp),⟨jT (iI Kh.o.m (hB _)) (bL _),jT (iI Kh.o.s (hB _)) (bL _),jT (iI Kh.o.c (hB _)) (bL _)⟩,TY.o.below (hB _),(fX.made w3).below (hS _),nu.o.below (hB _),⟨jT (iI Ig.o.m (hB _)) (bL _),jT (iI Ig.o.s (hB _)) (bL _),jT (iI Ig.o.c (hB _)) (bL _)⟩,⟨rfl,rfl,rfl,rfl⟩,gC _ _ _ _,gC _ _ _ _⟩, ?_,(eJ.o _ Ic.o).trans ((hB _).mono hw3)⟩;rintro k (e|e|(e|e)|(e|e)|e|e)
 ·subst e;omega
 ·exact cP.o k e
 ·have e':k=w3.heap.size:=e;omega
 ·simp [dx] at e
 ·have e':k=nb:=e;have:=ui.o;omega
 ·simp [dx] at e
 ·simp [dx] at e
 simp [dx] at e
def a9s(w:aJ)(e:di)(w':aJ):Prop:=∃(Am:Option ai) (cm:Nat) (As:Option ai) (cs:Nat) (Ac:Option ai) (cc:Nat),
 e=aU (ak.val ⟨[⟨1000,100⟩,⟨1000,100⟩,⟨1000,100⟩],Am,cm,[⟨10,12⟩],As,cs,[⟨4,7,9,10⟩],Ac,cc,500,200,1,64,32⟩)/\uZ w' ⟨[⟨1000,100⟩,⟨1000,100⟩,⟨1000,100⟩],Am,cm,[⟨10,12⟩],As,cs,[⟨4,7,9,10⟩],Ac,cc,500,200,1,64,32⟩/\β w w'
theorem aIq(w:aJ):aQ aM 24 #[aG aF 3,aG aF 1,aG aF 1] w (a9s w):=by
 obtain⟨i0,bj,hz0,fh,hz2⟩:=dK aHF;obtain⟨j0,zk,K3,aGS,nW⟩:=dK aJk;obtain⟨k0,eV,hx0,aGR,hx2⟩:=dK aCr;have HST:=η (aIp w);go_enter func24,ntmps24
 go_wp2_with fail
 refine(X5 _ _ _ _ (by omega) (by omega)).mono ?_;rintro e w1 ⟨rfl,rfl⟩;go_wp2_with fail
 go_loopw [12] (λi wr=>∃k:Nat,k<=3/\i=aG aF k/\Hid (∃v,iT w wr v (aH aB 0 0) (aH aB 0 0) (gN k ⟨1000,100⟩) [] [])) (λi _=>3-(ag i).toNat)
 case atStart=>exact⟨0,bL _,rfl,⟨_,HST.o⟩⟩
 case round=>
  obtain⟨k,hk,rfl,HP⟩:=hrel;obtain⟨v,hp⟩:=HP.o;have HQ:=η hp;have q0:wr.cell? ⟨w.heap.size+1,0,aB⟩=aC v:=hp.c 0;have ql:=hp.lt;by_cases hlt:k<3
  ·go_wp2_with (at_builtin;refine iw _ rfl _ _ 22 rfl (w.heap.size+2) 67 i0 _ 2 16 underlying22 bj hz0 fh hz2 rfl (by decide) _ (aA (gN k (⟨1000,100⟩:Pr))) (jU (gN k ⟨1000,100⟩)) rfl (HQ.o.o0.alloc _) ⟨wr.heap.size,0,aB⟩ 1 1 [aG aF 1000,aG aF 100] rfl rfl (dM _ _ #[_,_] (by simp)) a7f (by simp only [bK,Cb];omega) (by simp only [Cb];omega) (by simp;omega) ?_)
   intro v' w4 hown1 dE _;obtain⟨A',c',rfl⟩:=bJ hown1;obtain⟨r0,r1,r2⟩:=HQ.o.m0 dE;have HN:=η (HQ.o.m (y:=⟨1000,100⟩) (by rw [Cb];exact hown1) dE);rw [<-a6I] at HN;clear hown1 dE q0 ql;go_wp2_with fail
   go_roundw
   case rel=>exact⟨k+1,by omega,by go_num,⟨_,HN.o⟩⟩
   case measure=>simp [ag];omega
  obtain rfl:k=3:=by omega
  clear q0 ql;obtain⟨wo,rfl⟩:∃wo:aJ,wo=wr:=⟨_,rfl⟩;have Az:Hid (iT w wo v (aH aB 0 0) (aH aB 0 0) [⟨1000,100⟩,⟨1000,100⟩,⟨1000,100⟩] [] []):=HQ.o;go_wp2_with fail
  refine(X5 _ _ _ _ (by omega) (by omega)).mono ?_;rintro e w1 ⟨rfl,rfl⟩;go_wp2_with fail
  go_loopw [23] (λi wr=>∃k:Nat,k<=1/\i=aG aF k/\Hid (∃v1,iT w wr v v1 (aH aB 0 0) [⟨1000,100⟩,⟨1000,100⟩,⟨1000,100⟩] (gN k ⟨10,12⟩) [])) (λi _=>1-(ag i).toNat)
  case atStart=>exact⟨0,bL _,rfl,⟨_,Az.o⟩⟩
  case round=>
   obtain⟨k,hk,rfl,HP⟩:=hrel;obtain⟨v1,hp⟩:=HP.o;have HQ:=η hp;have q0:wr.cell? ⟨w.heap.size+1,1,aB⟩=aC v1:=hp.c 1;have ql:=hp.lt;by_cases hlt:k<1
   ·go_wp2_with (at_builtin;refine iw _ rfl _ _ 23 rfl (w.heap.size+2) 69 j0 _ 2 16 underlying23 zk K3 aGS nW rfl (by decide) _ (aA (gN k (⟨10,12⟩:Pr))) (jU (gN k ⟨10,12⟩)) rfl (HQ.o.o1.alloc _) ⟨wr.heap.size,0,aB⟩ 1 1 [aG aF 10,aG aF 12] rfl rfl (dM _ _ #[_,_] (by simp)) a7f (by simp only [bK,Cb];omega) (by simp only [Cb];omega) (by simp;omega) ?_)
    intro v' w4 hown1 dE _;obtain⟨A',c',rfl⟩:=bJ hown1;obtain⟨r0,r1,r2⟩:=HQ.o.s0 dE;have HN:=η (HQ.o.s (y:=⟨10,12⟩) (by rw [Cb];exact hown1) dE);rw [<-a6I] at HN;clear hown1 dE q0 ql;go_wp2_with fail
    go_roundw
    case rel=>exact⟨k+1,by omega,by go_num,⟨_,HN.o⟩⟩
    case measure=>simp [ag];omega
   obtain rfl:k=1:=by omega
   clear q0 ql;obtain⟨wp,rfl⟩:∃wp:aJ,wp=wr:=⟨_,rfl⟩;have kG:Hid (iT w wp v v1 (aH aB 0 0) [⟨1000,100⟩,⟨1000,100⟩,⟨1000,100⟩] [⟨10,12⟩] []):=HQ.o;go_wp2_with fail
   refine(X5 _ _ _ _ (by omega) (by omega)).mono ?_;rintro e w1 ⟨rfl,rfl⟩;go_wp2_with fail
   go_loopw [8,34] (λ_ i wr=>∃k:Nat,k<=1/\i=aG aF k/\Hid (∃v2,iT w wr v v1 v2 [⟨1000,100⟩,⟨1000,100⟩,⟨1000,100⟩] [⟨10,12⟩] (gN k ⟨4,7,9,10⟩))) (λ_ i _=>1-(ag i).toNat)
   case atStart=>exact⟨0,bL _,rfl,⟨_,kG.o⟩⟩
   case round=>
    obtain⟨k,hk,rfl,HP⟩:=hrel;obtain⟨v2,hp⟩:=HP.o;by_cases hlt:k<1
    ·obtain rfl:k=0:=by omega
     have HQ:=η hp;have q0:wr.cell? ⟨w.heap.size+1,2,aB⟩=aC v2:=hp.c 2;have ql:=hp.lt;go_wp2_with (at_builtin;refine iw _ rfl _ _ 24 rfl (w.heap.size+2) 71 k0 _ 4 32 underlying24 eV hx0 aGR hx2 rfl (by decide) _ 0 [] rfl (HQ.o.o2.alloc _) ⟨wr.heap.size,0,aB⟩ 1 1 [aG aF 4,aG aF 7,aG aF 9,aG aF 10] rfl rfl (dM _ _ #[_,_,_,_] (by simp)) a2m (by simp only [bK];omega) (by omega) (by simp;omega) ?_)
     intro v' w4 hown1 dE _;obtain⟨A',c',rfl⟩:=bJ hown1;obtain⟨r0,r1,r2⟩:=HQ.o.y0 dE;have HN:=η (HQ.o.y (y:=⟨4,7,9,10⟩) hown1 dE);clear hown1 dE q0 ql;go_wp2_with fail
     go_roundw
     case rel=>exact⟨1,by omega,by go_num,⟨_,HN.o⟩⟩
     case measure=>simp [ag]
    obtain rfl:k=1:=by omega
    have HQ:Hid (iT w wr v v1 v2 [⟨1000,100⟩,⟨1000,100⟩,⟨1000,100⟩] [⟨10,12⟩] [⟨4,7,9,10⟩]):=hp;obtain⟨A0,n0,rfl⟩:=bJ HQ.o.o0;obtain⟨A1,n1,rfl⟩:=bJ HQ.o.o1;obtain⟨A2,n2,rfl⟩:=bJ HQ.o.o2;have q0:wr.cell? ⟨w.heap.size+1,0,aB⟩=aC (aH A0 3 n0):=HQ.o.c 0;have q1:wr.cell? ⟨w.heap.size+1,1,aB⟩=aC (aH A1 1 n1):=HQ.o.c 1;have q2:wr.cell? ⟨w.heap.size+1,2,aB⟩=aC (aH A2 1 n2):=HQ.o.c 2;have q3:wr.cell? ⟨w.heap.size+1,3,aB⟩=aC (aG aF 500):=HQ.o.c 3;have q4:wr.cell? ⟨w.heap.size+1,4,aB⟩=aC (aG aF 200):=HQ.o.c 4;have q5:wr.cell? ⟨w.heap.size+1,5,aB⟩=aC (aG aF 1):=HQ.o.c 5;have q6:wr.cell? ⟨w.heap.size+1,6,aB⟩=aC (aG aF 64):=HQ.o.c 6;have q7:wr.cell? ⟨w.heap.size+1,7,aB⟩=aC (aG aF 32):=HQ.o.c 7;have r0:wr.cell? ⟨w.heap.size,0,aB⟩=aC (aH aB 0 0):=HQ.o.r 0;have r1:wr.cell? ⟨w.heap.size,1,aB⟩=aC (aH aB 0 0):=HQ.o.r 1;have r2:wr.cell? ⟨w.heap.size,2,aB⟩=aC (aH aB 0 0):=HQ.o.r 2;have r3:wr.cell? ⟨w.heap.size,3,aB⟩=aC (aG aF 0):=HQ.o.r 3;have r4:wr.cell? ⟨w.heap.size,4,aB⟩=aC (aG aF 0):=HQ.o.r 4;have r5:wr.cell? ⟨w.heap.size,5,aB⟩=aC (aG aF 0):=HQ.o.r 5;have r6:wr.cell? ⟨w.heap.size,6,aB⟩=aC (aG aF 0):=HQ.o.r 6;have r7:wr.cell? ⟨w.heap.size,7,aB⟩=aC (aG aF 0):=HQ.o.r 7;have g0:=HQ.o.rf;go_wp2_with fail
    obtain⟨hR,p0,p1,p2,yM⟩:=((((((((HQ.o.two).set 0 (aH A0 3 n0)).set 1 (aH A1 1 n1)).set 2 (aH A2 1 n2)).set 3 (aG aF 500)).set 4 (aG aF 200)).set 5 (aG aF 1)).set 6 (aG aF 64)).set 7 (aG aF 32);rw [aJu] at hR;have E6:=η hR;have wC:=η p0;have xY:=η p1;have mV:=η p2;have vz:=η yM;clear hR p0 p1 p2 yM q0 q1 q2 q3 q4 q5 q6 q7 r0 r1 r2 r3 r4 r5 r6 r7 g0 HQ;generalize (((((((wr.setCell ⟨w.heap.size,0,aB⟩ (aH A0 3 n0)).setCell ⟨w.heap.size,1,aB⟩ (aH A1 1 n1)).setCell ⟨w.heap.size,2,aB⟩ (aH A2 1 n2)).setCell ⟨w.heap.size,3,aB⟩ (aG aF 500)).setCell ⟨w.heap.size,4,aB⟩ (aG aF 200)).setCell ⟨w.heap.size,5,aB⟩ (aG aF 1)).setCell ⟨w.heap.size,6,aB⟩ (aG aF 64)).setCell ⟨w.heap.size,7,aB⟩ (aG aF 32)=W8 at*;have r0:W8.cell? ⟨w.heap.size,0,aB⟩=aC (aH A0 3 n0):=(ρ E6.o).trans rfl;have r1:W8.cell? ⟨w.heap.size,1,aB⟩=aC (aH A1 1 n1):=(ρ E6.o).trans rfl;have r2:W8.cell? ⟨w.heap.size,2,aB⟩=aC (aH A2 1 n2):=(ρ E6.o).trans rfl;have r3:W8.cell? ⟨w.heap.size,3,aB⟩=aC (aG aF 500):=(ρ E6.o).trans rfl;have r4:W8.cell? ⟨w.heap.size,4,aB⟩=aC (aG aF 200):=(ρ E6.o).trans rfl;have r5:W8.cell? ⟨w.heap.size,5,aB⟩=aC (aG aF 1):=(ρ E6.o).trans rfl;have r6:W8.cell? ⟨w.heap.size,6,aB⟩=aC (aG aF 64):=(ρ E6.o).trans rfl;have r7:W8.cell? ⟨w.heap.size,7,aB⟩=aC (aG aF 32):=(ρ E6.o).trans rfl;exact bodyPost_ret (v:=bO #[aH A0 3 n0,aH A1 1 n1,aH A2 1 n2,aG aF 500,aG aF 200,aG aF 1,aG aF 64,aG aF 32]) (by simp [results,results24,go_sem,r0,r1,r2,r3,r4,r5,r6,r7]) rfl ⟨A0,n0,A1,n1,A2,n2,rfl,⟨⟨aW.cA wC.o,aW.cA xY.o,aW.cA mV.o⟩,λe=>by have:=AE wC.o e;omega,λe=>by have:=AE xY.o e;omega,λe=>by have:=AE mV.o e;omega⟩,vz.o⟩
section
open Go.Lib
def Gc:Nat->Nat->List Nat
 |0,_=> []
 |n+1,v=>v % 65536::Gc n (v/65536)
def val:List Nat->Nat
 | []=>0
 |x::xs=>x+65536*val xs
theorem a2I:∀(ns:List Nat),(∀x∈ns,x<65536)->ns=Gc (aA ns) (val ns)
 | [],_=>rfl
 |x::xs,h=>by
  have h1:=h x (by simp);have ih:=a2I xs λy hy=>h y (by simp [hy])
  simp only [uB,Gc,val];have e1:(x+65536*val xs) % 65536=x:=by omega
  have e2:(x+65536*val xs)/65536=val xs:=by omega
  rw [e1,e2,<-ih]
theorem a4u(a:Nat)(ha:a<18446744073709551616):bits .and .u64 (a:Int) 65535=((a % 65536:Nat):Int):=by have h:=bits_and_u64_nat a 65535 ha (by omega);have e:a&&&65535=a % 65536:=Nat.and_two_pow_sub_one_eq_mod a 16;rw [e] at h;exact h
end
section
open Go.Lib Go.Sort
theorem Y5:∀(ns:List Nat) (j:Nat) (hj:j<aA ns) (t:Nat),val (ns.set j t)+ns[j]*65536^j=val ns+t*65536^j
 | [],_,hj,_=>by simp at hj
 |x::xs,0,_,t=>by simp [val];omega
 |x::xs,j+1,hj,t=>by have ih:=Y5 xs j (by simpa using hj) t;simp only [List.set_cons_succ,val,a9S,Od];rw [<-Oc,<-Oc];omega
section
variable {w w':aJ} {b B:Nat} {ns:List Nat}
end
def upto(x:Nat->Nat):Nat->Nat
 |0=>0
 |k+1=>upto x k+x k*65536^k
end
section
open Go.Lib Go.Sort
end
section
open Go.Lib Go.Sort Go.Proofs.YtdokipdchlcmeaaGreat.oh Go.Proofs.YtdokipdchlcmeaaGreat.ShareLaw
end
section
open Go.Lib Go.Sort Go.Proofs.YtdokipdchlcmeaaGreat.oh Go.Proofs.YtdokipdchlcmeaaGreat.ShareLaw
section
variable {w wr w':aJ} {u v u':aN} {n:Nat} {ps rs:List Int}
end
section
variable {T S:Int} {W:Nat->Int} {n:Nat}
end
end
section
open Go.Lib Go.Sort
def sS(w:aJ)(b:Nat)(ns:List Nat):Prop:=w.heap[b]? =aC (aK (ns.map λ(n:Nat)=>aG .u64 (n:Int)).toArray 281 (0,0))
section
variable {w w':aJ} {b B:Nat} {ns:List Nat}
theorem sS.cell(h:sS w b ns) {i:Nat}(hi:i<aA ns):w.cell? ⟨b,i,aB⟩=aC (aG .u64 (ns[i]:Int)):=by rw [bG w b i _ 281 (0,0) h];simp [hi]
theorem sS.free(h:sS w b ns)(i:Nat):w.frozen? ⟨b,i,aB⟩=aP:=Jc w b i _ 281 h
theorem sS.drew(h:sS w b ns):sS w.drew b ns:=h
theorem sS.set(h:sS w b ns)(i:Nat)(v:Nat):sS (w.setCell ⟨b,i,aB⟩ (aG .u64 (v:Int))) b (ns.set i v):=by unfold sS at*;rw [setCell_eq,mapBlock,Array.getElem?_modify,ifP rfl,h];simp [onCells,List.map_set]
theorem sS.new(w:aJ)(ns:List Nat):sS (w.alloc (aK (ns.map λ(n:Nat)=>aG .u64 (n:Int)).toArray 281)) w.heap.size ns:=cT w _
end
structure MJ(bn Y M:Nat)(x y:Nat->Nat)(i k:Nat)(w3:aJ)(ns:List Nat)(wr:aJ):Prop where
 len:aA ns=8
 row:sS wr bn ns
 vl:val ns=upto x i*Y+x i*65536^i*upto y k
 bd:∀j (h:j<aA ns),ns[j]<=(4*i+k)*M
 b:aa bn w3 wr
theorem MJ.next {bn i Y M:Nat} {x y:Nat->Nat} {w3 wr:aJ} {ns:List Nat}(hY:upto y 4=Y)(h:MJ bn Y M x y i 4 w3 ns wr):MJ bn Y M x y (i+1) 0 w3 ns wr:=by
 refine⟨h.len,h.row, ?_,λj hj=> ?_,h.b⟩
 ·rw [h.vl,hY,show upto x (i+1)=upto x i+x i*65536^i from rfl,show upto y 0=0 from rfl,a9j,Fx,Fw]
 have:=h.bd j hj;rw [show 4*(i+1)+0=4*i+4 by omega];exact this
theorem MJ.step {bn i k p j Y M:Nat} {x y:Nat->Nat} {w3 wr:aJ} {ns:List Nat}(h:MJ bn Y M x y i k w3 ns wr)(hj:j<aA ns)(je:j=i+k)(hp:p=x i*y k)(hpl:p<=M):MJ bn Y M x y i (k+1) w3 (ns.set j (ns[j]+p)) (wr.setCell ⟨bn,j,aB⟩ (aG .u64 ((ns[j]+p:Nat):Int))).drew:=by
 refine⟨by rw [yA];exact h.len,(h.row.set j (ns[j]+p)).drew, ?_,λq hq=> ?_,(h.b.setCell (aZ _) _).drew⟩
 ·have hv:=Y5 ns j hj (ns[j]+p);have e:p*65536^j=x i*65536^i*(y k*65536^k):=by
   rw [hp,je,Nat.pow_add];simp only [Oc,Nat.mul_left_comm]
  rw [Fw,h.vl,e] at hv;rw [show upto y (k+1)=upto y k+y k*65536^k from rfl,Nat.mul_add];generalize x i*65536^i*(y k*65536^k)=A at*;generalize ns[j]*65536^j=B at*;generalize x i*65536^i*upto y k=C at*;generalize upto x i*Y=D at*;omega
 rw [yA] at hq;have h1:=h.bd q hq;have e:(4*i+(k+1))*M=(4*i+k)*M+M:=by rw [<-Nat.add_assoc,Fw,Nat.one_mul]
 rw [Tr,e];split
 ·rename_i c;subst c;omega
 omega
structure CJ(bn V i c:Nat)(w4:aJ)(ns:List Nat)(wr:aJ):Prop where
 len:aA ns=8
 row:sS wr bn ns
 lo:∀j (h:j<aA ns),j<i->ns[j]<65536
 bd:∀j (h:j<aA ns),ns[j]<=68717379600
 cb:c<=68717379600
 vl:val ns+c*65536^i=V
 b:aa bn w4 wr
theorem CJ.step {bn V i c t:Nat} {w4 wr:aJ} {ns:List Nat}(h:CJ bn V i c w4 ns wr)(hi:i<aA ns)(ht:t=ns[i]+c):CJ bn V (i+1) (t/65536) w4 (ns.set i (t % 65536)) ((wr.setCell ⟨bn,i,aB⟩ (aG .u64 (t:Int))).setCell ⟨bn,i,aB⟩ (aG .u64 ((t % 65536:Nat):Int))):=by
 have hb:=h.bd i hi;have hc:=h.cb;refine⟨by rw [yA];exact h.len, ?_,λj hj je=> ?_,λj hj=> ?_,by omega, ?_,(h.b.setCell (aZ _) _).setCell (aZ _) _⟩
 ·have:=(h.row.set i t).set i (t % 65536);rw [List.set_set] at this;exact this
 ·rw [yA] at hj;rw [Tr];split
  ·omega
  exact h.lo j hj (by omega)
 ·rw [yA] at hj;rw [Tr];split
  ·omega
  exact h.bd j hj
 have hv:=Y5 ns i hi (t % 65536);have h1:=h.vl;rw [Od,<-Oc,a9i];have e:t/65536*65536*65536^i+t % 65536*65536^i=ns[i]*65536^i+c*65536^i:=by rw [<-Fw,<-Fw];congr 1;omega
 generalize t/65536*65536*65536^i=A at*;generalize t % 65536*65536^i=B at*;generalize ns[i]*65536^i=C at*;generalize c*65536^i=D at*;omega
theorem CJ.ends {bn V c:Nat} {w4 wr:aJ} {ns:List Nat}(h:CJ bn V 8 c w4 ns wr)(hV:V<340282366920938463463374607431768211456):ns=Gc 8 V:=by
 have h1:=h.vl;have hc:c=0:=by
  rcases Nat.eq_zero_or_pos c with e|e
  ·exact e
  exfalso;have:1*65536^8<=c*65536^8:=Fz _ e;have e8:(65536:Nat)^8=340282366920938463463374607431768211456:=by decide
  rw [e8] at h1 this;omega
 rw [hc,Nat.zero_mul,Fx] at h1;have hd:=a2I ns λx hx=>by obtain⟨j,hj,rfl⟩:=sR.1 hx;exact h.lo j hj (by have:=h.len;omega)
 rw [h.len,h1] at hd;exact hd
def rJ(a j:Nat):Nat:=a/65536^j % 65536
theorem a7j(a:Nat):∀k,upto (rJ a) k+a/65536^k*65536^k=a
 |0=>by simp [upto]
 |k+1=>by
  have ih:=a7j a k;have h:=LR (a/65536^k) 65536;rw [Nat.div_div_eq_div_mul,<-Od] at h;show upto (rJ a) k+a/65536^k % 65536*65536^k+a/65536^(k+1)*65536^(k+1)=a;have e:a/65536^k*65536^k=a/65536^k % 65536*65536^k+a/65536^(k+1)*65536^(k+1):=by rw [Od 65536 k,<-Oc,a9i,<-Fw];congr 1;rw [<-Od];omega
  omega
theorem a7i {a:Nat}(h:a<18446744073709551616):upto (rJ a) 4=a:=by have h1:=a7j a 4;have h2:a/65536^4=0:=Nat.div_eq_of_lt (Nat.lt_of_lt_of_eq h (by decide:(18446744073709551616:Nat)=65536^4));rw [h2,Nat.zero_mul,Fx] at h1;exact h1
theorem a2H(a j:Nat):rJ a j<=65535:=by unfold rJ;omega
theorem a2G {a s i:Nat}(ha:a<18446744073709551616)(hs:s=16*i):bits .and .u64 ((a:Int)/2^s) 65535=(rJ a i:Int):=by
 have e:(a:Int)/2^s=((a/2^s:Nat):Int):=by simp
 rw [e,a4u _ (Nat.lt_of_le_of_lt (Nat.div_le_self _ _) ha),hs,show 2^(16*i)=65536^i by rw [Nat.pow_mul]];unfold rJ;rfl
theorem aJT(a b:Int)(X Y:Nat)(w:aJ)(ha:aL a)(hb:aL b)(hX:X=qi a)(hY:Y=qi b):
 aQ aM 154 #[aG aF a,aG aF b] w λe w'=>e=aU (bB #[aG aF (gP (a*b)),aG aF (dL (a*b))])/\aa w.heap.size w w':=by
 have HA:=η ha;have HB:=η hb;have hXl:X<=9223372036854775808:=by rw [hX];exact Rq ha
 have hYl:Y<=9223372036854775808:=by rw [hY];exact Rq hb
 have xt:∀W,Hid (aQ aM 204 #[aG aF a] W λe w'=>e=aU (aG .u64 (X:Int))/\W=w'):=λW=>η (by rw [hX];exact a6V a W ha)
 have Fg:∀W,Hid (aQ aM 204 #[aG aF b] W λe w'=>e=aU (aG .u64 (Y:Int))/\W=w'):=λW=>η (by rw [hY];exact a6V b W hb)
 have JA:=η (kT hX hY);clear ha hb hX hY;go_enter func154,ntmps154
 go_wp2_with fail
 refine(xt _).o.mono ?_;rintro e w' ⟨rfl,rfl⟩;go_wp2_with fail
 refine(Fg _).o.mono ?_;rintro e w' ⟨rfl,rfl⟩;go_wp2_with fail
 obtain⟨M,hM⟩:∃M,M=4294836225:=⟨_,rfl⟩;have a3Q:M<=4294836225:=by omega
 have aLt:4294836225<=M:=by omega
 clear hM;have zD:Hid (∀w4,w4=w.alloc (aK #[aG .u64 0,aG .u64 0,aG .u64 0,aG .u64 0,aG .u64 0,aG .u64 0,aG .u64 0,aG .u64 0] 281)->MJ w.heap.size Y M (rJ X) (rJ Y) 0 0 w4 [0,0,0,0,0,0,0,0] w4/\aa w.heap.size w w4):=by
  rintro w4 rfl;refine⟨⟨rfl,sS.new w [0,0,0,0,0,0,0,0],by simp [val,upto],λj hj=> ?_,aX _ _⟩,(aX _ _).alloc (aZ _) _⟩;have:∀x∈ [0,0,0,0,0,0,0,(0:Nat)],x=0:=by simp
  rw [this _ (cK hj)];omega
 have Tc:Hid (upto (rJ Y) 4=Y):=η (a7i (by omega));have oY:Hid (upto (rJ X) 4=X):=η (a7i (by omega));have Tb:Hid (∀j,rJ X j<=65535):=η (a2H X);have HYL:Hid (∀j,rJ Y j<=65535):=η (a2H Y);have HXS:Hid (∀s i,s=16*i->bits .and .u64 ((X:Int)/2^s) 65535=(rJ X i:Int)):=η λs i h=>a2G (by omega) h
 have HYS:Hid (∀s i,s=16*i->bits .and .u64 ((Y:Int)/2^s) 65535=(rJ Y i:Int)):=η λs i h=>a2G (by omega) h
 have pT:=zD.o _ rfl;clear zD xt Fg;generalize rJ X=x at*;generalize rJ Y=y at*;generalize w.alloc (aK #[aG .u64 0,aG .u64 0,aG .u64 0,aG .u64 0,aG .u64 0,aG .u64 0,aG .u64 0,aG .u64 0] 281)=w4 at pT ⊢;have O4:=η pT.1;have cE:=η pT.2;clear pT;generalize Q0:w.heap.size=bn at*;have fB:=η Q0;clear Q0;go_loopw [9,10] (λu _ wr=>∃i:Nat,i<=4/\u=aG aF i/\∃ns:List Nat,Hid (MJ bn Y M x y i 0 w4 ns wr)) (λu _ _=>4-(ag u).toNat)
 case atStart=>exact⟨0,by omega,rfl,_,O4⟩
 case round=>
  clear O4;obtain⟨i,hi,rfl,ns,HM⟩:=hrel;by_cases hlt:i<4
  ·have nT:(i:Int)<4:=by omega
   obtain⟨wo,rfl⟩:∃wo:aJ,wo=wr:=⟨_,rfl⟩;go_wp2_with fail
   go_loopw [10] (λu wr=>∃k:Nat,k<=4/\u=aG aF k/\∃ns:List Nat,Hid (MJ bn Y M x y i k w4 ns wr)) (λu _=>4-(ag u).toNat)
   case atStart=>exact⟨0,by omega,rfl,_,HM⟩
   case round=>
    clear HM;obtain⟨k,hk,rfl,ns,HM⟩:=hrel;by_cases rS:k<4
    ·have W9:(k:Int)<4:=by omega
     obtain⟨j,hj⟩:∃j,j=i+k:=⟨_,rfl⟩;have hlen:=HM.o.len;have qY:j<aA ns:=by omega
     obtain⟨q,hq⟩:∃q,q=ns[j]:=⟨_,rfl⟩;obtain⟨p,hp⟩:∃p,p=x i*y k:=⟨_,rfl⟩;obtain⟨t,ht⟩:∃t,t=q+p:=⟨_,rfl⟩;have hpl:p<=4294836225:=by rw [hp];exact yC (Tb.o i) (HYL.o k)
     have WO:q<=68717379600:=by have h1:=HM.o.bd j qY;rw [hq];refine cC h1 (cC (yC (show 4*i+k<=16 by omega) a3Q) (by omega))
     have cn:=HM.o.row.cell qY;rw [<-hq] at cn;have fnn:=HM.o.row.free j;have O5:Hid (MJ bn Y M x y i (k+1) w4 (ns.set j t) (wr.setCell ⟨bn,j,aB⟩ (aG .u64 (t:Int))).drew):=by have:=HM.o.step qY hj hp (by omega);rw [<-hq,<-ht] at this;exact this
     obtain⟨si,hsi⟩:∃si,si=16*i:=⟨_,rfl⟩;obtain⟨sk,hsk⟩:∃sk,sk=16*k:=⟨_,rfl⟩;have ax:=HXS.o si i hsi;have ay:=HYS.o sk k hsk;have esi:(16:Int)*(i:Int)=(si:Int):=by omega
     have esk:(16:Int)*(k:Int)=(sk:Int):=by omega
     have lsi:si<=48:=by omega
     have lsk:sk<=48:=by omega
     have ep:(x i:Int)*(y k:Int)=(p:Int):=by rw [hp,Int.natCast_mul]
     have et:(q:Int)+(p:Int)=(t:Int):=by omega
     have F2:t<=73012215825:=by omega
     have ea:((i:Int)+(k:Int)).toNat=j:=by omega
     have pa:(0:Int)<=(i:Int)+(k:Int):=by omega
     have ba:(i:Int)+(k:Int)<8:=by omega
     have ra:aF.wrap ((i:Int)+(k:Int))=(i:Int)+(k:Int):=by rw [fW];omega
     have rp:mC.wrap (p:Int)=(p:Int):=by rw [uo];omega
     have rt:mC.wrap (t:Int)=(t:Int):=by rw [uo];omega
     have rsi:aF.wrap (si:Int)=(si:Int):=by rw [fW];omega
     have rsk:aF.wrap (sk:Int)=(sk:Int):=by rw [fW];omega
     have hsx:Op.shift .shr .u64 (X:Int) aF (si:Int)=pure (aG .u64 ((X:Int)/2^si)):=shift_shr .u64 aF X si (by omega) (by simp [Zj];omega);have Mn:Op.shift .shr .u64 (Y:Int) aF (sk:Int)=pure (aG .u64 ((Y:Int)/2^sk)):=shift_shr .u64 aF Y sk (by omega) (by simp [Zj];omega);clear hj hq hp ht hlen WO hpl HM qY hsi hsk;go_wp2_with fail
     go_big_region
     clear cn fnn;generalize (wr.setCell ⟨bn,j,aB⟩ (aG .u64 (t:Int))).drew=w5 at O5 ⊢;clear ea pa ba ra rp rt ep et ax ay esi esk rsi rsk hsx Mn;go_wp2
     go_roundw
     case rel=>exact⟨k+1,by omega,by go_num,_,O5⟩
     case measure=>simp [ag];omega
    have W9:¬(k:Int)<4:=by omega
    obtain rfl:k=4:=by omega
    have O5:=η (HM.o.next Tc.o);clear HM;go_wp2_with fail
    go_roundw
    case rel=>exact⟨i+1,by omega,by go_num,_,O5⟩
    case measure=>simp [ag];omega
  have nT:¬(i:Int)<4:=by omega
  obtain rfl:i=4:=by omega
  have jG:Hid (CJ bn (X*Y) 0 0 w4 ns wr):=by refine⟨HM.o.len,HM.o.row,λj _ h=>by omega,λj h=>cC (HM.o.bd j h) (cC (yC (show 4*4+0<=16 by omega) a3Q) (by omega)),by omega, ?_,HM.o.b⟩;have:=HM.o.vl;rw [oY.o,show upto y 0=0 from rfl,a9j,Fx] at this;rw [this,Nat.zero_mul,Fx]
  have SN:Hid (X*Y<340282366920938463463374607431768211456):=by have:X*Y<=9223372036854775808*9223372036854775808:=yC hXl hYl;show X*Y<_;omega
  clear HM;obtain⟨V,hV⟩:∃V,V=X*Y:=⟨_,rfl⟩;rw [<-hV] at jG SN;have HV:=η hV;clear hV;go_wp2_with fail
  go_loopw [11,12] (λu v wr=>∃i c:Nat,i<=8/\u=aG .u64 c/\v=aG aF i/\∃ns:List Nat,Hid (CJ bn V i c w4 ns wr)) (λ_ v _=>8-(ag v).toNat)
  case atStart=>exact⟨0,0,by omega,rfl,rfl,_,jG⟩
  case round=>
   clear jG;obtain⟨i,c,hi,rfl,rfl,ns,HC⟩:=hrel;by_cases hlt:i<8
   ·have nT:(i:Int)<8:=by omega
    have nR:i<aA ns:=by have:=HC.o.len;omega
    obtain⟨q,hq⟩:∃q,q=ns[i]:=⟨_,rfl⟩;obtain⟨t,ht⟩:∃t,t=q+c:=⟨_,rfl⟩;obtain⟨m,hm⟩:∃m,m=t % 65536:=⟨_,rfl⟩;obtain⟨d,hd⟩:∃d,d=t/65536:=⟨_,rfl⟩;have WO:q<=68717379600:=by rw [hq];exact HC.o.bd i nR
    have jt:=HC.o.cb;have cn:=HC.o.row.cell nR;rw [<-hq] at cn;have fnn:=HC.o.row.free i;have kE:Hid (CJ bn V (i+1) d w4 (ns.set i m) ((wr.setCell ⟨bn,i,aB⟩ (aG .u64 (t:Int))).setCell ⟨bn,i,aB⟩ (aG .u64 (m:Int)))):=by have:=HC.o.step nR (t:=t) (by rw [<-hq];exact ht);rw [<-hm,<-hd] at this;exact this
    have et:(q:Int)+(c:Int)=(t:Int):=by omega
    have ed:(t:Int)/65536=(d:Int):=by omega
    have em:bits .and .u64 (t:Int) 65535=(m:Int):=by rw [hm];exact a4u t (by omega)
    have F2:t<=137434759200:=by omega
    have hrow2:=η (HC.o.row.set i t);have cn2:(wr.setCell ⟨bn,i,aB⟩ (aG .u64 (t:Int))).cell? ⟨bn,i,aB⟩=aC (aG .u64 (t:Int)):=by rw [hrow2.o.cell (by rw [yA];exact nR),Tr,ifP rfl]
    have fn2:(wr.setCell ⟨bn,i,aB⟩ (aG .u64 (t:Int))).frozen? ⟨bn,i,aB⟩=aP:=hrow2.o.free i;clear hq ht hm hd WO jt HC nR;go_wp2_with fail
    go_roundw
    case rel=>exact⟨i+1,d,by omega,by first|rfl|go_num,by go_num,_,kE⟩
    case measure=>simp [ag];omega
   have nT:¬(i:Int)<8:=by omega
   obtain rfl:i=8:=by omega
   have hns:=HC.o.ends SN.o;subst hns;have B0:=HC.o.row;have xW:Hid (aa bn w wr):=cE.o.trans HC.o.b;clear HC;have lit:Gc 8 V= [V % 65536,V/65536 % 65536,V/4294967296 % 65536,V/281474976710656 % 65536,V/18446744073709551616 % 65536,V/1208925819614629174706176 % 65536,V/79228162514264337593543950336 % 65536,V/5192296858534827628530496329220096 % 65536]:=by simp only [Gc,Nat.div_div_eq_div_mul]
   obtain⟨n0,n1,n2,n3,n4,n5,n6,n7,a3l,jr,hval⟩:∃n0 n1 n2 n3 n4 n5 n6 n7:Nat,Gc 8 V= [n0,n1,n2,n3,n4,n5,n6,n7]/\(n0<=65535/\n1<=65535/\n2<=65535/\n3<=65535/\n4<=65535/\n5<=65535/\n6<=65535/\n7<=65535)/\V=n0+65536*n1+4294967296*n2+281474976710656*n3+18446744073709551616*(n4+65536*n5+4294967296*n6+281474976710656*n7):=
    ⟨_,_,_,_,_,_,_,_,lit,⟨by omega,by omega,by omega,by omega,by omega,by omega,by omega,by omega⟩,by have:=SN.o;omega⟩
   rw [a3l] at B0;clear a3l lit;have a0:=B0.cell (i:=0) (by simp);have a1:=B0.cell (i:=1) (by simp);have a2:=B0.cell (i:=2) (by simp);have a3:=B0.cell (i:=3) (by simp);have a4:=B0.cell (i:=4) (by simp);have a5:=B0.cell (i:=5) (by simp);have a6:=B0.cell (i:=6) (by simp);have a7:=B0.cell (i:=7) (by simp);simp only [List.getElem_cons_zero,a9S] at a0 a1 a2 a3 a4 a5 a6 a7;clear B0;obtain⟨N,hN⟩:∃N,N=n0+65536*n1+4294967296*n2+281474976710656*n3:=⟨_,rfl⟩;obtain⟨h,hh⟩:∃h,h=n4+n5+n6+n7:=⟨_,rfl⟩;obtain⟨z,hz⟩:∃z,z=a*b:=⟨_,rfl⟩;obtain⟨sg,mn⟩:∃sg:Bool,sg= !(decide (a<0)==decide (b<0)):=⟨_,rfl⟩;have HZ:Hid (V=z.natAbs/\(sg=aO->z<=0)/\(sg=aP->0<=z)):=η ⟨by rw [HV.o,JA.o.1,JA.o.2,hz,a7W],λh=>by rw [hz];exact mul_neg (mn.symm.trans h),λh=>by rw [hz];exact a5I (mn.symm.trans h)⟩;have ZX:Hid ((h=0->V=N)/\(h≠0->18446744073709551616<=V)):=η ⟨λe=>by omega,λe=>by omega⟩;obtain⟨b0,b1,b2,b3,b4,b5,b6,b7⟩:=jr;have JB:=η hz;have HN:=η hN;have B2:=η mn;have eN:(n0:Int)+(n1:Int)*65536+(n2:Int)*4294967296+(n3:Int)*281474976710656=(N:Int):=by omega
   have eh:(n4:Int)+(n5:Int)+(n6:Int)+(n7:Int)=(h:Int):=by omega
   have bh:h<=262140:=by omega
   have bN:N<=18446744073709551615:=by omega
   clear hval hN hh hz mn;have wA:Hid (aa w.heap.size w wr):=η (by rw [fB.o];exact xW.o);by_cases zi:h=0
   ·have eh0:(n4:Int)+(n5:Int)+(n6:Int)+(n7:Int)=0:=by omega
    have CX:Hid (V=N):=η (ZX.o.1 zi);clear eh zi bh;by_cases VH:N>9223372036854775808
    ·have a3R:(N:Int)>9223372036854775808:=by omega
     have hno:¬aL (a*b):=by have:=HZ.o.1;have:=CX.o;have:=JB.o;rw [<-JB.o];unfold aL;omega
     go_wp2_with fail
     go_ret2;exact⟨my (gh hno).1.symm (gh hno).2.symm,wA.o⟩
    cases sg
    ·have hS:(decide (a<0)==decide (b<0))=aO:=by have:=B2.o;revert this;cases (decide (a<0)==decide (b<0))<;>simp
     by_cases VI:N=9223372036854775808
     ·have VJ:(N:Int)=9223372036854775808:=by omega
      have hno:¬aL (a*b):=by have:=HZ.o.1;have:=HZ.o.2.2 rfl;have:=CX.o;rw [<-JB.o];unfold aL;omega
      clear VH;go_wp2_with fail
      go_ret2;exact⟨my (gh hno).1.symm (gh hno).2.symm,wA.o⟩
     have a3R:¬(N:Int)>9223372036854775808:=by omega
     have VJ:¬(N:Int)=9223372036854775808:=by omega
     have hN3:(N:Int)<9223372036854775808:=by omega
     have DU:aL (a*b)/\a*b=(N:Int):=by have:=HZ.o.1;have:=HZ.o.2.2 rfl;have:=CX.o;rw [<-JB.o];unfold aL;omega
     clear VH VI;have HY:=η DU;clear DU;go_wp2_with fail
     go_ret2;exact⟨my (by rw [(dy HY.o.1).1,HY.o.2]) (dy HY.o.1).2.symm,wA.o⟩
    have hS:(decide (a<0)==decide (b<0))=aP:=by have:=B2.o;revert this;cases (decide (a<0)==decide (b<0))<;>simp
    have a3R:¬(N:Int)>9223372036854775808:=by omega
    have HY:Hid (aL (a*b)/\a*b= -(N:Int)):=η (by have:=HZ.o.1;have:=HZ.o.2.1 rfl;have:=CX.o;rw [<-JB.o];unfold aL;omega);clear VH;by_cases VI:N=9223372036854775808
    ·have VJ:(N:Int)=9223372036854775808:=by omega
     go_wp2_with fail
     go_ret2;exact⟨my (by rw [(dy HY.o.1).1,HY.o.2];omega) (dy HY.o.1).2.symm,wA.o⟩
    have VJ:¬(N:Int)=9223372036854775808:=by omega
    have hN3:(N:Int)<9223372036854775808:=by omega
    clear VI;by_cases hN0:N=0
    ·have hN4:¬(N:Int)>0:=by omega
     go_wp2_with fail
     go_ret2;exact⟨my (by rw [(dy HY.o.1).1,HY.o.2];omega) (dy HY.o.1).2.symm,wA.o⟩
    have hN4:(N:Int)>0:=by omega
    obtain⟨m,hm⟩:∃m,m=N-1:=⟨_,rfl⟩;have em:(N:Int)-1=(m:Int):=by omega
    have bm:m<=9223372036854775806:=by omega
    have HMM:Hid (-(N:Int)= -(m:Int)-1):=η (by omega);clear hN0 hm hN3 bN;go_wp2_with fail
    go_ret2;exact⟨my (by rw [(dy HY.o.1).1,HY.o.2,HMM.o]) (dy HY.o.1).2.symm,wA.o⟩
   have hhp:(h:Int)>0:=by omega
   have hno:¬aL (a*b):=by have:=HZ.o.1;have:=ZX.o.2 zi;rw [<-JB.o];unfold aL;omega
   go_wp2_with fail
   go_ret2;exact⟨my (gh hno).1.symm (gh hno).2.symm,wA.o⟩
theorem aJS(a b:Int)(w:aJ)(ha:aL a)(hb:aL b):aQ aM 154 #[aG aF a,aG aF b] w λe w'=>e=aU (bB #[aG aF (gP (a*b)),aG aF (dL (a*b))])/\aa w.heap.size w w':=
 aJT a b _ _ w ha hb rfl rfl
end
theorem rX(n a b:Int)(w:aJ):aQ aM 23 #[aG aF n,aG aF a,aG aF b] w λe w'=>e=aU (bM (bZ n a b))/\w=w':=by
 have HB:=η (show bZ n a b=(decide (a<=n)&&decide (n<=b)) from rfl);by_cases h1:a<=n
 ·by_cases h2:n<=b
  ·go_enter a0M,a0f
   go_wp2
   go_ret;exact⟨fP (by rw [HB.o];simp [h1,h2]),rfl⟩
  go_enter a0M,a0f
  go_wp2
  go_ret;exact⟨fP (by rw [HB.o,decide_eq_false (show¬n<=b by omega)];simp),rfl⟩
 go_enter a0M,a0f
 go_wp2
 go_ret;exact⟨fP (by rw [HB.o,decide_eq_false (show¬a<=n by omega)];simp),rfl⟩
theorem qd {a b:ByteArray}(h:a=b):aU (.string a)=aU (.string b):=by rw [h]
theorem My {n a b:Int} {v:Bool}(h:bZ n a b=v)(w:aJ):aQ aM 23 #[aG aF n,aG aF a,aG aF b] w λe w'=>e=aU (bM v)/\w'=w:=by subst h;exact(rX n a b w).mono λ_ _ h=>⟨h.1,h.2.symm⟩
theorem XX:∀(l m:List Int) (p:Int),risesB p (l++m)=(risesB p l&&risesB (jR p l) m)
 | [],m,p=>by simp [risesB,jR]
 |a::l,m,p=>by rw [List.cons_append];simp only [risesB,jR];rw [XX l m a,Bool.and_assoc]
theorem Wu:∀(l m:List Int) (p:Int),jR p (l++m)=jR (jR p l) m
 | [],m,p=>rfl
 |a::l,m,p=>by rw [List.cons_append];simp only [jR];rw [Wu l m a]
theorem a4d:∀(l:List Int) (p:Int),risesB p l=aO->p<=jR p l
 | [],p,_=>dH p
 |a::l,p,h=>by simp only [risesB,jX,decide_eq_true_eq] at h;have:=a4d l a h.2;simp only [jR];omega
def Ls(p:Int)(x:Cy):Prop:=p<x.a/\x.a<x.b/\x.b<x.c/\x.c<x.d/\x.d<=1000
theorem aKn {l:List Cy} {k:Nat}(hk:k<aA l):iD l=iD (l.take k)++([l[k].a,l[k].b,l[k].c,l[k].d]++iD (l.drop (k+1))):=by
 have h:l=l.take k++(l[k]::l.drop (k+1)):=by rw [<-JF hk,List.take_append_drop]
 have h2:iD l=iD (l.take k++(l[k]::l.drop (k+1))):=by rw [<-h]
 rw [h2];unfold iD;rw [List.flatMap_append,wP]
theorem aE8 {l:List Cy} {k:Nat}(hk:k<aA l)(h:¬Ls (jR 0 (iD (l.take k))) l[k]):lN l=aP:=by
 cases hc:lN l
 ·rfl
 exfalso;apply h;unfold lN at hc;rw [aKn hk] at hc;simp only [jX,decide_eq_true_eq,XX,Wu] at hc;obtain⟨⟨_,h1,h2⟩,_,h3⟩:=hc;simp only [risesB,jR,jX,decide_eq_true_eq,Bool.and_true] at h1 h2 h3;have:=a4d _ _ h2;unfold Ls;omega
theorem aEB {l:List Cy} {k:Nat}(hk:k<aA l)(h:Ls (jR 0 (iD (l.take k))) l[k])(hr:risesB 0 (iD (l.take k))=aO):risesB 0 (iD (l.take (k+1)))=aO/\jR 0 (iD (l.take (k+1)))=l[k].d:=by unfold Ls at h;rw [a7a hk,XX,Wu,hr];simp only [risesB,jR,Bool.true_and,Bool.and_true,jX,decide_eq_true_eq,and_true];omega
theorem aE9 {l:List Cy}(h:bZ (aA l) 1 4=aO)(hr:risesB 0 (iD l)=aO)(hl:jR 0 (iD l)<=1000):lN l=aO:=by unfold lN;rw [h,hr];simp [hl]
theorem aEA {l:List Cy}(h:bZ (aA l) 1 4=aP):lN l=aP:=by unfold lN;rw [h];simp
theorem aHV {l:List Pr}(h:bZ (aA l) 2 16=aP):kP l=aP:=by unfold kP;rw [h];simp
theorem aJq {l:List Pr}(h:bZ (aA l) 1 8=aP):l7 l=aP:=by unfold l7;rw [h];simp
theorem a5F {l:List Pr} {k:Nat}(hk:k<aA l)(h:uT l[k]=aP):kP l=aP:=by unfold kP;rw [show l.all uT=aP from JE.2 ⟨l[k],cK hk,by rw [h];simp⟩];rfl
theorem a6d {l:List Pr} {k:Nat}(hk:k<aA l)(h:uW l[k]=aP):l7 l=aP:=by unfold l7;rw [show l.all uW=aP from JE.2 ⟨l[k],cK hk,by rw [h];simp⟩];rfl
theorem aLL {x:ak}:kP x.ms=aP->⟨#[109,101,109,98,101,114,115]⟩=iJ x:=by intro h0;unfold iJ;simp [h0]
theorem aLM {x:ak}:kP x.ms=aO->l7 x.ss=aP->⟨#[115,101,99,115]⟩=iJ x:=by intro h0 h1;unfold iJ;simp [h0,h1]
theorem aLN {x:ak}:kP x.ms=aO->l7 x.ss=aO->lN x.cy=aP->⟨#[99,121,99,108,101,115]⟩=iJ x:=by intro h0 h1 h2;unfold iJ;simp [h0,h1,h2]
theorem aLO {x:ak}:kP x.ms=aO->l7 x.ss=aO->lN x.cy=aO->bZ x.line 0 1099511627776=aP->⟨#[108,105,110,101]⟩=iJ x:=by intro h0 h1 h2 h3;unfold iJ;simp [h0,h1,h2,h3]
theorem aLP {x:ak}:kP x.ms=aO->l7 x.ss=aO->lN x.cy=aO->bZ x.line 0 1099511627776=aO->bZ x.bu 0 1099511627776=aP->⟨#[99,97,112,105,116,97,108]⟩=iJ x:=by intro h0 h1 h2 h3 h4;unfold iJ;simp [h0,h1,h2,h3,h4]
theorem aLQ {x:ak}:kP x.ms=aO->l7 x.ss=aO->lN x.cy=aO->bZ x.line 0 1099511627776=aO->bZ x.bu 0 1099511627776=aO->bZ x.lead 0 1000=aP->⟨#[108,101,97,100]⟩=iJ x:=by intro h0 h1 h2 h3 h4 h5;unfold iJ;simp [h0,h1,h2,h3,h4,h5]
theorem aLR {x:ak}:kP x.ms=aO->l7 x.ss=aO->lN x.cy=aO->bZ x.line 0 1099511627776=aO->bZ x.bu 0 1099511627776=aO->bZ x.lead 0 1000=aO->bZ x.tr 1 64=aP->⟨#[116,114,97,100,101,115]⟩=iJ x:=by intro h0 h1 h2 h3 h4 h5 h6;unfold iJ;simp [h0,h1,h2,h3,h4,h5,h6]
theorem aLS {x:ak}:kP x.ms=aO->l7 x.ss=aO->lN x.cy=aO->bZ x.line 0 1099511627776=aO->bZ x.bu 0 1099511627776=aO->bZ x.lead 0 1000=aO->bZ x.tr 1 64=aO->bZ x.bY 1 32=aP->⟨#[98,105,100,115]⟩=iJ x:=by intro h0 h1 h2 h3 h4 h5 h6 h7;unfold iJ;simp [h0,h1,h2,h3,h4,h5,h6,h7]
theorem aLT {x:ak}:kP x.ms=aO->l7 x.ss=aO->lN x.cy=aO->bZ x.line 0 1099511627776=aO->bZ x.bu 0 1099511627776=aO->bZ x.lead 0 1000=aO->bZ x.tr 1 64=aO->bZ x.bY 1 32=aO->⟨#[]⟩=iJ x:=by intro h0 h1 h2 h3 h4 h5 h6 h7;unfold iJ;simp [h0,h1,h2,h3,h4,h5,h6,h7]
theorem aJj(x:ak)(w:aJ)(h:lS w x)(hm:aA x.ms<=100000)(hs:aA x.ss<=100000)(hc:aA x.cy<=100000):
 aQ aM 8 #[x.val] w λe w'=>e=aU (.string (iJ x))/\aa w.heap.size w w':=by
 have aY:=η (mE w x);have tX:=η (zS w x);have dP:=η (h.below (mE w x));have mA:=η (@aLL x);have xz:=η (@aLM x);have gB:=η (@aLN x);have mB:=η (@aLO x);have zD:=η (@aLP x);have pT:=η (@aLQ x);have HW6:=η (@aLR x);have ZY:=η (@aLS x);have HW8:=η (@aLT x);generalize iJ x=ws at*;have c0:=tX.o.c0;have VR:=tX.o.lt;unfold ak.val at*;clear h;cases h1:bZ (aA x.ms) 2 16
 ·have HF:=η (mA.o (aHV h1));go_enter func8,aBQ
  go_wp2_with fail
  refine(rX _ _ _ _).mono ?_;rintro e w1 ⟨rfl,rfl⟩;rw [h1];go_wp2_with fail
  go_ret;exact⟨qd HF.o,aY.o⟩
 go_enter func8,aBQ
 go_wp2_with fail
 refine(rX _ _ _ _).mono ?_;rintro e w1 ⟨rfl,rfl⟩;rw [h1];generalize (w.alloc (aK #[aH x.Am (aA x.ms) x.cm,aH x.As (aA x.ss) x.cs,aH x.Ac (aA x.cy) x.cc,aG aF x.line,aG aF x.bu,aG aF x.lead,aG aF x.tr,aG aF x.bY] 26))=W0 at*;have H1:=η h1;clear h1;go_wp2_with fail
 go_loop [3] (λi=>∃k:Nat,k<=aA x.ms/\i=aG aF k/\Hid ((x.ms.take k).all uT=aO)) (λi=>aA x.ms-(ag i).toNat)
 case atStart=>exact⟨0,bL _,rfl,rfl⟩
 case round=>
  obtain⟨k,hk,rfl,HK⟩:=hrel;by_cases hlt:k<aA x.ms
  ·obtain⟨b,o,e0,hb,d0,d1⟩:=FB dP.o.m hlt;have cG:=η (P9 uT hlt);have HP:=η (show uT x.ms[k]=(bZ x.ms[k].a 0 1099511627776&&bZ x.ms[k].b 0 1099511627776) from rfl);rw [e0] at c0;clear e0;cases h1:bZ x.ms[k].a 0 1099511627776
   ·have HF:=η (mA.o (a5F hlt (by rw [HP.o,h1];rfl)));go_wp2_with fail
    refine(rX _ _ _ _).mono ?_;rintro e w1 ⟨rfl,rfl⟩;rw [h1];go_wp2_with fail
    go_ret;exact⟨qd HF.o,aY.o⟩
   cases h2:bZ x.ms[k].b 0 1099511627776
   ·have HF:=η (mA.o (a5F hlt (by rw [HP.o,h1,h2];rfl)));go_wp2_with fail
    refine(rX _ _ _ _).mono ?_;rintro e w1 ⟨rfl,rfl⟩;rw [h1];go_wp2_with fail
    refine(rX _ _ _ _).mono ?_;rintro e w1 ⟨rfl,rfl⟩;rw [h2];go_wp2_with fail
    go_ret;exact⟨qd HF.o,aY.o⟩
   have HX:Hid ((x.ms.take (k+1)).all uT=aO):=by show _=_;rw [cG.o,HK.o,HP.o,h1,h2];rfl
   go_wp2_with fail
   refine(rX _ _ _ _).mono ?_;rintro e w1 ⟨rfl,rfl⟩;rw [h1];go_wp2_with fail
   refine(rX _ _ _ _).mono ?_;rintro e w1 ⟨rfl,rfl⟩;rw [h2];go_wp2_with fail
   go_round
   case rel=>exact⟨k+1,by omega,by go_num,HX⟩
   case measure=>simp [ag];omega
  obtain rfl:k=aA x.ms:=by omega
  have HM:Hid (kP x.ms=aO):=by have h2:=HK.o;rw [cU] at h2;show _=_;unfold kP;rw [h2,H1.o];rfl
  have c1:=tX.o.c1;cases h1:bZ (aA x.ss) 1 8
  ·have HF:=η (xz.o HM.o (aJq h1));go_wp2_with fail
   refine(rX _ _ _ _).mono ?_;rintro e w1 ⟨rfl,rfl⟩;rw [h1];go_wp2_with fail
   go_ret;exact⟨qd HF.o,aY.o⟩
  go_wp2_with fail
  refine(rX _ _ _ _).mono ?_;rintro e w1 ⟨rfl,rfl⟩;rw [h1];have H8:=η h1;clear h1;go_wp2_with fail
  go_loopw [4] (λi wr=>∃k:Nat,k<=aA x.ss/\i=aG aF k/\Hid ((x.ss.take k).all uW=aO)/\Hid (aa w.heap.size w wr)/\Hid (aa W0.heap.size W0 wr)) (λi _=>aA x.ss-(ag i).toNat)
  case atStart=>exact⟨0,bL _,rfl,rfl,aY,aX _ _⟩
  case round=>
   obtain⟨k,hk,rfl,HK,ud,pS⟩:=hrel;have c1:=(tX.o.below pS.o).c1;by_cases hlt:k<aA x.ss
   ·obtain⟨b,o,e0,hb,d0,d1⟩:=FB ((dP.o.below pS.o).s) hlt;have cG:=η (P9 uW hlt);have HP:=η (show uW x.ss[k]=(bZ x.ss[k].a 1 1048576&&bZ x.ss[k].b x.ss[k].a 1048576) from rfl);rw [e0] at c1;clear e0;have hb1:(0:Int)<=k:=by omega
    have hb2:(k:Int)<aA x.ss:=by omega
    cases h1:bZ x.ss[k].a 1 1048576
    ·have HF:=η (xz.o HM.o (a6d hlt (by rw [HP.o,h1];rfl)));go_wp2_with fail
     go_quiet ((go_at_call 23;exact IX (My h1 _)))
     go_wp2_with fail
     go_ret;exact⟨qd HF.o,below_drewN ud.o _⟩
    cases h2:bZ x.ss[k].b x.ss[k].a 1048576
    ·have HF:=η (xz.o HM.o (a6d hlt (by rw [HP.o,h1,h2];rfl)));go_wp2_with fail
     go_quiet ((go_at_call 23;first|(with_reducible exact IX (My h1 _))|(with_reducible exact IX (My h2 _))))
     go_wp2_with fail
     go_ret;exact⟨qd HF.o,below_drewN ud.o _⟩
    have HX:Hid ((x.ss.take (k+1)).all uW=aO):=by show _=_;rw [cG.o,HK.o,HP.o,h1,h2];rfl
    go_wp2_with fail
    go_quiet ((go_at_call 23;first|(with_reducible exact IX (My h1 _))|(with_reducible exact IX (My h2 _))))
    go_wp2_with fail
    go_roundw
    case rel=>exact⟨k+1,by omega,by go_num,HX,below_drewN ud.o _,below_drewN pS.o _⟩
    case measure=>simp [ag];omega
   obtain rfl:k=aA x.ss:=by omega
   have HS:Hid (l7 x.ss=aO):=by have h2:=HK.o;rw [cU] at h2;show _=_;unfold l7;rw [h2,H8.o];rfl
   have c2:=(tX.o.below pS.o).c2;obtain⟨wo,rfl⟩:∃wo:aJ,wo=wr:=⟨_,rfl⟩;cases BP:bZ (aA x.cy) 1 4
   ·have HF:=η (gB.o HM.o HS.o (aEA BP));go_wp2_with fail
    refine(rX _ _ _ _).mono ?_;rintro e w1 ⟨rfl,rfl⟩;rw [BP];go_wp2_with fail
    go_ret;exact⟨qd HF.o,ud.o⟩
   go_wp2_with fail
   refine(rX _ _ _ _).mono ?_;rintro e w1 ⟨rfl,rfl⟩;rw [BP];go_wp2_with fail
   go_loopw [5,6,7] (λa i _ wr=>∃k:Nat,k<=aA x.cy/\i=aG aF k/\a=aG aF (jR 0 (iD (x.cy.take k)))/\Hid (risesB 0 (iD (x.cy.take k))=aO)/\jR 0 (iD (x.cy.take k))<=1000/\Hid (aa w.heap.size w wr)/\Hid (aa W0.heap.size W0 wr)) (λ_ i _ _=>aA x.cy-(ag i).toNat)
   case atStart=>exact⟨0,bL _,rfl,rfl,rfl,by simp [iD,jR],ud,pS⟩
   case round=>
    obtain⟨k,hk,rfl,rfl,HK,Pv,HD,HR⟩:=hrel;have hsz:=HR.o.size;have c2:=(tX.o.below HR.o).c2;have VR:=(tX.o.below HR.o).lt;by_cases hlt:k<aA x.cy
    ·obtain⟨b,o,e0,hb,d0,d1,d2,d3⟩:=a1t ((dP.o.below HR.o).c) hlt;have lD:=η (aE8 (l:=x.cy) hlt);have HST:=η (aEB (l:=x.cy) hlt);generalize jR 0 (iD (x.cy.take k))=at0 at*;rw [e0] at c2;clear e0;have Ij:Hid (∀o,aa w.heap.size w (wr.alloc o)):=λo=>HD.o.alloc (cC aY.o.size hsz) _
     have L9:Hid (∀o,aa W0.heap.size W0 (wr.alloc o)):=λo=>HR.o.alloc hsz _
     by_cases tI:at0<x.cy[k].a
     rotate_left
     ·have hF:=gB.o HM.o HS.o (lD.o (λg=>tI g.1));have HF:=η hF;clear hF;go_wp2_with fail
      go_ret;exact⟨qd HF.o,Ij.o _⟩
     by_cases vR:x.cy[k].a<x.cy[k].b
     rotate_left
     ·have hF:=gB.o HM.o HS.o (lD.o (λg=>vR g.2.1));have HF:=η hF;clear hF;go_wp2_with fail
      go_ret;exact⟨qd HF.o,Ij.o _⟩
     by_cases Ju:x.cy[k].b<x.cy[k].c
     rotate_left
     ·have hF:=gB.o HM.o HS.o (lD.o (λg=>Ju g.2.2.1));have HF:=η hF;clear hF;go_wp2_with fail
      go_ret;exact⟨qd HF.o,Ij.o _⟩
     by_cases pC:x.cy[k].c<x.cy[k].d
     rotate_left
     ·have hF:=gB.o HM.o HS.o (lD.o (λg=>pC g.2.2.2.1));have HF:=η hF;clear hF;go_wp2_with fail
      go_ret;exact⟨qd HF.o,Ij.o _⟩
     by_cases BX:x.cy[k].d<=1000
     rotate_left
     ·have hF:=gB.o HM.o HS.o (lD.o (λg=>BX g.2.2.2.2));have HF:=η hF;clear hF;go_wp2_with fail
      go_ret;exact⟨qd HF.o,Ij.o _⟩
     have a3i:Ls at0 x.cy[k]:=⟨tI,vR,Ju,pC,BX⟩;obtain⟨hs1,hs2⟩:=HST.o a3i HK.o;have cW:=η hs1;have cP:=η hs2;clear a3i hs1 hs2;go_wp2_with fail
     go_roundw
     case rel=>exact⟨k+1,by omega,by go_num,by rw [cP.o],cW,by rw [cP.o];exact BX,Ij.o _,L9.o _⟩
     case measure=>simp [ag];omega
    obtain rfl:k=aA x.cy:=by omega
    have HC:Hid (lN x.cy=aO):=by have h1:=HK.o;have h2:=Pv;rw [cU] at h1 h2;exact aE9 BP h1 h2
    have CE:=η (tX.o.below HR.o);have c3:=CE.o.c3;have c4:=CE.o.c4;have c5:=CE.o.c5;have c6:=CE.o.c6;have c7:=CE.o.c7;clear Pv;go_wp2_with fail
    refine(rX _ _ _ _).mono ?_;rintro e w1 ⟨rfl,rfl⟩;cases h3:bZ x.line 0 1099511627776
    ·have HF:=η (mB.o HM.o HS.o HC.o h3);go_wp2_with fail
     go_ret;exact⟨qd HF.o,HD.o⟩
    have G3:=η h3;clear h3;go_wp2_with fail
    refine(rX _ _ _ _).mono ?_;rintro e w1 ⟨rfl,rfl⟩;cases h4:bZ x.bu 0 1099511627776
    ·have HF:=η (zD.o HM.o HS.o HC.o G3.o h4);go_wp2_with fail
     go_ret;exact⟨qd HF.o,HD.o⟩
    have G4:=η h4;clear h4;go_wp2_with fail
    refine(rX _ _ _ _).mono ?_;rintro e w1 ⟨rfl,rfl⟩;cases h5:bZ x.lead 0 1000
    ·have HF:=η (pT.o HM.o HS.o HC.o G3.o G4.o h5);go_wp2_with fail
     go_ret;exact⟨qd HF.o,HD.o⟩
    have G5:=η h5;clear h5;go_wp2_with fail
    refine(rX _ _ _ _).mono ?_;rintro e w1 ⟨rfl,rfl⟩;cases h6:bZ x.tr 1 64
    ·have HF:=η (HW6.o HM.o HS.o HC.o G3.o G4.o G5.o h6);go_wp2_with fail
     go_ret;exact⟨qd HF.o,HD.o⟩
    have G6:=η h6;clear h6;go_wp2_with fail
    refine(rX _ _ _ _).mono ?_;rintro e w1 ⟨rfl,rfl⟩;cases h7:bZ x.bY 1 32
    ·have HF:=η (ZY.o HM.o HS.o HC.o G3.o G4.o G5.o G6.o h7);go_wp2_with fail
     go_ret;exact⟨qd HF.o,HD.o⟩
    have G7:=η h7;clear h7;have HF:=η (HW8.o HM.o HS.o HC.o G3.o G4.o G5.o G6.o G7.o);go_wp2_with fail
    go_ret;exact⟨qd HF.o,HD.o⟩
end Go.Proofs.YtdokipdchlcmeaaGreat
