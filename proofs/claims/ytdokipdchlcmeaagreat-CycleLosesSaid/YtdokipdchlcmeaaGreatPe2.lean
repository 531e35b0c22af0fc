/-
  Several texts in one, for one claim (printed by pack.py).
-/
import Derived.Test.YtdokipdchlcmeaaGreatPe1
import Derived.Below
import Derived.Deep.Heap
import Derived.Laws.OwnMore
import Derived.OrdersHeld
set_option linter.all false
set_option maxRecDepth 100000
set_option maxHeartbeats 12800000
open Array renaming getElem?_eq_some_iff→fY,replicate→l9,getElem?_eq_none→IU,setIfInBounds_comm→YG
open Bool renaming true→aO,false→aP,and_eq_true→jX
open Classical renaming skolem→YN
open Go renaming World→aJ,Value→aN,Calls→aQ,Addr→ai,cell_of_row→bG,maxLen→bK,TypeId→bX,heap_alloc_new→cT,info_parts→dK,Ending→di,wpList_append_own→iw,mem_ready→Bg,ready_mono→FC,frozen_of_row→Jc
open Go.Calls renaming grown_of→FO,quiet_of_same→IX
open Go.Deep renaming blk_setCell_other→Nh,nblk_setCell→YR,blk_alloc_lt→a8D
open Go.Ending renaming returned→aU
open Go.Instr renaming makeSlice→OT
open Go.IntKind renaming i64→aF,wrap_i64→fW
open Go.Obj renaming cells→aK
open Go.Proofs renaming intOf→ag
open Go.Proofs.Tryz renaming prog→aM,underlying53→mD,underlying46→yD,func213→U4,func22→U5,func227→U6,func228→U7,ntmps213→UB,ntmps22→UC,ntmps227→UD,ntmps228→UE,func194→a0I,func265→a0Q,ntmps194→a0b,ntmps265→a0j,func195→aAJ,func281→aAT,ntmps195→aB6
open Go.Region renaming ready→og,binds→zI,Mode→Ci,wanted→JL,free_spec→Zv,noSelect_spec→Zw
open Go.RowKit renaming Below→aa
open Go.RowKit.Below renaming refl→aX,heap_setCell→nB
open Go.Value renaming int→aG,slice→aH,tuple→bB,bool→bM,agg→bO,ownBlock→dx
open Go.World renaming cell?_of_block→gg,ownsRow→jn,setCell→EJ
open Int renaming le_refl→dH,le_trans→jm,eq_ofNat_of_zero_le→Zi
open List renaming length→aA,getElem_mem→cK,length_append→cL,take_length→cU,range→dQ,mem_map→dV,map_append→dY,mem_cons→fC,take_succ_eq_append_getElem→fF,replicate→gN,zipWith→kL,mem_range→nH,mem_iff_getElem→sR,length_singleton→uC,getElem_map→wQ,length_replicate→Cb,map_congr_left→JG,ext_getElem→LM
open Nat renaming le_refl→aZ,zero_le→bL,le_trans→cC,lt_or_ge→rF,mul_le_mul→yC,div_lt_iff_lt_mul→Fy,mod_lt→JH
open Option renaming none→aB,some→aC,getD_some→Og,map_some→a9o
open Or renaming inl→aS,inr→aT
namespace Go.Proofs.YtdokipdchlcmeaaGreat
open Go.Proofs.Tryz Go.RowKit
section
open Go.Lib Go.Sort Go.Shelf Go.Proofs.YtdokipdchlcmeaaGreat.oh
def LX(w0:aJ)(blk off n:Nat)(k:Int->Int)(ok:Int->Prop)(d:Array Int)(a b:Nat):di->aJ->Prop:=λe w'=>e=aU (bB #[])/\∃d':Array Int,cX (fn d) (fn d') a b/\cH k (fn d') a b/\Rw w0 blk off n ok d' w'
theorem cH.o {k:Int->Int} {f g:Nat->Int} {a b:Nat}(h:cH k f a b)(e:∀p,a<=p->p<b->g p=f p):cH k g a b:=λi j h1 h2 h3=>by rw [e i h1 (by omega),e j (by omega) h3];exact h i j h1 h2 h3
theorem sB.o {f g:Nat->Int} {a m b:Nat}(h:sB f a m b)(e:∀p,a<=p->p<b->g p=f p):sB g a m b:=λi j h1 h2 h3 h4=>by rw [e i h1 (by omega),e j (by omega) h4];exact h i j h1 h2 h3 h4
theorem aKc {w0:aJ} {blk off n:Nat} {g:Nat} {cb:Array aN} {cf:Int->Int->Int} {k:Int->Int} {ok:Int->Prop} {d0:Array Int}(T0:sT w0 blk off n g cb cf k ok d0)(cap a m b:Nat)(d:Array Int)(w:aJ)(h:Rw w0 blk off n ok d w)(h1:a<m)(h2:m<b)(h3:b<=n)(hs1:cH k (fn d) a m)(hs2:cH k (fn d) m b)(hx:sB (fn d) a m b)(hA:m=a+1):
 aQ aM 265 #[aH (aC ⟨blk,off,aB⟩) n cap,aG aF (a:Nat),aG aF (m:Nat),aG aF (b:Nat),.func (.func g) #[] cb] w (LX w0 blk off n k ok d a b):=by
 have eg:=T0.enters;have hn:=T0.lt;have mixed:aM.follows .mixedOrders=aO:=by kernel_rfl
 have T:=η T0;have HH:=η h;have cW:=η hs1;have cP:=η hs2;have HX:=η hx;clear T0 h hs1 hs2 hx;have w1:aF.wrap ((m:Int)-(a:Int))=1:=by rw [fW];omega
 have HA:=η hA;have MB:m<=a+1:=by omega
 clear hA;go_enter a0Q,a0j
 go_wp2_with fail
 go_loopg [10,11] (b-m) (λkx s t wr=>∃(i j:Nat),s=aG aF i/\t=aG aF j/\m<=i/\i<=j/\j<=b/\j-i<=kx/\Hid (Rw w0 blk off n ok d wr)/\Hid ((∀p,m<=p->p<i->L k (fn d p) (fn d a))/\∀p,j<=p->p<b->L k (fn d a) (fn d p)))
 case atStart=>exact⟨m,b,rfl,rfl,aZ _,by omega,aZ _,aZ _,HH,λp _ _=>by omega,λp _ _=>by omega⟩
 case round=>
  clear HH;obtain⟨i,j,rfl,rfl,Hi,rR,hjb,ld,S1,HP⟩:=hrel;by_cases hlt:i<j
  ·have nT:(i:Int)<(j:Int):=by omega
   obtain⟨c,hc0⟩:∃q,q=(i+j)/2:=⟨_,rfl⟩;have hcz:((i:Int)+(j:Int))/2=(c:Int):=by omega
   have MQ:i<=c:=by omega
   have Q3:c<j:=by omega
   clear hc0;by_cases hlv:k (fn d c)<k (fn d a)
   ·have mX:Hid ((∀p,m<=p->p<c+1->L k (fn d p) (fn d a))/\∀p,j<=p->p<b->L k (fn d a) (fn d p)):=by
     refine⟨λp q1 q2=> ?_,HP.o.2⟩;by_cases e:p=c
     ·rw [e];exact aS hlv
     exact(cP.o p c q1 (by omega) (by omega)).trans (aS hlv)
    have lH:=η hlv;clear HP hlv;go_wp2_with fail
    obtain⟨iN,fH⟩:∃z9,z9=c:=⟨_,rfl⟩;obtain⟨jN,fD⟩:∃z9,z9=a:=⟨_,rfl⟩;have ea:((c:Int)).toNat=iN:=by omega
    have pa:(0:Int)<=(c:Int):=by omega
    have ba:(c:Int)<(n:Int):=by omega
    have ra:aF.wrap ((c:Int))=(c:Int):=by rw [fW];omega
    have ec:((a:Int)).toNat=jN:=by omega
    have pc:(0:Int)<=(a:Int):=by omega
    have bc:(a:Int)<(n:Int):=by omega
    have rc:aF.wrap ((a:Int))=(a:Int):=by rw [fW];omega
    obtain⟨x,hx⟩:∃x,x=fn d (c):=⟨_,rfl⟩;obtain⟨y,hy⟩:∃x,x=fn d (a):=⟨_,rfl⟩;have la:=S1.o.cl T.o (c) (by omega);have lb:=S1.o.cl T.o (a) (by omega);rw [<-hx,<-fH] at la;rw [<-hy,<-fD] at lb;have hc:=S1.o.cmp T.o (c) (a) (by omega) (by omega);rw [<-hx,<-hy] at hc;have hv:cf x y<0:=by rw [hx,hy];exact(T.o.neg _ _ (S1.o.ok _ (by omega)) (S1.o.ok _ (by omega))).2 lH.o
    have hd:decide (cf x y<0)=aO:=decide_eq_true hv;clear hx hy fH fD;go_wp2_with fail
    go_quiet_grown (first|(go_at_fn g;refine FO (hc _ _)))
    have S2:=η (S1.o.grown nq osq);clear la lb hc S1;generalize grow (wr.drewN nq) osq=w2 at S2 ⊢;clear nq osq ea ec pa pc ba bc ra rc hv hd;go_wp2
    go_roundg (j-(c+1))
    case measure=>omega
    case rel=>exact⟨c+1,j,by go_num,rfl,by omega,by omega,hjb,aZ _,S2,mX⟩
   have mX:Hid ((∀p,m<=p->p<i->L k (fn d p) (fn d a))/\∀p,c<=p->p<b->L k (fn d a) (fn d p)):=by
    refine⟨HP.o.1,λp q1 q2=> ?_⟩;have hl:L k (fn d a) (fn d c):=L.of_le hlv (HX.o a c (aZ _) (by omega) (by omega) (by omega));by_cases e:p=c
    ·rw [e];exact hl
    exact hl.trans (cP.o c p (by omega) (by omega) q2)
   have lH:=η hlv;clear HP hlv;go_wp2_with fail
   obtain⟨iN,fH⟩:∃z9,z9=c:=⟨_,rfl⟩;obtain⟨jN,fD⟩:∃z9,z9=a:=⟨_,rfl⟩;have ea:((c:Int)).toNat=iN:=by omega
   have pa:(0:Int)<=(c:Int):=by omega
   have ba:(c:Int)<(n:Int):=by omega
   have ra:aF.wrap ((c:Int))=(c:Int):=by rw [fW];omega
   have ec:((a:Int)).toNat=jN:=by omega
   have pc:(0:Int)<=(a:Int):=by omega
   have bc:(a:Int)<(n:Int):=by omega
   have rc:aF.wrap ((a:Int))=(a:Int):=by rw [fW];omega
   obtain⟨x,hx⟩:∃x,x=fn d (c):=⟨_,rfl⟩;obtain⟨y,hy⟩:∃x,x=fn d (a):=⟨_,rfl⟩;have la:=S1.o.cl T.o (c) (by omega);have lb:=S1.o.cl T.o (a) (by omega);rw [<-hx,<-fH] at la;rw [<-hy,<-fD] at lb;have hc:=S1.o.cmp T.o (c) (a) (by omega) (by omega);rw [<-hx,<-hy] at hc;have hv:¬cf x y<0:=by intro h9;rw [hx,hy] at h9;have h8:=(T.o.neg _ _ (S1.o.ok _ (by omega)) (S1.o.ok _ (by omega))).1 h9;have h7:=lH.o;omega
   have hd:decide (cf x y<0)=aP:=decide_eq_false hv;clear hx hy fH fD;go_wp2_with fail
   go_quiet_grown (first|(go_at_fn g;refine FO (hc _ _)))
   have S2:=η (S1.o.grown nq osq);clear la lb hc S1;generalize grow (wr.drewN nq) osq=w2 at S2 ⊢;clear nq osq ea ec pa pc ba bc ra rc hv hd;go_wp2
   go_roundg (c-i)
   case measure=>omega
   case rel=>exact⟨i,c,rfl,rfl,Hi,by omega,by omega,aZ _,S2,mX⟩
  have nT:¬(i:Int)<(j:Int):=by omega
  have e:i=j:=by omega
  subst e;have HL:=η (aI7 (k:=k) (f:=fn d) (a:=a) (b:=b) (i:=i) (HA.o▸cP.o) (by omega) (by omega) (λp q1 q2=>HP.o.1 p (by omega) q2) (λp q1 q2=>HP.o.2 p q1 q2));have wi:aF.wrap ((i:Int)-1)=(i:Int)-1:=by rw [fW];omega
  clear HP;go_wp2_with fail
  go_loopg [13] i (λkx s wr=>∃(q:Nat) (dk:Array Int),s=aG aF q/\a<=q/\q+1<=i/\i-q<=kx/\Hid (Rw w0 blk off n ok dk wr)/\Hid (fn dk=dF (fn d) a (a+1) (q+1)))
  case atStart=>exact⟨a,d,rfl,aZ _,by omega,by omega,S1,(vh (fn d) (a:=a) (m:=a+1) (b:=a+1) (aT rfl)).symm⟩
  case round=>
   clear S1;obtain⟨q,dk,rfl,haq,hqi,ld,S1,HF⟩:=hrel;by_cases hlt:q+1<i
   ·have nT:(q:Int)<(i:Int)-1:=by omega
    have cJ:Hid (fn (swp dk q (q+1))=dF (fn d) a (a+1) (q+1+1)):=by show _=_;rw [M6 dk (by rw [S1.o.size];omega) (by rw [S1.o.size];omega),HF.o];exact aJc (fn d) (i:=q+1) (by omega)
    clear HF;go_wp2_with fail
    obtain⟨iN,fH⟩:∃z9,z9=q:=⟨_,rfl⟩;obtain⟨jN,fD⟩:∃z9,z9=q+1:=⟨_,rfl⟩;have ea:((q:Int)).toNat=iN:=by omega
    have pa:(0:Int)<=(q:Int):=by omega
    have ba:(q:Int)<(n:Int):=by omega
    have ra:aF.wrap ((q:Int))=(q:Int):=by rw [fW];omega
    have ec:((q:Int)+1).toNat=jN:=by omega
    have pc:(0:Int)<=(q:Int)+1:=by omega
    have bc:(q:Int)+1<(n:Int):=by omega
    have rc:aF.wrap ((q:Int)+1)=(q:Int)+1:=by rw [fW];omega
    obtain⟨x,hx⟩:∃x,x=fn dk (q):=⟨_,rfl⟩;obtain⟨y,hy⟩:∃x,x=fn dk (q+1):=⟨_,rfl⟩;have S3:Hid (Rw w0 blk off n ok (swp dk (q) (q+1)) ((wr.setCell ⟨blk,off+iN,aB⟩ (aG aF y)).setCell ⟨blk,off+jN,aB⟩ (aG aF x)).drew):=by rw [fH,fD,hx,hy];exact S1.o.swapped T.o (q) (q+1) (by omega) (by omega)
    have ca:=S1.o.c T.o (q) (by omega);have cb:=S1.o.c T.o (q+1) (by omega);have fa:=S1.o.f T.o (q) (by omega);have fb:=S1.o.f T.o (q+1) (by omega);obtain⟨u,cc⟩:=S1.o.c2 T.o (q) (q+1) (by omega) (by omega) (aG aF y);rw [<-fD,<-fH] at cc;rw [<-hx,<-fH] at ca;rw [<-hy,<-fD] at cb;rw [<-fH] at fa;rw [<-fD] at fb;clear S1 hx hy fH fD;go_wp2_with fail
    go_big_region
    clear ca cb cc fa fb;generalize ((wr.setCell ⟨blk,off+iN,aB⟩ (aG aF y)).setCell ⟨blk,off+jN,aB⟩ (aG aF x)).drew=w3 at S3 ⊢;clear ea ec pa pc ba bc ra rc;go_wp2
    go_roundg (i-(q+1))
    case measure=>omega
    case rel=>exact⟨q+1,swp dk q (q+1),by go_num,by omega,by omega,aZ _,S3,cJ⟩
   have nT:¬(q:Int)<(i:Int)-1:=by omega
   have e:q+1=i:=by omega
   go_wp2_with fail
   go_end0
   refine⟨rfl,dk, ?_, ?_,S1.o⟩
   ·rw [HF.o,e];exact HL.o.2
   rw [HF.o,e];exact HL.o.1
theorem aKd {w0:aJ} {blk off n:Nat} {g:Nat} {cb:Array aN} {cf:Int->Int->Int} {k:Int->Int} {ok:Int->Prop} {d0:Array Int}(T0:sT w0 blk off n g cb cf k ok d0)(cap a m b:Nat)(d:Array Int)(w:aJ)(h:Rw w0 blk off n ok d w)(h1:a<m)(h2:m<b)(h3:b<=n)(hs1:cH k (fn d) a m)(hs2:cH k (fn d) m b)(hx:sB (fn d) a m b)(hA:m≠a+1)(hB:b=m+1):
 aQ aM 265 #[aH (aC ⟨blk,off,aB⟩) n cap,aG aF (a:Nat),aG aF (m:Nat),aG aF (b:Nat),.func (.func g) #[] cb] w (LX w0 blk off n k ok d a b):=by
 have eg:=T0.enters;have hn:=T0.lt;have mixed:aM.follows .mixedOrders=aO:=by kernel_rfl
 have T:=η T0;have HH:=η h;have cW:=η hs1;have cP:=η hs2;have HX:=η hx;clear T0 h hs1 hs2 hx;have w1:aF.wrap ((m:Int)-(a:Int))=(m:Int)-(a:Int):=by rw [fW];omega
 have n1:((m:Int)-(a:Int)==1)=aP:=by rw [beq_eq_false_iff_ne];omega
 have w2:aF.wrap ((b:Int)-(m:Int))=1:=by rw [fW];omega
 have HB:=η hB;have VF:b<=m+1:=by omega
 clear hB;go_enter a0Q,a0j
 go_wp2_with fail
 go_loopg [14,15] (m-a) (λkx s t wr=>∃(i j:Nat),s=aG aF i/\t=aG aF j/\a<=i/\i<=j/\j<=m/\j-i<=kx/\Hid (Rw w0 blk off n ok d wr)/\Hid ((∀p,a<=p->p<i->L k (fn d p) (fn d m))/\∀p,j<=p->p<m->L k (fn d m) (fn d p)))
 case atStart=>exact⟨a,m,rfl,rfl,aZ _,by omega,aZ _,aZ _,HH,λp _ _=>by omega,λp _ _=>by omega⟩
 case round=>
  clear HH;obtain⟨i,j,rfl,rfl,hai,rR,hjm,ld,S1,HP⟩:=hrel;by_cases hlt:i<j
  ·have nT:(i:Int)<(j:Int):=by omega
   obtain⟨c,hc0⟩:∃q,q=(i+j)/2:=⟨_,rfl⟩;have hcz:((i:Int)+(j:Int))/2=(c:Int):=by omega
   have MQ:i<=c:=by omega
   have Q3:c<j:=by omega
   clear hc0;by_cases hlv:k (fn d m)<k (fn d c)
   ·have mX:Hid ((∀p,a<=p->p<i->L k (fn d p) (fn d m))/\∀p,c<=p->p<m->L k (fn d m) (fn d p)):=by
     refine⟨HP.o.1,λp q1 q2=> ?_⟩;by_cases e:p=c
     ·rw [e];exact aS hlv
     exact L.trans (aS hlv) (cW.o c p (by omega) (by omega) q2)
    have lH:=η hlv;clear HP hlv;go_wp2_with fail
    obtain⟨iN,fH⟩:∃z9,z9=m:=⟨_,rfl⟩;obtain⟨jN,fD⟩:∃z9,z9=c:=⟨_,rfl⟩;have ea:((m:Int)).toNat=iN:=by omega
    have pa:(0:Int)<=(m:Int):=by omega
    have ba:(m:Int)<(n:Int):=by omega
    have ra:aF.wrap ((m:Int))=(m:Int):=by rw [fW];omega
    have ec:((c:Int)).toNat=jN:=by omega
    have pc:(0:Int)<=(c:Int):=by omega
    have bc:(c:Int)<(n:Int):=by omega
    have rc:aF.wrap ((c:Int))=(c:Int):=by rw [fW];omega
    obtain⟨x,hx⟩:∃x,x=fn d (m):=⟨_,rfl⟩;obtain⟨y,hy⟩:∃x,x=fn d (c):=⟨_,rfl⟩;have la:=S1.o.cl T.o (m) (by omega);have lb:=S1.o.cl T.o (c) (by omega);rw [<-hx,<-fH] at la;rw [<-hy,<-fD] at lb;have hc:=S1.o.cmp T.o (m) (c) (by omega) (by omega);rw [<-hx,<-hy] at hc;have hv:cf x y<0:=by rw [hx,hy];exact(T.o.neg _ _ (S1.o.ok _ (by omega)) (S1.o.ok _ (by omega))).2 lH.o
    have hd:decide (cf x y<0)=aO:=decide_eq_true hv;clear hx hy fH fD;go_wp2_with fail
    go_quiet_grown (first|(go_at_fn g;refine FO (hc _ _)))
    have S2:=η (S1.o.grown nq osq);clear la lb hc S1;generalize grow (wr.drewN nq) osq=w2 at S2 ⊢;clear nq osq ea ec pa pc ba bc ra rc hv hd;go_wp2
    go_roundg (c-i)
    case measure=>omega
    case rel=>exact⟨i,c,rfl,rfl,hai,by omega,by omega,aZ _,S2,mX⟩
   have mX:Hid ((∀p,a<=p->p<c+1->L k (fn d p) (fn d m))/\∀p,j<=p->p<m->L k (fn d m) (fn d p)):=by
    refine⟨λp q1 q2=> ?_,HP.o.2⟩;have hl:L k (fn d c) (fn d m):=L.of_le hlv (HX.o c m (by omega) (by omega) (aZ _) (by omega));by_cases e:p=c
    ·rw [e];exact hl
    exact(cW.o p c q1 (by omega) (by omega)).trans hl
   have lH:=η hlv;clear HP hlv;go_wp2_with fail
   obtain⟨iN,fH⟩:∃z9,z9=m:=⟨_,rfl⟩;obtain⟨jN,fD⟩:∃z9,z9=c:=⟨_,rfl⟩;have ea:((m:Int)).toNat=iN:=by omega
   have pa:(0:Int)<=(m:Int):=by omega
   have ba:(m:Int)<(n:Int):=by omega
   have ra:aF.wrap ((m:Int))=(m:Int):=by rw [fW];omega
   have ec:((c:Int)).toNat=jN:=by omega
   have pc:(0:Int)<=(c:Int):=by omega
   have bc:(c:Int)<(n:Int):=by omega
   have rc:aF.wrap ((c:Int))=(c:Int):=by rw [fW];omega
   obtain⟨x,hx⟩:∃x,x=fn d (m):=⟨_,rfl⟩;obtain⟨y,hy⟩:∃x,x=fn d (c):=⟨_,rfl⟩;have la:=S1.o.cl T.o (m) (by omega);have lb:=S1.o.cl T.o (c) (by omega);rw [<-hx,<-fH] at la;rw [<-hy,<-fD] at lb;have hc:=S1.o.cmp T.o (m) (c) (by omega) (by omega);rw [<-hx,<-hy] at hc;have hv:¬cf x y<0:=by intro h9;rw [hx,hy] at h9;have h8:=(T.o.neg _ _ (S1.o.ok _ (by omega)) (S1.o.ok _ (by omega))).1 h9;have h7:=lH.o;omega
   have hd:decide (cf x y<0)=aP:=decide_eq_false hv;clear hx hy fH fD;go_wp2_with fail
   go_quiet_grown (first|(go_at_fn g;refine FO (hc _ _)))
   have S2:=η (S1.o.grown nq osq);clear la lb hc S1;generalize grow (wr.drewN nq) osq=w2 at S2 ⊢;clear nq osq ea ec pa pc ba bc ra rc hv hd;go_wp2
   go_roundg (j-(c+1))
   case measure=>omega
   case rel=>exact⟨c+1,j,by go_num,rfl,by omega,by omega,hjm,aZ _,S2,mX⟩
  have nT:¬(i:Int)<(j:Int):=by omega
  have e:i=j:=by omega
  subst e;have HL:=η (aI6 (k:=k) (f:=fn d) (a:=a) (m:=m) (i:=i) cW.o hai (by omega) HP.o.1 HP.o.2);clear HP;go_wp2_with fail
  go_loopg [17] m (λkx s wr=>∃(q:Nat) (dk:Array Int),s=aG aF q/\i<=q/\q<=m/\q<=kx/\Hid (Rw w0 blk off n ok dk wr)/\Hid (fn dk=dF (fn d) q m (m+1)))
  case atStart=>exact⟨m,d,rfl,by omega,aZ _,aZ _,S1,(vh (fn d) (a:=m) (m:=m) (b:=m+1) (aS rfl)).symm⟩
  case round=>
   clear S1;obtain⟨q,dk,rfl,hiq,hqm,ld,S1,HF⟩:=hrel;by_cases hlt:i<q
   ·have nT:(i:Int)<(q:Int):=by omega
    obtain⟨jp,hjp⟩:∃t,t+1=q:=⟨q-1,by omega⟩;have zjp:(q:Int)=(jp:Int)+1:=by omega
    have aMF:(i:Int)<(jp:Int)+1:=by omega
    have cJ:Hid (fn (swp dk q (q-1))=dF (fn d) (q-1) m (m+1)):=by show _=_;rw [M6 dk (by rw [S1.o.size];omega) (by rw [S1.o.size];omega),HF.o,<-hjp];exact aJY (fn d) (i:=jp) (by omega)
    clear HF;go_wp2_with fail
    obtain⟨iN,fH⟩:∃z9,z9=q:=⟨_,rfl⟩;obtain⟨jN,fD⟩:∃z9,z9=q-1:=⟨_,rfl⟩;have ea:((jp:Int)+1).toNat=iN:=by omega
    have pa:(0:Int)<=(jp:Int)+1:=by omega
    have ba:(jp:Int)+1<(n:Int):=by omega
    have ra:aF.wrap ((jp:Int)+1)=(jp:Int)+1:=by rw [fW];omega
    have ec:((jp:Int)).toNat=jN:=by omega
    have pc:(0:Int)<=(jp:Int):=by omega
    have bc:(jp:Int)<(n:Int):=by omega
    have rc:aF.wrap ((jp:Int))=(jp:Int):=by rw [fW];omega
    obtain⟨x,hx⟩:∃x,x=fn dk (q):=⟨_,rfl⟩;obtain⟨y,hy⟩:∃x,x=fn dk (q-1):=⟨_,rfl⟩;have S3:Hid (Rw w0 blk off n ok (swp dk (q) (q-1)) ((wr.setCell ⟨blk,off+iN,aB⟩ (aG aF y)).setCell ⟨blk,off+jN,aB⟩ (aG aF x)).drew):=by rw [fH,fD,hx,hy];exact S1.o.swapped T.o (q) (q-1) (by omega) (by omega)
    have ca:=S1.o.c T.o (q) (by omega);have cb:=S1.o.c T.o (q-1) (by omega);have fa:=S1.o.f T.o (q) (by omega);have fb:=S1.o.f T.o (q-1) (by omega);obtain⟨u,cc⟩:=S1.o.c2 T.o (q) (q-1) (by omega) (by omega) (aG aF y);rw [<-fD,<-fH] at cc;rw [<-hx,<-fH] at ca;rw [<-hy,<-fD] at cb;rw [<-fH] at fa;rw [<-fD] at fb;clear S1 hx hy fH fD;go_wp2_with fail
    go_big_region
    clear ca cb cc fa fb;generalize ((wr.setCell ⟨blk,off+iN,aB⟩ (aG aF y)).setCell ⟨blk,off+jN,aB⟩ (aG aF x)).drew=w3 at S3 ⊢;clear ea ec pa pc ba bc ra rc;go_wp2
    go_roundg (q-1)
    case measure=>omega
    case rel=>exact⟨q-1,swp dk q (q-1),by first|rfl|go_num|(congr 1;omega),by omega,by omega,aZ _,S3,cJ⟩
   have nT:¬(i:Int)<(q:Int):=by omega
   have e:q=i:=by omega
   go_wp2_with fail
   go_end0
   refine⟨rfl,dk, ?_, ?_,S1.o⟩
   ·rw [HF.o,e,HB.o];exact HL.o.2
   rw [HF.o,e,HB.o];exact HL.o.1
end
section
open Go.Lib Go.Sort Go.Shelf Go.Proofs.YtdokipdchlcmeaaGreat.oh
theorem aKe {w0:aJ} {blk off n:Nat} {g:Nat} {cb:Array aN} {cf:Int->Int->Int} {k:Int->Int} {ok:Int->Prop} {d0:Array Int}(T0:sT w0 blk off n g cb cf k ok d0)(cap a m b:Nat)(d:Array Int)(w:aJ)(h:Rw w0 blk off n ok d w)(h1:a<m)(h2:m<b)(h3:b<=n)(hs1:cH k (fn d) a m)(hs2:cH k (fn d) m b)(hx:sB (fn d) a m b)(_:m≠a+1)(hB:b≠m+1)(mid:Nat)(WC:mid=(a+b)/2)
 (ih:∀(a' m' b':Nat) (d':Array Int) (w':aJ),b'-a'<b-a->a'<m'->m'<b'->b'<=n->Rw w0 blk off n ok d' w'->cH k (fn d') a' m'->cH k (fn d') m' b'->sB (fn d') a' m' b'->aQ aM 265 #[aH (aC ⟨blk,off,aB⟩) n cap,aG aF (a':Nat),aG aF (m':Nat),aG aF (b':Nat),.func (.func g) #[] cb] w' (LX w0 blk off n k ok d' a' b')):
 aQ aM 265 #[aH (aC ⟨blk,off,aB⟩) n cap,aG aF (a:Nat),aG aF (m:Nat),aG aF (b:Nat),.func (.func g) #[] cb] w (LX w0 blk off n k ok d a b):=by
 obtain⟨lo,hi,HC⟩:∃lo hi:Nat,((mid:Int)<(m:Int)/\lo=mid+m-b/\hi=mid)\/(¬(mid:Int)<(m:Int)/\lo=a/\hi=m):=by
  by_cases q:(mid:Int)<(m:Int)
  ·exact⟨_,_,aS ⟨q,rfl,rfl⟩⟩
  exact⟨_,_,aT ⟨q,rfl,rfl⟩⟩
 have eg:=T0.enters;have hn:=T0.lt;have mixed:aM.follows .mixedOrders=aO:=by kernel_rfl
 have T:=η T0;have HH:=η h;have cW:=η hs1;have cP:=η hs2;have HX:=η hx;clear T0 h hs1 hs2 hx;have IH:=η ih;clear ih;have w1:aF.wrap ((m:Int)-(a:Int))=(m:Int)-(a:Int):=by rw [fW];omega
 have n1:((m:Int)-(a:Int)==1)=aP:=by rw [beq_eq_false_iff_ne];omega
 have w2:aF.wrap ((b:Int)-(m:Int))=(b:Int)-(m:Int):=by rw [fW];omega
 have n2:((b:Int)-(m:Int)==1)=aP:=by rw [beq_eq_false_iff_ne];omega
 have hmz:((a:Int)+(b:Int))/2=(mid:Int):=by omega
 have tF:a+b<=2*mid+1:=by omega
 have xF:2*mid<=a+b:=by omega
 clear WC;rcases HC with⟨mG,nS,DL⟩|⟨mG,nS,DL⟩
 all_goals
  go_enter a0Q,a0j
  go_wp2_with fail
  go_loopg [20,21] (b-a) (λkx s t wr=>∃(i j:Nat),s=aG aF i/\t=aG aF j/\lo<=i/\i<=j/\j<=hi/\j-i<=kx/\Hid (Rw w0 blk off n ok d wr)/\Hid (uy k (fn d) (mid+m) lo hi i j))
  case atStart=>exact⟨lo,hi,by congr 1;omega,by congr 1;omega,aZ _,by omega,aZ _,by omega,HH,uy.start _ _ (by omega)⟩
  case round=>
   clear HH;obtain⟨s,r,rfl,rfl,hs0,hsr,Hm,ld,S1,HP⟩:=hrel;by_cases hlt:s<r
   ·have nT:(s:Int)<(r:Int):=by omega
    obtain⟨c,hc0⟩:∃q,q=(s+r)/2:=⟨_,rfl⟩;have hcz:((s:Int)+(r:Int))/2=(c:Int):=by omega
    have MQ:s<=c:=by omega
    have Q3:c<r:=by omega
    clear hc0;obtain⟨mr,QM⟩:∃z9,z9=mid+m-1-c:=⟨_,rfl⟩;have hpz:(mid:Int)+(m:Int)-1-(c:Int)=(mr:Int):=by omega
    have mK:mr<b:=by omega
    have nV:m<=mr:=by omega
    by_cases hlv:k (fn d mr)<k (fn d c)
    ·have mX:=η (HP.o.left MQ Q3 (QM▸ aS hlv));clear QM;have lH:=η hlv;clear HP hlv;go_wp2_with fail
     obtain⟨iN,fH⟩:∃z9,z9=mr:=⟨_,rfl⟩;obtain⟨jN,fD⟩:∃z9,z9=c:=⟨_,rfl⟩;have ea:((mr:Int)).toNat=iN:=by omega
     have pa:(0:Int)<=(mr:Int):=by omega
     have ba:(mr:Int)<(n:Int):=by omega
     have ra:aF.wrap ((mr:Int))=(mr:Int):=by rw [fW];omega
     have ec:((c:Int)).toNat=jN:=by omega
     have pc:(0:Int)<=(c:Int):=by omega
     have bc:(c:Int)<(n:Int):=by omega
     have rc:aF.wrap ((c:Int))=(c:Int):=by rw [fW];omega
     obtain⟨x,hx⟩:∃x,x=fn d (mr):=⟨_,rfl⟩;obtain⟨y,hy⟩:∃x,x=fn d (c):=⟨_,rfl⟩;have la:=S1.o.cl T.o (mr) (by omega);have lb:=S1.o.cl T.o (c) (by omega);rw [<-hx,<-fH] at la;rw [<-hy,<-fD] at lb;have hc:=S1.o.cmp T.o (mr) (c) (by omega) (by omega);rw [<-hx,<-hy] at hc;have hv:cf x y<0:=by rw [hx,hy];exact(T.o.neg _ _ (S1.o.ok _ (by omega)) (S1.o.ok _ (by omega))).2 lH.o
     have hd:decide (cf x y<0)=aO:=decide_eq_true hv;clear hx hy fH fD;go_wp2_with fail
     go_quiet_grown (first|(go_at_fn g;refine FO (hc _ _)))
     have S2:=η (S1.o.grown nq osq);clear la lb hc S1;generalize grow (wr.drewN nq) osq=w2 at S2 ⊢;clear nq osq ea ec pa pc ba bc ra rc hv hd;go_wp2
     go_roundg (c-s)
     case measure=>omega
     case rel=>exact⟨s,c,rfl,rfl,hs0,by omega,by omega,aZ _,S2,mX⟩
    have mX:=η (HP.o.right MQ Q3 (QM▸L.of_le hlv (HX.o c mr (by omega) (by omega) (by omega) (by omega))));clear QM;have lH:=η hlv;clear HP hlv;go_wp2_with fail
    obtain⟨iN,fH⟩:∃z9,z9=mr:=⟨_,rfl⟩;obtain⟨jN,fD⟩:∃z9,z9=c:=⟨_,rfl⟩;have ea:((mr:Int)).toNat=iN:=by omega
    have pa:(0:Int)<=(mr:Int):=by omega
    have ba:(mr:Int)<(n:Int):=by omega
    have ra:aF.wrap ((mr:Int))=(mr:Int):=by rw [fW];omega
    have ec:((c:Int)).toNat=jN:=by omega
    have pc:(0:Int)<=(c:Int):=by omega
    have bc:(c:Int)<(n:Int):=by omega
    have rc:aF.wrap ((c:Int))=(c:Int):=by rw [fW];omega
    obtain⟨x,hx⟩:∃x,x=fn d (mr):=⟨_,rfl⟩;obtain⟨y,hy⟩:∃x,x=fn d (c):=⟨_,rfl⟩;have la:=S1.o.cl T.o (mr) (by omega);have lb:=S1.o.cl T.o (c) (by omega);rw [<-hx,<-fH] at la;rw [<-hy,<-fD] at lb;have hc:=S1.o.cmp T.o (mr) (c) (by omega) (by omega);rw [<-hx,<-hy] at hc;have hv:¬cf x y<0:=by intro h9;rw [hx,hy] at h9;have h8:=(T.o.neg _ _ (S1.o.ok _ (by omega)) (S1.o.ok _ (by omega))).1 h9;have h7:=lH.o;omega
    have hd:decide (cf x y<0)=aP:=decide_eq_false hv;clear hx hy fH fD;go_wp2_with fail
    go_quiet_grown (first|(go_at_fn g;refine FO (hc _ _)))
    have S2:=η (S1.o.grown nq osq);clear la lb hc S1;generalize grow (wr.drewN nq) osq=w2 at S2 ⊢;clear nq osq ea ec pa pc ba bc ra rc hv hd;go_wp2
    go_roundg (r-(c+1))
    case measure=>omega
    case rel=>exact⟨c+1,r,by go_num,rfl,by omega,by omega,Hm,aZ _,S2,mX⟩
   have nT:¬(s:Int)<(r:Int):=by omega
   have iy:Hid (Cut k (fn d) a m b mid s):=by
    subst nS DL
    first
     |exact HP.o.aE3 hlt (by omega) (by omega) (by omega)
     |exact HP.o.aE4 hlt (by omega) (by omega)
   clear HP;obtain⟨en,hen⟩:∃q,q=mid+m-s:=⟨_,rfl⟩;have hez:(mid:Int)+(m:Int)-(s:Int)=(en:Int):=by omega
   have iY:=η hen;have Vb:en+s<=mid+m:=by omega
   have Vc:mid+m<=en+s:=by omega
   clear hen;by_cases q1:s<m
   ·have f1:(s:Int)<(m:Int):=by omega
    have f5:(mid:Int)<(en:Int):=by omega
    by_cases q2:s<mid
    ·have f2:(s:Int)<(mid:Int):=by omega
     have f6:(m:Int)<(en:Int):=by omega
     by_cases q3:a<s
     ·have f3:(a:Int)<(s:Int):=by omega
      by_cases q4:en<b
      ·have f4:(en:Int)<(b:Int):=by omega
       have HR:=η (RV S1.o T.o (.func (.func g) #[] cb) cap s m en (by omega) (by omega) (by omega));go_wp2_with fail
       refine HR.o.mono ?_;rintro e w2 ⟨rfl,d2,hf2,R2⟩;have cJ:=η hf2;have S2:=η R2;clear hf2 R2 HR;have cO:=η (iy.o.halves cW.o cP.o HX.o);rw [<-iY.o,<-cJ.o] at cO;have HI:=η (IH.o a s mid d2 w2 (by omega) (by omega) (by omega) (by omega) S2.o cO.o.1 cO.o.2.1 cO.o.2.2.1);go_wp2_with fail
       refine HI.o.mono ?_;rintro e w3 ⟨rfl,d3,AB,s3,R3⟩;have dw:=η AB;have jK:=η s3;have S3:=η R3;clear AB s3 R3 HI;have gT:=η (IH.o mid en b d3 w3 (by omega) (by omega) (by omega) (by omega) S3.o (cH.o cO.o.2.2.2.1 λp q1 q2=>dw.o.o p (aT q1)) (cH.o cO.o.2.2.2.2.1 λp q1 q2=>dw.o.o p (aT (by omega))) (sB.o cO.o.2.2.2.2.2 λp q1 q2=>dw.o.o p (aT q1)));go_wp2_with fail
       refine gT.o.mono ?_;rintro e w4 ⟨rfl,d4,AD,s4,R4⟩;have jJ:=η AD;have jL:=η s4;have S4:=η R4;clear AD s4 R4 gT;have HL:=η (iy.o.law cW.o cP.o (by rw [<-iY.o];exact cJ.o) dw.o jK.o jJ.o jL.o (by omega) (by omega));go_wp2_with fail
       all_goals go_end0
       all_goals exact⟨rfl,d4,HL.o.2,HL.o.1,S4.o⟩
      have f4:¬(en:Int)<(b:Int):=by omega
      have HR:=η (RV S1.o T.o (.func (.func g) #[] cb) cap s m en (by omega) (by omega) (by omega));go_wp2_with fail
      refine HR.o.mono ?_;rintro e w2 ⟨rfl,d2,hf2,R2⟩;have cJ:=η hf2;have S2:=η R2;clear hf2 R2 HR;have cO:=η (iy.o.halves cW.o cP.o HX.o);rw [<-iY.o,<-cJ.o] at cO;have HI:=η (IH.o a s mid d2 w2 (by omega) (by omega) (by omega) (by omega) S2.o cO.o.1 cO.o.2.1 cO.o.2.2.1);go_wp2_with fail
      refine HI.o.mono ?_;rintro e w3 ⟨rfl,d3,AB,s3,R3⟩;have dw:=η AB;have jK:=η s3;have S3:=η R3;clear AB s3 R3 HI;have jJ:=η (cX.refl (fn d3) mid b);have jL:Hid (cH k (fn d3) mid b):=cH.o ((show en=b by omega)▸cO.o.2.2.2.1) λp q1 q2=>dw.o.o p (aT (by omega))
      have HL:=η (iy.o.law cW.o cP.o (by rw [<-iY.o];exact cJ.o) dw.o jK.o jJ.o jL.o (by omega) (by omega));go_wp2_with fail
      all_goals go_end0
      all_goals exact⟨rfl,d3,HL.o.2,HL.o.1,S3.o⟩
     have f3:¬(a:Int)<(s:Int):=by omega
     by_cases q4:en<b
     ·have f4:(en:Int)<(b:Int):=by omega
      have HR:=η (RV S1.o T.o (.func (.func g) #[] cb) cap s m en (by omega) (by omega) (by omega));go_wp2_with fail
      refine HR.o.mono ?_;rintro e w2 ⟨rfl,d2,hf2,R2⟩;have cJ:=η hf2;have S2:=η R2;clear hf2 R2 HR;have cO:=η (iy.o.halves cW.o cP.o HX.o);rw [<-iY.o,<-cJ.o] at cO;have dw:=η (cX.refl (fn d2) a mid);have jK:Hid (cH k (fn d2) a mid):=(show s=a by omega)▸cO.o.2.1;have gT:=η (IH.o mid en b d2 w2 (by omega) (by omega) (by omega) (by omega) S2.o (cH.o cO.o.2.2.2.1 λp q1 q2=>dw.o.o p (aT q1)) (cH.o cO.o.2.2.2.2.1 λp q1 q2=>dw.o.o p (aT (by omega))) (sB.o cO.o.2.2.2.2.2 λp q1 q2=>dw.o.o p (aT q1)));go_wp2_with fail
      refine gT.o.mono ?_;rintro e w4 ⟨rfl,d4,AD,s4,R4⟩;have jJ:=η AD;have jL:=η s4;have S4:=η R4;clear AD s4 R4 gT;have HL:=η (iy.o.law cW.o cP.o (by rw [<-iY.o];exact cJ.o) dw.o jK.o jJ.o jL.o (by omega) (by omega));go_wp2_with fail
      all_goals go_end0
      all_goals exact⟨rfl,d4,HL.o.2,HL.o.1,S4.o⟩
     have f4:¬(en:Int)<(b:Int):=by omega
     have HR:=η (RV S1.o T.o (.func (.func g) #[] cb) cap s m en (by omega) (by omega) (by omega));go_wp2_with fail
     refine HR.o.mono ?_;rintro e w2 ⟨rfl,d2,hf2,R2⟩;have cJ:=η hf2;have S2:=η R2;clear hf2 R2 HR;have cO:=η (iy.o.halves cW.o cP.o HX.o);rw [<-iY.o,<-cJ.o] at cO;have dw:=η (cX.refl (fn d2) a mid);have jK:Hid (cH k (fn d2) a mid):=(show s=a by omega)▸cO.o.2.1;have jJ:=η (cX.refl (fn d2) mid b);have jL:Hid (cH k (fn d2) mid b):=cH.o ((show en=b by omega)▸cO.o.2.2.2.1) λp q1 q2=>dw.o.o p (aT (by omega))
     have HL:=η (iy.o.law cW.o cP.o (by rw [<-iY.o];exact cJ.o) dw.o jK.o jJ.o jL.o (by omega) (by omega));go_wp2_with fail
     all_goals go_end0
     all_goals exact⟨rfl,d2,HL.o.2,HL.o.1,S2.o⟩
    have f2:¬(s:Int)<(mid:Int):=by omega
    have f6:¬(m:Int)<(en:Int):=by omega
    by_cases q3:a<s
    ·have f3:(a:Int)<(s:Int):=by omega
     by_cases q4:en<b
     ·have f4:(en:Int)<(b:Int):=by omega
      have cJ:Hid (fn d=dF (fn d) s m en):=(vh _ (aT (by omega))).symm;have cO:=η (iy.o.halves cW.o cP.o HX.o);rw [<-iY.o,<-cJ.o] at cO;have dw:=η (cX.refl (fn d) a mid);have jK:Hid (cH k (fn d) a mid):=(show s=mid by omega)▸cO.o.1;have gT:=η (IH.o mid en b d wr (by omega) (by omega) (by omega) (by omega) S1.o (cH.o cO.o.2.2.2.1 λp q1 q2=>dw.o.o p (aT q1)) (cH.o cO.o.2.2.2.2.1 λp q1 q2=>dw.o.o p (aT (by omega))) (sB.o cO.o.2.2.2.2.2 λp q1 q2=>dw.o.o p (aT q1)));go_wp2_with fail
      refine gT.o.mono ?_;rintro e w4 ⟨rfl,d4,AD,s4,R4⟩;have jJ:=η AD;have jL:=η s4;have S4:=η R4;clear AD s4 R4 gT;have HL:=η (iy.o.law cW.o cP.o (by rw [<-iY.o];exact cJ.o) dw.o jK.o jJ.o jL.o (by omega) (by omega));go_wp2_with fail
      all_goals go_end0
      all_goals exact⟨rfl,d4,HL.o.2,HL.o.1,S4.o⟩
     have f4:¬(en:Int)<(b:Int):=by omega
     have cJ:Hid (fn d=dF (fn d) s m en):=(vh _ (aT (by omega))).symm;have cO:=η (iy.o.halves cW.o cP.o HX.o);rw [<-iY.o,<-cJ.o] at cO;have dw:=η (cX.refl (fn d) a mid);have jK:Hid (cH k (fn d) a mid):=(show s=mid by omega)▸cO.o.1;have jJ:=η (cX.refl (fn d) mid b);have jL:Hid (cH k (fn d) mid b):=cH.o ((show en=b by omega)▸cO.o.2.2.2.1) λp q1 q2=>dw.o.o p (aT (by omega))
     have HL:=η (iy.o.law cW.o cP.o (by rw [<-iY.o];exact cJ.o) dw.o jK.o jJ.o jL.o (by omega) (by omega));go_wp2_with fail
     all_goals go_end0
     all_goals exact⟨rfl,d,HL.o.2,HL.o.1,S1.o⟩
    have f3:¬(a:Int)<(s:Int):=by omega
    by_cases q4:en<b
    ·have f4:(en:Int)<(b:Int):=by omega
     have cJ:Hid (fn d=dF (fn d) s m en):=(vh _ (aT (by omega))).symm;have cO:=η (iy.o.halves cW.o cP.o HX.o);rw [<-iY.o,<-cJ.o] at cO;have dw:=η (cX.refl (fn d) a mid);have jK:Hid (cH k (fn d) a mid):=(show s=mid by omega)▸cO.o.1;have gT:=η (IH.o mid en b d wr (by omega) (by omega) (by omega) (by omega) S1.o (cH.o cO.o.2.2.2.1 λp q1 q2=>dw.o.o p (aT q1)) (cH.o cO.o.2.2.2.2.1 λp q1 q2=>dw.o.o p (aT (by omega))) (sB.o cO.o.2.2.2.2.2 λp q1 q2=>dw.o.o p (aT q1)));go_wp2_with fail
     refine gT.o.mono ?_;rintro e w4 ⟨rfl,d4,AD,s4,R4⟩;have jJ:=η AD;have jL:=η s4;have S4:=η R4;clear AD s4 R4 gT;have HL:=η (iy.o.law cW.o cP.o (by rw [<-iY.o];exact cJ.o) dw.o jK.o jJ.o jL.o (by omega) (by omega));go_wp2_with fail
     all_goals go_end0
     all_goals exact⟨rfl,d4,HL.o.2,HL.o.1,S4.o⟩
    have f4:¬(en:Int)<(b:Int):=by omega
    have cJ:Hid (fn d=dF (fn d) s m en):=(vh _ (aT (by omega))).symm;have cO:=η (iy.o.halves cW.o cP.o HX.o);rw [<-iY.o,<-cJ.o] at cO;have dw:=η (cX.refl (fn d) a mid);have jK:Hid (cH k (fn d) a mid):=(show s=mid by omega)▸cO.o.1;have jJ:=η (cX.refl (fn d) mid b);have jL:Hid (cH k (fn d) mid b):=cH.o ((show en=b by omega)▸cO.o.2.2.2.1) λp q1 q2=>dw.o.o p (aT (by omega))
    have HL:=η (iy.o.law cW.o cP.o (by rw [<-iY.o];exact cJ.o) dw.o jK.o jJ.o jL.o (by omega) (by omega));go_wp2_with fail
    all_goals go_end0
    all_goals exact⟨rfl,d,HL.o.2,HL.o.1,S1.o⟩
   have f1:¬(s:Int)<(m:Int):=by omega
   have f5:¬(mid:Int)<(en:Int):=by omega
   by_cases q2:s<mid
   ·have f2:(s:Int)<(mid:Int):=by omega
    have f6:(m:Int)<(en:Int):=by omega
    by_cases q3:a<s
    ·have f3:(a:Int)<(s:Int):=by omega
     by_cases q4:en<b
     ·have f4:(en:Int)<(b:Int):=by omega
      have cJ:Hid (fn d=dF (fn d) s m en):=(vh _ (aS (by omega))).symm;have cO:=η (iy.o.halves cW.o cP.o HX.o);rw [<-iY.o,<-cJ.o] at cO;have HI:=η (IH.o a s mid d wr (by omega) (by omega) (by omega) (by omega) S1.o cO.o.1 cO.o.2.1 cO.o.2.2.1);go_wp2_with fail
      refine HI.o.mono ?_;rintro e w3 ⟨rfl,d3,AB,s3,R3⟩;have dw:=η AB;have jK:=η s3;have S3:=η R3;clear AB s3 R3 HI;have jJ:=η (cX.refl (fn d3) mid b);have jL:Hid (cH k (fn d3) mid b):=cH.o ((show en=mid by omega)▸cO.o.2.2.2.2.1) λp q1 q2=>dw.o.o p (aT (by omega))
      have HL:=η (iy.o.law cW.o cP.o (by rw [<-iY.o];exact cJ.o) dw.o jK.o jJ.o jL.o (by omega) (by omega));go_wp2_with fail
      all_goals go_end0
      all_goals exact⟨rfl,d3,HL.o.2,HL.o.1,S3.o⟩
     have f4:¬(en:Int)<(b:Int):=by omega
     have cJ:Hid (fn d=dF (fn d) s m en):=(vh _ (aS (by omega))).symm;have cO:=η (iy.o.halves cW.o cP.o HX.o);rw [<-iY.o,<-cJ.o] at cO;have HI:=η (IH.o a s mid d wr (by omega) (by omega) (by omega) (by omega) S1.o cO.o.1 cO.o.2.1 cO.o.2.2.1);go_wp2_with fail
     refine HI.o.mono ?_;rintro e w3 ⟨rfl,d3,AB,s3,R3⟩;have dw:=η AB;have jK:=η s3;have S3:=η R3;clear AB s3 R3 HI;have jJ:=η (cX.refl (fn d3) mid b);have jL:Hid (cH k (fn d3) mid b):=cH.o ((show en=mid by omega)▸cO.o.2.2.2.2.1) λp q1 q2=>dw.o.o p (aT (by omega))
     have HL:=η (iy.o.law cW.o cP.o (by rw [<-iY.o];exact cJ.o) dw.o jK.o jJ.o jL.o (by omega) (by omega));go_wp2_with fail
     all_goals go_end0
     all_goals exact⟨rfl,d3,HL.o.2,HL.o.1,S3.o⟩
    have f3:¬(a:Int)<(s:Int):=by omega
    by_cases q4:en<b
    ·have f4:(en:Int)<(b:Int):=by omega
     have cJ:Hid (fn d=dF (fn d) s m en):=(vh _ (aS (by omega))).symm;have cO:=η (iy.o.halves cW.o cP.o HX.o);rw [<-iY.o,<-cJ.o] at cO;have dw:=η (cX.refl (fn d) a mid);have jK:Hid (cH k (fn d) a mid):=(show s=a by omega)▸cO.o.2.1;have jJ:=η (cX.refl (fn d) mid b);have jL:Hid (cH k (fn d) mid b):=cH.o ((show en=mid by omega)▸cO.o.2.2.2.2.1) λp q1 q2=>dw.o.o p (aT (by omega))
     have HL:=η (iy.o.law cW.o cP.o (by rw [<-iY.o];exact cJ.o) dw.o jK.o jJ.o jL.o (by omega) (by omega));go_wp2_with fail
     all_goals go_end0
     all_goals exact⟨rfl,d,HL.o.2,HL.o.1,S1.o⟩
    have f4:¬(en:Int)<(b:Int):=by omega
    have cJ:Hid (fn d=dF (fn d) s m en):=(vh _ (aS (by omega))).symm;have cO:=η (iy.o.halves cW.o cP.o HX.o);rw [<-iY.o,<-cJ.o] at cO;have dw:=η (cX.refl (fn d) a mid);have jK:Hid (cH k (fn d) a mid):=(show s=a by omega)▸cO.o.2.1;have jJ:=η (cX.refl (fn d) mid b);have jL:Hid (cH k (fn d) mid b):=cH.o ((show en=mid by omega)▸cO.o.2.2.2.2.1) λp q1 q2=>dw.o.o p (aT (by omega))
    have HL:=η (iy.o.law cW.o cP.o (by rw [<-iY.o];exact cJ.o) dw.o jK.o jJ.o jL.o (by omega) (by omega));go_wp2_with fail
    all_goals go_end0
    all_goals exact⟨rfl,d,HL.o.2,HL.o.1,S1.o⟩
   have f2:¬(s:Int)<(mid:Int):=by omega
   have f6:¬(m:Int)<(en:Int):=by omega
   by_cases q3:a<s
   ·have f3:(a:Int)<(s:Int):=by omega
    by_cases q4:en<b
    ·have f4:(en:Int)<(b:Int):=by omega
     have cJ:Hid (fn d=dF (fn d) s m en):=(vh _ (aS (by omega))).symm;have cO:=η (iy.o.halves cW.o cP.o HX.o);rw [<-iY.o,<-cJ.o] at cO;have dw:=η (cX.refl (fn d) a mid);have jK:Hid (cH k (fn d) a mid):=(show s=mid by omega)▸cO.o.1;have jJ:=η (cX.refl (fn d) mid b);have jL:Hid (cH k (fn d) mid b):=cH.o ((show en=mid by omega)▸cO.o.2.2.2.2.1) λp q1 q2=>dw.o.o p (aT (by omega))
     have HL:=η (iy.o.law cW.o cP.o (by rw [<-iY.o];exact cJ.o) dw.o jK.o jJ.o jL.o (by omega) (by omega));go_wp2_with fail
     all_goals go_end0
     all_goals exact⟨rfl,d,HL.o.2,HL.o.1,S1.o⟩
    have f4:¬(en:Int)<(b:Int):=by omega
    have cJ:Hid (fn d=dF (fn d) s m en):=(vh _ (aS (by omega))).symm;have cO:=η (iy.o.halves cW.o cP.o HX.o);rw [<-iY.o,<-cJ.o] at cO;have dw:=η (cX.refl (fn d) a mid);have jK:Hid (cH k (fn d) a mid):=(show s=mid by omega)▸cO.o.1;have jJ:=η (cX.refl (fn d) mid b);have jL:Hid (cH k (fn d) mid b):=cH.o ((show en=mid by omega)▸cO.o.2.2.2.2.1) λp q1 q2=>dw.o.o p (aT (by omega))
    have HL:=η (iy.o.law cW.o cP.o (by rw [<-iY.o];exact cJ.o) dw.o jK.o jJ.o jL.o (by omega) (by omega));go_wp2_with fail
    all_goals go_end0
    all_goals exact⟨rfl,d,HL.o.2,HL.o.1,S1.o⟩
   have f3:¬(a:Int)<(s:Int):=by omega
   by_cases q4:en<b
   ·have f4:(en:Int)<(b:Int):=by omega
    have cJ:Hid (fn d=dF (fn d) s m en):=(vh _ (aS (by omega))).symm;have cO:=η (iy.o.halves cW.o cP.o HX.o);rw [<-iY.o,<-cJ.o] at cO;have dw:=η (cX.refl (fn d) a mid);have jK:Hid (cH k (fn d) a mid):=(show s=mid by omega)▸cO.o.1;have jJ:=η (cX.refl (fn d) mid b);have jL:Hid (cH k (fn d) mid b):=cH.o ((show en=mid by omega)▸cO.o.2.2.2.2.1) λp q1 q2=>dw.o.o p (aT (by omega))
    have HL:=η (iy.o.law cW.o cP.o (by rw [<-iY.o];exact cJ.o) dw.o jK.o jJ.o jL.o (by omega) (by omega));go_wp2_with fail
    all_goals go_end0
    all_goals exact⟨rfl,d,HL.o.2,HL.o.1,S1.o⟩
   have f4:¬(en:Int)<(b:Int):=by omega
   have cJ:Hid (fn d=dF (fn d) s m en):=(vh _ (aS (by omega))).symm;have cO:=η (iy.o.halves cW.o cP.o HX.o);rw [<-iY.o,<-cJ.o] at cO;have dw:=η (cX.refl (fn d) a mid);have jK:Hid (cH k (fn d) a mid):=(show s=mid by omega)▸cO.o.1;have jJ:=η (cX.refl (fn d) mid b);have jL:Hid (cH k (fn d) mid b):=cH.o ((show en=mid by omega)▸cO.o.2.2.2.2.1) λp q1 q2=>dw.o.o p (aT (by omega))
   have HL:=η (iy.o.law cW.o cP.o (by rw [<-iY.o];exact cJ.o) dw.o jK.o jJ.o jL.o (by omega) (by omega));go_wp2_with fail
   all_goals go_end0
   all_goals exact⟨rfl,d,HL.o.2,HL.o.1,S1.o⟩
end
section
open Go.Lib Go.Sort Go.Shelf Go.Proofs.YtdokipdchlcmeaaGreat.oh
theorem Y1 {w0:aJ} {blk off n:Nat} {g:Nat} {cb:Array aN} {cf:Int->Int->Int} {k:Int->Int} {ok:Int->Prop} {d0:Array Int}(T:sT w0 blk off n g cb cf k ok d0)(cap:Nat):∀(N a m b:Nat) (d:Array Int) (w:aJ),b-a<=N->a<m->m<b->b<=n->Rw w0 blk off n ok d w->cH k (fn d) a m->cH k (fn d) m b->sB (fn d) a m b->
 aQ aM 265 #[aH (aC ⟨blk,off,aB⟩) n cap,aG aF (a:Nat),aG aF (m:Nat),aG aF (b:Nat),.func (.func g) #[] cb] w (LX w0 blk off n k ok d a b)
 |0,a,m,b,d,w,hN,h1,h2,_,_,_,_,_=>by omega
 |N+1,a,m,b,d,w,hN,h1,h2,h3,h,hs1,hs2,hx=>by
  by_cases hA:m=a+1
  ·exact aKc T cap a m b d w h h1 h2 h3 hs1 hs2 hx hA
  by_cases hB:b=m+1
  ·exact aKd T cap a m b d w h h1 h2 h3 hs1 hs2 hx hA hB
  exact aKe T cap a m b d w h h1 h2 h3 hs1 hs2 hx hA hB _ rfl λa' m' b' d' w' q1 q2 q3 q4 q5 q6 q7 q8=>Y1 T cap N a' m' b' d' w' (by omega) q2 q3 q4 q5 q6 q7 q8
end
section
open Go.Lib Go.Sort Go.Shelf Go.Proofs.YtdokipdchlcmeaaGreat.oh
def Zz(w0:aJ)(blk off n:Nat)(k:Int->Int)(ok:Int->Prop)(d:Array Int):di->aJ->Prop:=λe w'=>e=aU (bB #[])/\∃d':Array Int,cX (fn d) (fn d') 0 n/\cH k (fn d') 0 n/\Rw w0 blk off n ok d' w'
theorem aKN {w0:aJ} {blk off n:Nat} {g:Nat} {cb:Array aN} {cf:Int->Int->Int} {k:Int->Int} {ok:Int->Prop} {d0:Array Int}(T0:sT w0 blk off n g cb cf k ok d0)(cap:Nat)(d:Array Int)(w:aJ)(h:Rw w0 blk off n ok d w)(ju:n<=1000000)(h0:∀p,p<n->fn d p=p):
 aQ aM 247 #[aH (aC ⟨blk,off,aB⟩) n cap,aG aF (n:Nat),.func (.func g) #[] cb] w (Zz w0 blk off n k ok d):=by
 have T:=η T0;have HH:=η h;have H0:=η h0;go_enter func247,ntmps247
 go_wp2_with fail
 go_loopg [7,8] (n+20) (λkx s t wr=>∃(a b:Nat) (dk:Array Int),s=aG aF a/\t=aG aF b/\b<=a+20/\a+20<=b/\a<=n/\n+20-a<=kx/\Hid (Rw w0 blk off n ok dk wr)/\Hid (cX (fn d) (fn dk) 0 n/\um k n (fn dk) a))
 case atStart=>exact⟨0,20,d,rfl,rfl,by omega,by omega,bL _,by omega,HH,cX.refl _ _ _,um.start H0.o⟩
 case round=>
  obtain⟨a,b,dk,rfl,rfl,hb1,hb2,han,ld,S1,HI⟩:=hrel;by_cases hlt:b<=n
  ·have nT:(b:Int)<=(n:Int):=by omega
   have HC:=η (a4K T.o cap a b dk wr S1.o (by omega) hlt (HI.o.2.rising hlt));go_wp2_with fail
   refine HC.o.mono ?_;rintro e w2 ⟨rfl,d2,gX,s2,R2⟩;have gT:Hid (cX (fn d) (fn d2) 0 n/\um k n (fn d2) b):=by
    have e:b=a+20:=by omega
    subst e;exact⟨HI.o.1.trans (gX.mono (bL _) hlt),HI.o.2.next hlt gX s2⟩
   have S2:=η R2;go_wp2_with fail
   go_roundg (n+20-b)
   case measure=>omega
   case rel=>exact⟨b,b+20,d2,rfl,by go_num,aZ _,aZ _,hlt,aZ _,S2,gT⟩
  have nT:¬(b:Int)<=(n:Int):=by omega
  have HC:=η (a4K T.o cap a n dk wr S1.o han (aZ _) (HI.o.2.rising (aZ _)));go_wp2_with fail
  refine HC.o.mono ?_;rintro e w2 ⟨rfl,d2,gX,s2,R2⟩;have gT:Hid (cX (fn d) (fn d2) 0 n/\yg k n 20 (fn d2)):=⟨HI.o.1.trans (gX.mono (bL _) (aZ _)),HI.o.2.last (by omega) gX s2⟩;have S2:=η R2;go_wp2_with fail
  go_loopg [6,7,8,9] n (λkx s _ _ _ wr=>∃(z:Nat) (dk:Array Int),s=aG aF z/\20<=z/\z<=2*n+20/\n-z<=kx/\Hid (Rw w0 blk off n ok dk wr)/\Hid (cX (fn d) (fn dk) 0 n/\yg k n z (fn dk)))
  case atStart=>exact⟨20,d2,rfl,by omega,by omega,by omega,S2,gT⟩
  case round=>
   obtain⟨z,dz,rfl,hz1,hz2,ld,S1,HB⟩:=hrel;by_cases hlt:z<n
   ·have nT:(z:Int)<(n:Int):=by omega
    obtain⟨wo,rfl⟩:∃wo:aJ,wo=wr:=⟨_,rfl⟩;have O4:Hid (cX (fn d) (fn dz) 0 n/\rE k n z (fn dz) 0):=⟨HB.o.1,HB.o.2.start⟩;go_wp2_with fail
    go_loopg [7,8] (n+2*z) (λkx s t wr=>∃(a b:Nat) (dk:Array Int),s=aG aF a/\t=aG aF b/\b<=a+2*z/\a+2*z<=b/\a<=n/\n+2*z-a<=kx/\Hid (Rw w0 blk off n ok dk wr)/\Hid (cX (fn d) (fn dk) 0 n/\rE k n z (fn dk) a))
    case atStart=>exact⟨0,2*z,dz,rfl,by first|rfl|go_num,by omega,by omega,bL _,by omega,S1,O4⟩
    case round=>
     obtain⟨a,b,dk,rfl,rfl,hb1,hb2,han,ld,S1,HI⟩:=hrel;by_cases rS:b<=n
     ·have W9:(b:Int)<=(n:Int):=by omega
      have HR:=η (HI.o.2.runs (b:=b) (by omega) rS hb1 (by omega));have HC:=η (Y1 T.o cap (b-a) a (a+z) b dk wr (aZ _) (by omega) (by omega) rS S1.o HR.o.1 HR.o.2.1 HR.o.2.2);go_wp2_with fail
      refine HC.o.mono ?_;rintro e w2 ⟨rfl,d2,gX,s2,R2⟩;have gT:Hid (cX (fn d) (fn d2) 0 n/\rE k n z (fn d2) b):=by
       have e:b=a+2*z:=by omega
       subst e;exact⟨HI.o.1.trans (gX.mono (bL _) rS),HI.o.2.next (by omega) rS gX s2⟩
      have S2:=η R2;go_wp2_with fail
      go_roundg (n+2*z-b)
      case measure=>omega
      case rel=>exact⟨b,b+2*z,d2,rfl,by go_num,aZ _,aZ _,rS,aZ _,S2,gT⟩
     have W9:¬(b:Int)<=(n:Int):=by omega
     by_cases hm:a+z<n
     ·have hmz:(a:Int)+(z:Int)<(n:Int):=by omega
      have HR:=η (HI.o.2.runs (b:=n) (by omega) (aZ _) (by omega) (by omega));have HC:=η (Y1 T.o cap (n-a) a (a+z) n dk wr (aZ _) (by omega) hm (aZ _) S1.o HR.o.1 HR.o.2.1 HR.o.2.2);go_wp2_with fail
      refine HC.o.mono ?_;rintro e w2 ⟨rfl,d2,gX,s2,R2⟩;have gT:Hid (cX (fn d) (fn d2) 0 n/\yg k n (2*z) (fn d2)):=⟨HI.o.1.trans (gX.mono (bL _) (aZ _)),HI.o.2.last (by omega) (by omega) gX s2⟩;have S2:=η R2;go_wp2_with fail
      go_roundg (n-2*z)
      case measure=>omega
      case rel=>exact⟨2*z,d2,by first|rfl|go_num|(congr 1;omega),by omega,by omega,aZ _,S2,gT⟩
     have hmz:¬(a:Int)+(z:Int)<(n:Int):=by omega
     have gT:Hid (cX (fn d) (fn dk) 0 n/\yg k n (2*z) (fn dk)):=⟨HI.o.1,HI.o.2.none (by omega) (by omega)⟩;go_wp2_with fail
     go_roundg (n-2*z)
     case measure=>omega
     case rel=>exact⟨2*z,dk,by first|rfl|go_num|(congr 1;omega),by omega,by omega,aZ _,S1,gT⟩
   have nT:¬(z:Int)<(n:Int):=by omega
   go_wp2_with fail
   go_end0
   exact⟨rfl,dz,HB.o.1,HB.o.2.done (by omega),S1.o⟩
theorem a6r {w0:aJ} {blk off n:Nat} {g:Nat} {cb:Array aN} {cf:Int->Int->Int} {k:Int->Int} {ok:Int->Prop} {d0:Array Int}(T0:sT w0 blk off n g cb cf k ok d0)(cap:Nat)(d:Array Int)(w:aJ)(h:Rw w0 blk off n ok d w)(ju:n<=1000000)(h0:∀p,p<n->fn d p=p):
 aQ aM 207 #[aH (aC ⟨blk,off,aB⟩) n cap,.func (.func g) #[] cb] w (Zz w0 blk off n k ok d):=by
 have HC:=η (aKN T0 cap d w h ju h0);go_enter func207,ntmps207
 go_wp2_with fail
 refine HC.o.mono ?_;rintro e w2 ⟨rfl,hd⟩;have HD:=η hd;go_wp2_with fail
 go_end0
 exact⟨rfl,HD.o⟩
end
section
open Go.Lib Go.Proofs.YtdokipdchlcmeaaGreat.DivLaw
theorem aLA(a b:Nat)(w:aJ)(ha:a<18446744073709551616)(hb:b<18446744073709551616):
 aQ aM 294 #[aG .u64 a,aG .u64 b] w λe w'=>e=aU (bO #[aG .u64 ((a*b/18446744073709551616:Nat):Int),aG .u64 ((a*b % 18446744073709551616:Nat):Int)])/\β w w':=by
 have HC:=λW=>η (bits_Mul64 a b ha hb W)
 clear ha hb;generalize a*b/18446744073709551616=H at*;generalize a*b % 18446744073709551616=L at*;go_enter func294,ntmps294
 go_wp2_with fail
 refine(HC _).o.mono ?_;rintro e w' ⟨rfl,rfl⟩;go_wp2_with fail
 exact bodyPost_ret (v:=bO #[aG .u64 (H:Int),aG .u64 (L:Int)]) (by simp [results,results294,go_sem]) rfl ⟨rfl,(aX _ _).alloc (aZ _) _⟩
theorem aL7(hi lo c D M:Nat)(w:aJ)(h2:hi<c)(h3:c<18446744073709551616)(nS:lo<18446744073709551616)(hD:(hi*18446744073709551616+lo)/c=D)(hM:(hi*18446744073709551616+lo) % c=M):
 aQ aM 293 #[bO #[aG .u64 hi,aG .u64 lo],aG .u64 c] w λe w'=>e=aU (bB #[aG .u64 (D:Int),aG .u64 (M:Int),ν 0])/\β w w':=by
 have HC:=λW=>η (aES hi lo c W h2 h3 nS)
 rw [hD,hM] at HC;clear h3 nS hD hM;have z1:((c:Int)==0)=aP:=by grind
 have z3:¬(c:Int)<=(hi:Int):=by omega
 go_enter func293,ntmps293
 go_wp2_with fail
 refine(HC _).o.mono ?_;rintro e w' ⟨rfl,n,rfl⟩;go_wp2_with fail
 go_ret3;exact⟨rfl,below_drewN σ n⟩
theorem aHa(a b c:Nat)(w:aJ)(ha:a<18446744073709551616)(hb:b<18446744073709551616)(h2:a*b/18446744073709551616<c)(h3:c<18446744073709551616):
 aQ aM 290 #[aG .u64 a,aG .u64 b,aG .u64 c] w λe w'=>e=aU (bB #[aG .u64 ((a*b/c:Nat):Int),aG .u64 ((a*b % c:Nat):Int),ν 0])/\β w w':=by
 have HC:=λW=>η (aLA a b W ha hb)
 have e:a*b/18446744073709551616*18446744073709551616+a*b % 18446744073709551616=a*b:=by omega
 have HD:=λW=>η (aL7 (a*b/18446744073709551616) (a*b % 18446744073709551616) c (a*b/c) (a*b % c) W h2 h3 (by omega) (by rw [e]) (by rw [e]))
 clear e ha hb h2 h3;generalize a*b/18446744073709551616=H at*;generalize a*b % 18446744073709551616=L at*;generalize a*b/c=D at*;generalize a*b % c=M at*;go_enter func290,ntmps290
 go_wp2_with fail
 refine(HC _).o.mono ?_;rintro e w1 ⟨rfl,hb1⟩;have HB:=η hb1;clear hb1;go_wp2_with fail
 refine(HD _).o.mono ?_;rintro e w2 ⟨rfl,hb2⟩;have aV:=τ HB hb2;clear hb2;go_wp2_with fail
 go_ret3;exact⟨rfl,aV.o⟩
theorem aJF(T wt S:Nat)(w:aJ)(hT:T<9223372036854775808)(hw:wt<=S)(h0:0<S)(hS:S<9223372036854775808):
 aQ aM 280 #[ν T,ν wt,ν S] w λe w'=>e=aU (bB #[ν ((T*wt/S:Nat):Int),ν ((T*wt % S:Nat):Int),ν 0])/\β w w':=by
 have hm:T*wt<=9223372036854775807*S:=yC (by omega) hw;have DF:T*wt/18446744073709551616<S:=(Fy (by omega)).2 (by omega);have hq:T*wt/S<=T:=by have:=Nat.div_le_div_right (c:=S) (Nat.mul_le_mul_left T hw);grind [Nat.mul_div_cancel]
 have hr:T*wt % S<S:=JH _ h0;have HC:=λW=>η (aHa T wt S W (by omega) (by omega) DF (by omega))
 clear hm DF;generalize T*wt/S=D at*;generalize T*wt % S=M at*;have z1:((S:Int)==0)=aP:=by grind
 have z2:¬(S:Int)<(wt:Int):=by omega
 have z3:¬(T:Int)<0:=by omega
 have z4:¬(wt:Int)<0:=by omega
 go_enter func280,ntmps280
 go_wp2_with fail
 refine(HC _).o.mono ?_;rintro e w1 ⟨rfl,hb1⟩;have HB:=η hb1;clear hb1;go_wp2_with fail
 go_ret3;exact⟨rfl,HB.o⟩
theorem aHc(x:Int)(w:aJ):aQ aM 249 #[aG aF x] w λe w'=>e=aU (bM aP)/\w=w':=by
 go_enter func249,ntmps249
 go_wp2
 go_ret;simp
def Cw(x y:Int):Int:=if x<y then-1 else if y<x then 1 else 0
theorem aDh(x y:Int):Cw x y<0↔x<y:=by grind [Cw]
theorem aDo(x y:Int)(w:aJ):aQ aM 213 #[aG aF x,aG aF y] w λe w'=>e=aU (aG aF (Cw x y))/\w=w':=by
 go_enter U4,UB
 go_wp2_with (go_at_call 249;refine(aHc _ _).mono ?_;rintro e w' ⟨rfl,rfl⟩)
 ·have h:x<y:=by assumption
  go_ret;exact⟨by rw [Cw,ifP h];rfl,rfl⟩
 ·have h:¬x<y:=by omega
  have h2:y<x:=by assumption
  go_ret;exact⟨by rw [Cw,ifN h,ifP h2];rfl,rfl⟩
 have h:¬x<y:=by omega
 have h2:¬y<x:=by omega
 go_ret;exact⟨by rw [Cw,ifN h,ifN h2];rfl,rfl⟩
end
section
open Go.Lib
theorem a4O(x:Int)(w:aJ):aQ aM 256 #[aG aF x] w λe w'=>e=aU (bM (decide (x<0)))/\w=w':=by
 go_enter func256,ntmps256
 go_wp2
 go_ret;exact⟨rfl,rfl⟩
def xN(l:List Int):Bool:=l.any λx=>decide (x<0)
theorem aHh {l:List Int}(h:xN l=aP):∀x∈l,0<=x:=by grind [xN]
theorem a5J {l:List Int}(h:∀k (hk:k<aA l),¬l[k]<0):xN l=aP:=by grind [xN,sR]
theorem aHi {l:List Int} {k:Nat}(hk:k<aA l)(h:l[k]<0):xN l=aO:=by grind [xN,cK]
def a9C(l:List Int)(w:aJ):di->aJ->Prop:=λe w'=>∃n:Int,e=aU (aG aF n)/\decide (0<=n)=xN l/\w=w'
theorem aGZ(l:List Int)(A:Option ai)(c:Nat)(w:aJ)(hs:aW w w.heap.size A (l.map (aG aF)))(hn:aA l<=4611686018427387904):
 aQ aM 279 #[aH A (aA l) c,.func (.func 256) #[] #[]] w (a9C l w):=by
 have HS:=η hs;clear hs;go_enter func279,ntmps279
 go_wp2_with fail
 go_loopw [5,8] (λ_ i wr=>∃k:Nat,k<=aA l/\i=ν k/\Hid (∀j (hj:j<aA l),j<k->0<=l[j])/\wr=w) (λ_ i _=>aA l-(ag i).toNat)
 case atStart=>exact⟨0,bL _,rfl,λj _ h=>by omega,rfl⟩
 case round=>
  obtain⟨k,hk,rfl,HP,rfl⟩:=hrel;by_cases hlt:k<aA l
  ·obtain⟨b,o,rfl,hb,hc⟩:=HS.o.at (k:=k) (by simpa using hlt);rw [wQ] at hc;by_cases hx:l[k]<0
   ·have HT:=η (aHi hlt hx);go_wp2_with (go_at_call 256;refine(a4O _ _).mono ?_;rintro e w' ⟨rfl,rfl⟩)
    go_ret;exact⟨_,rfl,by rw [HT.o];simp,rfl⟩
   have mX:Hid (∀j (hj:j<aA l),j<k+1->0<=l[j]):=by
    intro j hj hjk;by_cases e:j=k
    ·subst e;omega
    exact HP.o j hj (by omega)
   go_wp2_with (go_at_call 256;refine(a4O _ _).mono ?_;rintro e w' ⟨rfl,rfl⟩)
   go_roundw
   case rel=>exact⟨k+1,by omega,by go_num,mX,by first|rfl|trivial⟩
   case measure=>simp [ag];omega
  go_wp2_with fail
  go_ret;exact⟨_,rfl,by rw [a5J λj hj=>by have:=HP.o j hj (by omega);omega];rfl,rfl⟩
theorem aCC(l:List Int)(A:Option ai)(c:Nat)(w:aJ)(hs:aW w w.heap.size A (l.map (aG aF)))(hn:aA l<=4611686018427387904):
 aQ aM 255 #[aH A (aA l) c,.func (.func 256) #[] #[]] w λe w'=>e=aU (bM (xN l))/\w=w':=by
 have HC:=η (aGZ l A c w hs hn);clear hs;go_enter func255,ntmps255
 go_wp2_with fail
 refine HC.o.mono ?_;rintro e w' ⟨n,rfl,hn,rfl⟩;have HN:=η hn;clear hn;go_wp2_with fail
 go_ret;exact⟨by rw [<-HN.o];rfl,rfl⟩
def iF(T:Int)(l:List Int):Int:=if 1024<(aA l) then 6 else if T<0\/xN l=aO then 1 else dL (sumI l)
def wX(T:Int)(l:List Int):Int:=if 1024<(aA l) then 0 else if T<0\/xN l=aO then 0 else gP (sumI l)
theorem a1f(T:Int)(l:List Int)(A:Option ai)(c:Nat)(w:aJ)(hl:∀x∈l,aL x)(hs:aW w w.heap.size A (l.map (aG aF)))(hn:aA l<=bK):
 aQ aM 227 #[ν T,aH A (aA l) c] w λe w'=>e=aU (bB #[ν (wX T l),ν (iF T l)])/\β w w':=by
 unfold bK at hn;by_cases h1:1024<aA l
 ·have e1:wX T l=0:=by grind [wX]
  have e2:iF T l=6:=by grind [iF]
  rw [e1,e2];clear hl hs e1 e2;go_enter U6,UD
  go_wp2_with fail
  go_ret2;exact⟨rfl,aX _ _⟩
 have uL:aA l<=1024:=by omega
 by_cases h2:T<0
 ·have e1:wX T l=0:=by grind [wX]
  have e2:iF T l=1:=by grind [iF]
  rw [e1,e2];clear hl hs e1 e2;go_enter U6,UD
  go_wp2_with fail
  go_ret2;exact⟨rfl,aX _ _⟩
 have HC:=η (aCC l A c w hs (by omega));have VC:decide (T<0)=aP:=decide_eq_false h2;cases h3:xN l
 ·have e1:wX T l=gP (sumI l):=by grind [wX]
  have e2:iF T l=dL (sumI l):=by grind [iF]
  rw [e1,e2];have HD:=η (Dg l A c w hl hs (by omega));rw [h3] at HC;clear hl hs e1 e2 h3;go_enter U6,UD
  go_wp2_with fail
  refine HC.o.mono ?_;rintro e w' ⟨rfl,rfl⟩;go_wp2_with fail
  refine HD.o.mono ?_;rintro e w1 ⟨rfl,hb⟩;have HB:=η hb;clear hb;go_wp2_with fail
  go_ret2;exact⟨rfl,HB.o⟩
 have e1:wX T l=0:=by grind [wX]
 have e2:iF T l=1:=by grind [iF]
 rw [e1,e2];rw [h3] at HC;clear hl hs e1 e2 h3;go_enter U6,UD
 go_wp2_with fail
 refine HC.o.mono ?_;rintro e w' ⟨rfl,rfl⟩;go_wp2_with fail
 go_ret2;exact⟨rfl,aX _ _⟩
end
section
open Go.Lib Go.Sort Go.Shelf Go.Proofs.YtdokipdchlcmeaaGreat.oh Go.Proofs.YtdokipdchlcmeaaGreat.ShareLaw
def fR(w:aJ)(b:Nat)(t:bX)(xs:List Int):Prop:=w.heap[b]? =aC (aK (xs.map (aG aF)).toArray t (0,0))
section
variable {w w':aJ} {b B:Nat} {t:bX} {xs:List Int}
theorem fR.cell(h:fR w b t xs) {i:Nat}(hi:i<aA xs):w.cell? ⟨b,i,aB⟩=aC (aG aF xs[i]):=by rw [bG w b i _ t (0,0) h];simp [hi]
theorem fR.free(h:fR w b t xs)(i:Nat):w.frozen? ⟨b,i,aB⟩=aP:=Jc w b i _ t h
theorem fR.of_block(h:fR w b t xs)(e:w'.heap[b]? =w.heap[b]?):fR w' b t xs:=e.trans h
theorem fR.below(h:fR w b t xs)(hb:b<B)(k:aa B w w'):fR w' b t xs:=h.of_block (k.block b hb)
theorem fR.other(h:fR w b t xs) {a:ai}(v:aN)(hne:b≠a.block):fR (w.setCell a v) b t xs:=h.of_block (Nh w a v b hne)
theorem fR.set(h:fR w b t xs)(i:Nat)(v:Int):fR (w.setCell ⟨b,i,aB⟩ (aG aF v)) b t (xs.set i v):=by unfold fR at*;rw [setCell_eq,mapBlock,Array.getElem?_modify,ifP rfl,h];simp [onCells,List.map_set]
theorem fR.new(w:aJ)(t:bX)(xs:List Int):fR (w.alloc (aK (xs.map (aG aF)).toArray t)) w.heap.size t xs:=cT w _
theorem fR.alloc(h:fR w b t xs)(hb:b<w.heap.size)(o:Obj):fR (w.alloc o) b t xs:=h.of_block (a8D w o b hb)
theorem fR.dh(h:fR w b t xs)(hb:b<B):aW w B (aC ⟨b,0,aB⟩) (xs.map (aG aF)):=by intro j u hu;refine⟨b,0,rfl,hb, ?_⟩;rw [bG w b (0+j) _ t (0,0) h,Nat.zero_add];simpa using hu
end
def eE(n:Nat)(f:Nat->Int):List Int:=(dQ n).map f
theorem qh(n:Nat)(f:Nat->Int):aA (eE n f)=n:=by simp [eE]
theorem Dd {n:Nat} {f:Nat->Int} {i:Nat}(h:i<aA (eE n f)):(eE n f)[i]=f i:=by simp [eE]
theorem Xb {n:Nat} {f g:Nat->Int}(h:∀i,i<n->f i=g i):eE n f=eE n g:=by grind [eE,JG]
theorem a6R {n:Nat} {f:Nat->Int}(k:Nat)(v:Int):(eE n f).set k v=eE n (λi=>if i=k then v else f i):=by
 apply LM
 ·simp [qh]
 grind [Dd]
theorem RY {n k:Nat} {g:Nat->Int}:(eE n (λi=>if i<k then g i else 0)).set k (g k)=eE n (λi=>if i<k+1 then g i else 0):=by rw [a6R];grind
theorem RX {n:Nat} {g:Nat->Int}:eE n (λi=>if i<n then g i else 0)=eE n g:=Xb λi h=>by rw [ifP h]
theorem a6S {n:Nat} {g:Nat->Int}:eE n (λi=>if i<0 then g i else 0)=gN n 0:=by
 apply LM
 ·simp [qh]
 grind [Dd]
theorem a4q(n:Nat):madeCells (aG aF 0).cells n=l9 n (aG aF 0):=by apply Array.toList_inj.1;have e:(aG aF 0).cells= #[aG aF 0]:=rfl;rw [e,toList_madeCells_one];simp
theorem Wx(n:Nat)(hn:n<=1000000)(W:aJ):(OT 53 (aG aF (n:Int)) (aG aF (n:Int))).run aM W= .ok (aH (aC ⟨W.heap.size,0,aB⟩) n n) (W.alloc (aK (l9 n (aG aF 0)) 2)):=by
 have inf:(aM.info? 2).map (λi=>(i.zero,i.size,i.bytes))=aC (aC (ν 0),1,8):=by kernel_rfl
 obtain⟨i0,hi,hz0,hz1,hz2⟩:=dK inf;have h:=run_makeSlice (P:=aM) W 53 2 i0 _ mD hi hz0 aF aF n n (by omega) (dH _) (by rw [hz1];simp;omega) (by rw [hz2];simp;omega) (by omega);grind [a4q]
theorem a4r(n:Nat)(hn:n<=1000000)(W:aJ):(OT 46 (aG aF (n:Int)) (aG aF (n:Int))).run aM W= .ok (aH (aC ⟨W.heap.size,0,aB⟩) n n) (W.alloc (aK (l9 n (aG aF 0)) 3)):=by
 have inf:(aM.info? 3).map (λi=>(i.zero,i.size,i.bytes))=aC (aC (ν 0),1,8):=by kernel_rfl
 obtain⟨i0,hi,hz0,hz1,hz2⟩:=dK inf;have h:=run_makeSlice (P:=aM) W 46 3 i0 _ yD hi hz0 aF aF n n (by omega) (dH _) (by rw [hz1];simp;omega) (by rw [hz2];simp;omega) (by omega);grind [a4q]
theorem aDp(x y:Int)(w:aJ):aQ aM 213 #[aG aF x,aG aF y] w λe w'=>e=aU (aG aF (Cw x y))/\w'=w:=(aDo x y w).mono λ_ _ ⟨a,b⟩=>⟨a,b.symm⟩
theorem aIP(bc br n:Nat)(r:Nat->Int)(x y:Nat)(hx:x<n)(hy:y<n)(w:aJ)(hc:w.cell? ⟨bc,0,aB⟩=aC (aH (aC ⟨br,0,aB⟩) n n))(hr:∀i,i<n->w.cell? ⟨br,i,aB⟩=aC (aG aF (r i))):
 aQ aM 281 #[ν x,ν y,π bc] w λe w'=>e=aU (ν (Cw (r y) (r x)))/\∃q,w'=w.drewN q:=by
 have c1:=hr x hx;have c2:=hr y hy;clear hr;have i1:(0:Int)<=(x:Int):=by omega
 have i2:(x:Int)<(n:Int):=by omega
 have i3:(0:Int)<=(y:Int):=by omega
 have i4:(y:Int)<(n:Int):=by omega
 go_enter aAT,ntmps281
 go_wp2_with fail
 go_quiet ((go_at_call 213;exact IX (aDp _ _ _)))
 go_wp2_with fail
 go_ret;exact⟨rfl,_,rfl⟩
end
section
open Go.Lib Go.Sort Go.Shelf Go.Proofs.YtdokipdchlcmeaaGreat.oh Go.Proofs.YtdokipdchlcmeaaGreat.ShareLaw
def Ordered(r:Nat->Int)(n:Nat)(who:Nat->Nat):Prop:=∀t,t<n->who t<n/\rk r n (who t)=t
def aBj(r:Nat->Int)(n bw:Nat)(w:aJ):di->aJ->Prop:=λe w'=>e=aU (bB #[])/\∃who:Nat->Nat,Ordered r n who/\(∀t,t<n->w'.cell? ⟨bw,t,aB⟩=aC (aG aF (who t:Int)))/\w.grownBy w' (aC bw)
theorem a9M {r:Nat->Int} {x y:Nat}(h:L (λz=> -(r z.toNat)) (x:Int) (y:Int)):ah r x y=aO:=by grind [L,P8]
theorem aIR {r:Nat->Int} {n:Nat} {g:Nat->Int}(hm:cX (λp=>(p:Int)) g 0 n)(hs:cH (λz=> -(r z.toNat)) g 0 n):∃who:Nat->Nat,Ordered r n who/\∀t,t<n->g t=(who t:Int):=by
 have hex:∀t,∃m:Nat,t<n->m<n/\g t=(m:Int):=by
  intro t;by_cases ht:t<n
  ·obtain⟨j,_,hj,e⟩:=hm.to t (bL _) ht;grind
  grind
 obtain⟨who,hw⟩:=YN.1 hex;refine⟨who, ?_,λt ht=>(hw t ht).2⟩;have key:=aFV (n:=n) (f:=λt=>rk r n (who t)) (λt ht=>a6O (hw t ht).1) (λi j rR hj=>by have h1:=hs i j (bL _) rR hj;rw [(hw i (by omega)).2,(hw j hj).2] at h1;exact Xa (hw i (by omega)).1 (a9M h1));exact λt ht=>⟨(hw t ht).1,key t ht⟩
theorem Gl(n:Nat)(f:Nat->Int) {p:Nat}(hp:p<n):fn (eE n f).toArray p=f p:=by grind [fn,eE]
theorem aHY {n:Nat} {f g:Nat->Int}(h:cX f g 0 n)(hf:∀p,p<n->f p=p):∃g',cX (λp=>(p:Int)) g' 0 n/\∀t,t<n->g' t=g t:=by
 refine⟨λp=>if p<n then g p else p,⟨λi _ hi=> ?_,λj _ hj=> ?_,λi hi=> ?_⟩,λt ht=>by simp [ht]⟩
 ·obtain⟨j,_,hj,e⟩:=h.to i (bL _) hi;grind
 ·obtain⟨i,_,hi,e⟩:=h.of j (bL _) hj;grind
 omega
theorem aKA(bc br bw n:Nat)(r:Nat->Int)(w:aJ)(hn:n<=1000000)(hc:w.heap[bc]? =aC (aK #[aH (aC ⟨br,0,aB⟩) n n] 53 (0,0)))(hr:fR w br 2 (eE n r))(hw:fR w bw 3 (eE n λi=>(i:Int)))(h1:bc≠bw)(h2:br≠bw)(h3:bc<w.heap.size)(h4:br<w.heap.size)(h5:bw<w.heap.size):
 aQ aM 207 #[aH (aC ⟨bw,0,aB⟩) n n,.func (.func 281) #[] #[π bc]] w (aBj r n bw w):=by
 have hlen:(eE n λi=>(i:Int)).toArray.size=n:=by simp [qh]
 have hH:Holds (aG aF) w bw 0 (eE n λi=>(i:Int)).toArray:=by
  intro j hj;rw [hlen] at hj;refine⟨?_,hw.free _⟩;have hl:0+j<aA (eE n λi=>(i:Int)):=by rw [qh];omega
  rw [hw.cell hl];grind
 have R:Row1 (aG aF) w bw 0 (eE n λi=>(i:Int)).toArray:=⟨a2d,hH,h5⟩;have T:sT w bw 0 n 281 #[π bc] (λx y=>Cw (r y.toNat) (r x.toNat)) (λz=> -(r z.toNat)) (λx=>∃m:Nat,x=m/\m<n) (eE n λi=>(i:Int)).toArray:=by
  refine⟨R,hlen,by omega,enters_of aAT (by kernel_rfl) rfl, ?_, ?_⟩
  ·rintro m os dk hdk x y ⟨xn,rfl,hx⟩ ⟨yn,rfl,hy⟩;have hg:w.grownBy (sortWorld (aG aF) w bw 0 m dk os) (aC bw):=grownBy_sortedI dk;have e1:(sortWorld (aG aF) w bw 0 m dk os).heap[bc]? =_:=(hg.block bc h3 (λe=>h1 (by injection e))).trans hc;have e2:fR (sortWorld (aG aF) w bw 0 m dk os) br 2 (eE n r):=hr.of_block (hg.block br h4 (λe=>h2 (by injection e)));refine(aIP bc br n r xn yn hx hy _ ?_ ?_).mono ?_
   ·rw [bG _ bc 0 _ 53 (0,0) e1];rfl
   ·intro i hi;rw [e2.cell (by grind [qh]),Dd]
   rintro e w' ⟨rfl,q,rfl⟩;refine⟨by grind,q, #[], ?_⟩;rw [grow_empty]
  grind [aDh]
 have RW:Rw w bw 0 n (λx=>∃m:Nat,x=m/\m<n) (eE n λi=>(i:Int)).toArray w:=⟨hlen,SW.start hH,λp hp=>⟨p,Gl n _ hp,hp⟩⟩;refine(a6r T n _ w RW hn (λp hp=>Gl n _ hp)).mono ?_;rintro e w' ⟨rfl,d',mv,hs,hR⟩;obtain⟨g',mg,DK⟩:=aHY mv (λp hp=>Gl n _ hp);have sg:cH (λz=> -(r z.toNat)) g' 0 n:=λi j a b c=>by rw [DK i (by omega),DK j c];exact hs i j a b c
 obtain⟨who,ho,aMT⟩:=aIR mg sg;refine⟨rfl,who,ho,λt ht=> ?_, ?_⟩
 ·have:=hR.c T t ht;grind
 obtain⟨m,os,e⟩:=hR.sw;rw [e];exact grownBy_sortedI d'
end
section
open Go.Lib Go.Sort Go.Shelf Go.Proofs.YtdokipdchlcmeaaGreat.oh Go.Proofs.YtdokipdchlcmeaaGreat.ShareLaw
def wf(l:List Int):Nat->Int:=λi=>l.getD i 0
theorem KS {l:List Int} {i:Nat}(h:i<aA l):wf l i=l[i]:=by unfold wf;simp [h]
theorem a7O(l:List Int):∀k,k<=aA l->dX (wf l) k=sumI (l.take k)
 |0,_=>by simp [dX,sumI]
 |k+1,h=>by rw [dX,a7O l k (by omega),Xs (by omega),KS (by omega)]
theorem Xz(l:List Int):dX (wf l) (aA l)=sumI l:=by grind [a7O]
theorem aHS {l:List Int}(h:∀x∈l,0<=x):∀x∈l,x<=sumI l:=by
 induction l with
 |nil=>intro x hx;cases hx
 |cons a l ih=>
  have hs:0<=sumI l:=by
   have:∀m:List Int,(∀x∈m,0<=x)->0<=sumI m:=by
    intro m;induction m with
    |nil=>intro _;simp [sumI]
    |cons b m ih2=>
     intro hm;have h1:=hm b (by simp);grind [sumI]
   grind
  have ha:=h a (by simp);grind [sumI]
theorem aJE(T S:Int)(W:Nat->Int)(i:Nat)(w:aJ)(Gv:0<=T)(hT:T<=9223372036854775807)(hw0:0<=W i)(hw:W i<=S)(h0:0<S)(hS:S<=9223372036854775807):
 aQ aM 280 #[ν T,ν (W i),ν S] w λe w'=>e=aU (bB #[ν (quo T S W i),ν (ky T S W i),ν 0])/\β w w':=by
 unfold quo ky;generalize W i=u at*;obtain⟨Tn,rfl⟩:=Zi Gv;obtain⟨un,rfl⟩:=Zi hw0;obtain⟨Sn,rfl⟩:=Zi (show 0<=S by omega);grind [aJF]
structure Ap(w:aJ)(bp br bc bo n:Nat)(ps rs os:List Int)(wr:aJ):Prop where
 p:fR wr bp 2 ps
 r:fR wr br 2 rs
 c:wr.heap[bc]? =aC (aK #[aH (aC ⟨br,0,aB⟩) n n] 53 (0,0))
 o:fR wr bo 3 os
 b:β w wr
 sz:bo<wr.heap.size
 d0:w.heap.size<=bp
 d1:bp<br
 d2:br<bc
 d3:bc<bo
section
variable {w wr w':aJ} {bp br bc bo n:Nat} {ps rs os:List Int}
theorem Ap.cc(h:Ap w bp br bc bo n ps rs os wr):wr.cell? ⟨bc,0,aB⟩=aC (aH (aC ⟨br,0,aB⟩) n n):=by rw [bG _ _ 0 _ 53 (0,0) h.c];rfl
theorem Ap.below(h:Ap w bp br bc bo n ps rs os wr)(hb:aa wr.heap.size wr w'):Ap w bp br bc bo n ps rs os w':=by have s:=h.sz;have d0:=h.d0;have d1:=h.d1;have d2:=h.d2;have d3:=h.d3;exact⟨h.p.below (by omega) hb,h.r.below (by omega) hb,(hb.block _ (by omega)).trans h.c,h.o.below (by omega) hb,h.b.trans (hb.mono (by omega)),by have:=hb.size;omega,d0,d1,d2,d3⟩
theorem Ap.eT(h:Ap w bp br bc bo n ps rs os wr)(i:Nat)(v:Int):Ap w bp br bc bo n (ps.set i v) rs os (wr.setCell ⟨bp,i,aB⟩ (aG aF v)):=by have d0:=h.d0;have d1:=h.d1;have d2:=h.d2;have d3:=h.d3;exact⟨h.p.set i v,h.r.other _ (by dsimp only;omega),(Nh _ _ _ _ (by dsimp only;omega)).trans h.c,h.o.other _ (by dsimp only;omega),h.b.setCell (by dsimp only;omega) _,by rw [YR];exact h.sz,d0,d1,d2,d3⟩
theorem Ap.aJw(h:Ap w bp br bc bo n ps rs os wr)(i:Nat)(v:Int):Ap w bp br bc bo n ps (rs.set i v) os (wr.setCell ⟨br,i,aB⟩ (aG aF v)):=by have d0:=h.d0;have d1:=h.d1;have d2:=h.d2;have d3:=h.d3;exact⟨h.p.other _ (by dsimp only;omega),h.r.set i v,(Nh _ _ _ _ (by dsimp only;omega)).trans h.c,h.o.other _ (by dsimp only;omega),h.b.setCell (by dsimp only;omega) _,by rw [YR];exact h.sz,d0,d1,d2,d3⟩
theorem Ap.aJv(h:Ap w bp br bc bo n ps rs os wr)(i:Nat)(v:Int):Ap w bp br bc bo n ps rs (os.set i v) (wr.setCell ⟨bo,i,aB⟩ (aG aF v)):=by have d0:=h.d0;have d1:=h.d1;have d2:=h.d2;have d3:=h.d3;exact⟨h.p.other _ (by dsimp only;omega),h.r.other _ (by dsimp only;omega),(Nh _ _ _ _ (by dsimp only;omega)).trans h.c,h.o.set i v,h.b.setCell (by dsimp only;omega) _,by rw [YR];exact h.sz,d0,d1,d2,d3⟩
theorem a6H(n:Nat):((gN n (0:Int)).map (aG aF)).toArray=l9 n (aG aF 0):=by simp
theorem Ap.start(w:aJ)(n:Nat):Ap w w.heap.size (w.heap.size+1) (w.heap.size+1+1) (w.heap.size+1+1+1) n (gN n 0) (gN n 0) (gN n 0) ((((w.alloc (aK (l9 n (aG aF 0)) 2)).alloc (aK (l9 n (aG aF 0)) 2)).alloc (aK #[aH (aC ⟨w.heap.size+1,0,aB⟩) n n] 53)).alloc (aK (l9 n (aG aF 0)) 3)):=by
 have n1:=Deep.nblk_alloc;rw [<-a6H];generalize gN n (0:Int)=zs;refine⟨?_, ?_, ?_, ?_, ?_,by grind,by omega,by omega,by omega,by omega⟩
 ·exact(((fR.new w 2 zs).alloc (by rw [n1];omega) _).alloc (by rw [n1,n1];omega) _).alloc (by grind) _
 ·have h:=fR.new (w.alloc (aK (zs.map (aG aF)).toArray 2)) 2 zs;rw [n1] at h;exact(h.alloc (by rw [n1,n1];omega) _).alloc (by grind) _
 ·grind [a8D,Deep.blk_alloc_new]
 ·grind [fR.new]
 exact((σ.alloc (by simp) _).alloc (by simp;omega) _).alloc (by simp;omega) _
structure RC(bp br bc n k b o:Nat)(x:Int)(w:aJ):Prop where
 c:w.cell? ⟨bc,0,aB⟩=aC (aH (aC ⟨br,0,aB⟩) n n)
 l:w.cell? ⟨b,o+k,aB⟩=aC (ν x)
 p:∃u,w.cell? ⟨bp,k,aB⟩=aC u
 pf:w.frozen? ⟨bp,k,aB⟩=aP
 r:∃u,w.cell? ⟨br,k,aB⟩=aC u
 rf:w.frozen? ⟨br,k,aB⟩=aP
end
theorem aKT {f:Nat->Int} {n:Nat}(h:∀i,i<n->0<=f i):∀k,k<=n->dX f k<=dX f n:=by
 induction n with
 |zero=>grind
 |succ n ih=>
  grind [dX]
theorem mk0(n k:Nat)(g:Nat->Int)(hk:k<n):k<aA (eE n (λi=>if i<k then g i else 0)):=by grind [qh]
theorem aCD(T:Int)(l:List Int)(A:Option ai)(c:Nat)(w:aJ)(Gv:0<=T)(hT:T<=9223372036854775807)(hl:∀x∈l,0<=x)(h0:0<sumI l)(hS:sumI l<=9223372036854775807)(hn:aA l<=1024)(hs:aW w w.heap.size A (l.map (aG aF))):
 aQ aM 257 #[ν T,aH A (aA l) c,ν (sumI l)] w λe w'=>e=aU (aH (aC ⟨w.heap.size,0,aB⟩) (aA l) (aA l))/\fR w' w.heap.size 2 (eE (aA l) (ShareLaw.part T (sumI l) (wf l) (aA l)))/\β w w'/\w.heap.size<w'.heap.size:=by
 have HS:=η hs;have HL:=η hl;have Ff:=η (Xz l);have Dx:=η (aHS hl);clear hs hl;have mk1:=Wx (aA l) (by omega);have mk2:=a4r (aA l) (by omega);have KZ:=η (Ap.start w (aA l));generalize hZ:sumI l=S at*;have HZ:=η hZ;clear hZ;obtain⟨W,hW⟩:∃W,W=wf l:=⟨_,rfl⟩;have HW:=η hW;rw [<-hW] at Ff ⊢;clear hW;have mA:Hid (∀i,i<aA l->0<=W i/\W i<=S):=λi hi=>by rw [HW.o,KS hi];exact⟨HL.o _ (cK hi),Dx.o _ (cK hi)⟩
 have Dn:Hid (∀k,k<aA l->0<=quo T S W k/\quo T S W k<=T):=λk hk=>⟨XT h0 Gv (mA.o k hk).1,a6E h0 Gv (mA.o k hk).2⟩
 have lD:Hid (∀k,k<=aA l->0<=dX (quo T S W) k/\dX (quo T S W) k<=T):=λk hk=>by have h9:=(aJD h0 Gv (λi hi=>(mA.o i hi).1) Ff.o).2;exact⟨Rk λi hi=>(Dn.o i (by omega)).1,jm (aKT (λi hi=>(Dn.o i hi).1) k hk) h9⟩
 have eF:Hid (∀k,k<aA l->ShareLaw.part T S W (aA l) k<=T):=λk hk=>aIe h0 Gv Ff.o (mA.o k hk).2
 go_enter func257,ntmps257
 go_wp2_with fail
 clear mk1 mk2;rw [<-a6S (g:=quo T S W)] at KZ;obtain⟨bp,VT⟩:∃z,z=w.heap.size:=⟨_,rfl⟩;generalize w.heap.size+1+1+1=bo at KZ ⊢;generalize w.heap.size+1+1=bc at KZ ⊢;generalize w.heap.size+1=br at KZ ⊢;go_loopw [10,11,25] (λu _ i wr=>∃k:Nat,k<=aA l/\i=ν k/\u=ν (T-dX (quo T S W) k)/\Hid (Ap w w.heap.size br bc bo (aA l) (eE (aA l) (λi=>if i<k then quo T S W i else 0)) (eE (aA l) (λi=>if i<k then ky T S W i else 0)) (eE (aA l) (λi=>if i<k then (i:Int) else 0)) wr)) (λ_ _ i _=>aA l-(ag i).toNat)
 case atStart=>grind [dX]
 case round=>
  clear KZ;obtain⟨k,hk,rfl,rfl,HA⟩:=hrel;by_cases hlt:k<aA l
  ·obtain⟨b,o,rfl,hb,hc0⟩:=HS.o.at (k:=k) (by simpa using hlt);have ex:l[k]=W k:=by rw [HW.o,KS hlt]
   have a3z:0<=W k:=by rw [<-ex];exact HL.o _ (cK hlt)
   have a4A:W k<=S:=by rw [<-ex];exact Dx.o _ (cK hlt)
   rw [wQ,ex] at hc0;have HQ:=λW'=>η (aJE T S W k W' Gv hT a3z a4A h0 hS)
   have jG:=η hc0;clear ex a3z a4A hc0;have HK:Hid (∀W',β wr W'->RC w.heap.size br bc (aA l) k b o (W k) W'):=by intro W' hB;have h2:=HA.o.below hB;exact⟨h2.cc,(h2.b.cell (p:=⟨b,o+k,aB⟩) hb).trans jG.o,⟨_,h2.p.cell (by grind [qh])⟩,h2.p.free k,⟨_,h2.r.cell (by grind [qh])⟩,h2.r.free k⟩
   have tx:=η (HK.o _ ((aX _ _).drew));have d1:=HA.o.d1;have d2:=HA.o.d2;have i1:(0:Int)<=(k:Int):=by omega
   have i2:(k:Int)<(aA l:Int):=by omega
   have n1:¬bc=w.heap.size:=by omega
   have n2:¬b=w.heap.size:=by omega
   have n3:¬bc=br:=by omega
   have n4:¬b=br:=by omega
   have n5:¬br=w.heap.size:=by omega
   have n6:¬w.heap.size=br:=by omega
   have n7:¬w.heap.size=bc:=by omega
   have n8:¬w.heap.size=b:=by omega
   have n9:¬br=bc:=by omega
   have n10:¬br=b:=by omega
   go_wp2_with fail
   go_region_held3 (λw'=>w'.cell? ⟨bc,0,aB⟩=aC (aH (aC ⟨br,0,aB⟩) (aA l) (aA l))/\w'.cell? ⟨b,o+k,aB⟩=aC (ν (W k))) (first|exact⟨tx.o.c,tx.o.l⟩|exact⟨lL.o.c,lL.o.l⟩|go_keep) ((go_at_call 280;refine(HQ _).o.mono ?_;rintro e w1 ⟨rfl,hb1⟩;have aR:=η (((aX wr.heap.size wr).drew).trans hb1);have lL:=η (HK.o w1 aR.o);obtain⟨u1,c1⟩:=lL.o.p;have f1:=lL.o.pf;obtain⟨u2,c2⟩:=lL.o.r;have f2:=lL.o.rf;clear hb1))
   have vy:=η (((HA.o.below aR.o).eT k (quo T S W k)).aJw k (ky T S W k));rw [RY,RY] at vy;generalize (w1.setCell ⟨w.heap.size,k,aB⟩ (ν (quo T S W k))).setCell ⟨br,k,aB⟩ (ν (ky T S W k))=w2 at vy ⊢;clear c1 c2 f1 f2 lL aR HK tx HQ HA n1 n2 n3 n4 n5 n6 n7 n8 n9 n10 u1 u2 i1 i2;have c3:w2.cell? ⟨w.heap.size,k,aB⟩=aC (ν (quo T S W k)):=by rw [vy.o.p.cell (by rw [qh];exact hlt),Dd,ifP (by omega)]
   have c4:w2.cell? ⟨bo,k,aB⟩=aC (ν 0):=by rw [vy.o.o.cell (by rw [qh];exact hlt),Dd,ifN (by omega)]
   have f4:=vy.o.o.free k;have d3:=vy.o.d3;have n1:¬bo=w.heap.size:=by omega
   have n2:¬w.heap.size=bo:=by omega
   have lC:=η (vy.o.aJv k (k:Int));rw [RY (g:=λi=>(i:Int))] at lC;have hb1:=lD.o k hk;have hb2:=Dn.o k hlt;have es:T-dX (quo T S W) k-quo T S W k=T-dX (quo T S W) (k+1):=by rw [dX];omega
   have HES:=η es;clear es;obtain⟨g1,g2⟩:=hb1;obtain⟨g3,g4⟩:=hb2;go_wp2_with fail
   go_roundw
   case rel=>exact⟨k+1,by omega,by go_num,by rw [<-HES.o],lC⟩
   case measure=>simp [ag];omega
  obtain rfl:k=aA l:=by omega
  rw [RX,RX,RX] at HA;have d0:=HA.o.d0;have d1:=HA.o.d1;have d2:=HA.o.d2;have d3:=HA.o.d3;have sz:=HA.o.sz;have HC:=η (aKA bc br bo (aA l) (ky T S W) wr (by omega) HA.o.c HA.o.r HA.o.o (by omega) (by omega) (by omega) (by omega) (by omega));go_wp2_with fail
  refine HC.o.mono ?_;rintro e w2 ⟨rfl,who,ho,hcell,hg⟩;have HO:=η ho;have Ih:=η hcell;have HP:Hid (fR w2 w.heap.size 2 (eE (aA l) (partT T S W (aA l) 0))/\β w w2):=by refine⟨?_,HA.o.b.grown hg (by omega) (λk hk=>by injection hk;omega)⟩;have h1:=HA.o.p.of_block (hg.block _ (by omega) (λe=>by injection e;omega));grind [partT,Xb]
  have Hp:bo<w2.heap.size:=by have:=hg.size;omega
  clear ho hcell hg HC HA;obtain⟨L,hL⟩:∃L,L=left T S W (aA l):=⟨_,rfl⟩;have Aj:=η (N2 (T:=T) (S:=S) (W:=W) (n:=aA l) h0 Ff.o);have Sv:=η (a4h (T:=T) (S:=S) (W:=W) (n:=aA l) h0 Ff.o);have eL:T-dX (quo T S W) (aA l)=L:=by rw [hL];rfl
  have hL0:0<=L:=by rw [hL];exact Aj.o.1
  have hLn:L<=(aA l:Int):=by rw [hL];exact Sv.o
  have CH:=η hL;rw [eL];clear hL eL;go_wp2_with fail
  go_loopw [12,60] (λ_ i wr=>∃t:Nat,(t:Int)<=L/\i=ν t/\bo<wr.heap.size/\Hid (∀t,t<aA l->wr.cell? ⟨bo,t,aB⟩=aC (ν (who t:Int)))/\Hid (fR wr w.heap.size 2 (eE (aA l) (partT T S W (aA l) t))/\β w wr)) (λ_ i _=>aA l-(ag i).toNat)
  case atStart=>exact⟨0,hL0,rfl,Hp,Ih,HP⟩
  case round=>
   clear Ih HP Hp;obtain⟨t,ht,rfl,Hp,Ih,HP⟩:=hrel;by_cases hlt:(t:Int)<L
   ·have Mp:t<aA l:=by omega
    obtain⟨j,hj⟩:∃j,j=who t:=⟨_,rfl⟩;have Vo:j<aA l:=by rw [hj];exact(HO.o t Mp).1
    have Vq:rk (ky T S W) (aA l) j=t:=by rw [hj];exact(HO.o t Mp).2
    have cw:=Ih.o t Mp;rw [<-hj] at cw;have cp:=HP.o.1.cell (i:=j) (by rw [qh];exact Vo);have fp:=HP.o.1.free j;have e0:partT T S W (aA l) t j=quo T S W j:=by grind [partT]
    rw [Dd,e0] at cp;have bU:0<=quo T S W j/\quo T S W j<=T-1:=by refine⟨(Dn.o j Vo).1, ?_⟩;have h7:=eF.o j Vo;unfold ShareLaw.part partT at h7;rw [ifP (by rw [Vq,<-CH.o];omega)] at h7;omega
    obtain⟨g1,g2⟩:=bU;have mX:Hid (fR (wr.setCell ⟨w.heap.size,j,aB⟩ (ν (quo T S W j+1))) w.heap.size 2 (eE (aA l) (partT T S W (aA l) (t+1)))/\β w (wr.setCell ⟨w.heap.size,j,aB⟩ (ν (quo T S W j+1)))):=by
     refine⟨?_,HP.o.2.setCell (by simp) _⟩;have h7:=HP.o.1.set j (quo T S W j+1);have e1:(eE (aA l) (partT T S W (aA l) t)).set j (quo T S W j+1)=eE (aA l) (partT T S W (aA l) (t+1)):=by
      rw [a6R];refine Xb λi hi=> ?_
      grind [partT,XZ]
     rw [e1] at h7;exact h7
    have kE:Hid (∀t,t<aA l->(wr.setCell ⟨w.heap.size,j,aB⟩ (ν (quo T S W j+1))).cell? ⟨bo,t,aB⟩=aC (ν (who t:Int))):=by intro t' zu;rw [gg (w:=wr) (Nh wr _ _ bo (by dsimp only;omega))];exact Ih.o t' zu
    have HJ:=η hj;have HJR:=η Vq;clear hj Vq e0 Ih HP;go_wp2_with fail
    go_roundw
    case rel=>exact⟨t+1,by omega,by go_num,by simpa using Hp,kE,mX⟩
    case measure=>simp [ag];omega
   have e:(L.toNat:Nat)=t:=by omega
   have oT:Hid (fR wr w.heap.size 2 (eE (aA l) (ShareLaw.part T S W (aA l)))/\β w wr):=by refine⟨?_,HP.o.2⟩;have h7:=HP.o.1;rw [<-e,CH.o] at h7;exact h7
   go_wp2_with fail
   go_ret;exact⟨rfl,oT.o.1,oT.o.2,by omega⟩
end
section
open Go.Lib Go.Sort Go.Shelf Go.Proofs.YtdokipdchlcmeaaGreat.oh Go.Proofs.YtdokipdchlcmeaaGreat.ShareLaw
def xV(w:aJ)(xs:List Int)(err:Int):di->aJ->Prop:=λe w'=>∃A c,e=aU (bB #[aH A (aA xs) c,aG aF err])/\aW w' w'.heap.size A (xs.map (aG aF))/\aa w.heap.size w w'
theorem xV.nil(w:aJ)(err:Int)(w':aJ)(h:aa w.heap.size w w'):xV w [] err (aU (bB #[aH aB 0 0,aG aF err])) w':=⟨aB,0,rfl,aW.nil,h⟩
def uz(T:Int)(l:List Int):Int:=if iF T l≠0 then iF T l else if T=0 then 0 else if sumI l=0 then 17 else 0
def uF(T:Int)(l:List Int):List Int:=if iF T l≠0 then [] else if T=0 then gN (aA l) 0 else if sumI l=0 then [] else eE (aA l) (ShareLaw.part T (sumI l) (wf l) (aA l))
structure Fit(T:Int)(l:List Int):Prop where
 len:aA l<=1024
 pos:0<=T
 all:∀x∈l,0<=x
 amt:aL (sumI l)
 val:wX T l=sumI l
theorem a1H {x:Int}(h:dL x=0):aL x:=by grind [dL]
theorem Ph {T:Int} {l:List Int}(h:iF T l=0):Fit T l:=by
 unfold iF at h;by_cases h1:1024<aA l
 ·omega
 rw [ifN h1] at h;by_cases h2:T<0\/xN l=aO
 ·grind
 rw [ifN h2] at h;have hI:=a1H h;refine⟨by omega,by omega,aHh (by grind),hI, ?_⟩;grind [wX,dy]
theorem a7T {l:List Int}(h:∀x∈l,0<=x):0<=sumI l:=by
 rw [<-Xz];refine Rk λi hi=> ?_
 grind [KS,cK]
theorem aJt(w:aJ)(n:Nat):aW (w.alloc (aK (l9 n (aG aF 0)) 2)) (w.alloc (aK (l9 n (aG aF 0)) 2)).heap.size (aC ⟨w.heap.size,0,aB⟩) ((gN n (0:Int)).map (aG aF)):=by have h:=fR.new w 2 (gN n 0);rw [a6H] at h;exact h.dh (by simp)
theorem a7y(T:Int)(l:List Int)(A:Option ai)(c:Nat)(w:aJ)(hT:aL T)(hl:∀x∈l,aL x)(hs:aW w w.heap.size A (l.map (aG aF)))(hn:aA l<=bK):
 aQ aM 228 #[ν T,aH A (aA l) c] w (xV w (uF T l) (uz T l)):=by
 have HC:=η (a1f T l A c w hl hs hn);by_cases h1:iF T l=0
 ·have F:=Ph h1;by_cases h2:T=0
  ·have e1:uz T l=0:=by grind [uz]
   have e2:uF T l=gN (aA l) 0:=by grind [uF]
   rw [e1,e2];rw [h1,F.val] at HC;have mk:=Wx (aA l) (by have:=F.len;omega);have uM:(T==0)=aO:=by simpa using h2
   have h2n:T=0:=h2;subst h2;clear F e1 e2 h1 uM h2n hl hs hT;generalize sumI l=S at*;go_enter U7,UE
   go_wp2_with fail
   refine HC.o.mono ?_;rintro e w1 ⟨rfl,hb1⟩;have HB:=η hb1;clear hb1;go_wp2_with fail
   go_ret2;refine⟨aC ⟨w1.heap.size,0,aB⟩,aA l,by rw [Cb];rfl,aJt w1 (aA l),HB.o.alloc HB.o.size _⟩
  by_cases h3:sumI l=0
  ·have e1:uz T l=17:=by grind [uz]
   have e2:uF T l= []:=by grind [uF]
   rw [e1,e2];rw [h1,F.val,h3] at HC;have uM:(T==0)=aP:=by simpa using h2
   clear F e1 e2 h1 h2 h3 hl hs hT;go_enter U7,UE
   go_wp2_with fail
   refine HC.o.mono ?_;rintro e w1 ⟨rfl,hb1⟩;have HB:=η hb1;clear hb1;go_wp2_with fail
   go_ret2;exact xV.nil _ _ _ HB.o
  have e1:uz T l=0:=by grind [uz]
  have e2:uF T l=eE (aA l) (ShareLaw.part T (sumI l) (wf l) (aA l)):=by grind [uF]
  rw [e1,e2];rw [h1,F.val] at HC;have h0:=a7T F.all;have hI:=F.amt;have hTT:=hT;unfold aL at hI hTT;have HD:Hid (∀W,β w W->aQ aM 257 #[ν T,aH A (aA l) c,ν (sumI l)] W λe w'=>e=aU (aH (aC ⟨W.heap.size,0,aB⟩) (aA l) (aA l))/\fR w' W.heap.size 2 (eE (aA l) (ShareLaw.part T (sumI l) (wf l) (aA l)))/\β W w'/\W.heap.size<w'.heap.size):=λW hW=>
   aCD T l A c W F.pos (by omega) F.all (by omega) (by omega) F.len ((hs.below hW).mono hW.size)
  have uM:(T==0)=aP:=by simpa using h2
  have Gq:(sumI l==0)=aP:=by simpa using h3
  clear F e1 e2 h1 h2 h3 hl hs hT h0 hI hTT;generalize sumI l=S at*;go_enter U7,UE
  go_wp2_with fail
  refine HC.o.mono ?_;rintro e w1 ⟨rfl,hb1⟩;have HB:=η hb1;clear hb1;go_wp2_with fail
  refine(HD.o _ HB.o).mono ?_;rintro e w2 ⟨rfl,hr,hb2,hlt⟩;have HR:=η hr;have aV:=τ HB hb2;clear hr hb2;go_wp2_with fail
  go_ret2;exact⟨aC ⟨w1.heap.size,0,aB⟩,aA l,by rw [qh];rfl,HR.o.dh hlt,aV.o⟩
 have e1:uz T l=iF T l:=by grind [uz]
 have e2:uF T l= []:=by grind [uF]
 rw [e1,e2];have uL:(iF T l==0)=aP:=by simpa using h1
 have h1n:(iF T l !=0)=aO:=by simpa using h1
 clear e1 e2 h1 hl hs hT;generalize iF T l=E at*;generalize wX T l=V at*;go_enter U7,UE
 go_wp2_with fail
 refine HC.o.mono ?_;rintro e w1 ⟨rfl,hb1⟩;have HB:=η hb1;clear hb1;go_wp2_with fail
 go_ret2;exact xV.nil _ _ _ HB.o
def zL(T:Int)(l:List Int):Int:=if iF T l≠0 then iF T l else if sumI l<=T then 0 else uz T l
def dJ(T:Int)(l:List Int):List Int:=if iF T l≠0 then [] else if sumI l<=T then l else uF T l
def SG(l:List Int)(w:aJ):di->aJ->Prop:=λe w'=>∃A c,e=aU (aH A (aA l) c)/\aW w' w'.heap.size A (l.map (aG aF))/\aa w.heap.size w w'
theorem aDQ(l:List Int)(A:Option ai)(c:Nat)(w:aJ)(hn:aA l<=1000000)(hs:aW w w.heap.size A (l.map (aG aF))):
 aQ aM 158 #[aH A (aA l) c] w (SG l w):=by
 have inf:(aM.info? 2).map (λi=>(i.zero,i.size,i.bytes))=aC (aC (ν 0),1,8):=by kernel_rfl
 obtain⟨i0,hi,hz0,hz1,hz2⟩:=dK inf;cases A with
 |none=>
  have e:l= []:=by
   cases l with
   |nil=>rfl
   |cons a l=>
    obtain⟨b,o,h,_⟩:=hs 0 (ν a) (by simp);cases h
  subst e;refine(by first|exact slices_Clone_int_nil 0 c w|exact slices_Clone_nil_f158 0 c w|exact slices_Clone_nil 0 c w:aQ aM 158 #[aH aB 0 c] w _).mono ?_;rintro e w' ⟨rfl,rfl⟩;exact⟨aB,0,rfl,aW.nil,aX _ _⟩
 |some a=>
  have hnews:∀(o:Obj) j u,(l.map (aG aF))[j]? =aC u->(w.alloc o).cell? (a.add j)=aC u:=λob j u hu=>by obtain⟨b,o,e,hb,hc⟩:=hs j u hu;grind [Addr.add,BH]
  have Jt:∀u∈l.map (aG aF),u.oneCell'=aO:=λu hu=>by obtain⟨y,_,rfl⟩:=dV.1 hu;rfl
  have HN:=η hnews;have H1:=η Jt;clear hnews Jt hs;have q22:∀(w:aJ) (a:Option ai) (n c n' c':Nat),(binOp .eql 53 (aH a n c) (aH aB n' c')).run aM w= .ok (bM a.isNone) w:=λw a n c n' c'=>Lib.run_eql_slice_nil w _ _ a n c n' c' mD
  go_enter func158,ntmps158
  go_wp2_with (at_builtin;refine iw _ rfl _ _ 53 rfl w.heap.size 2 i0 (ν 0) 1 8 mD hi hz0 hz1 hz2 rfl (by decide) _ _ _ rfl (World.ownsRow_made w #[] 0 (aZ _) (bL _) rfl) a (aA l) c (l.map (aG aF)) rfl (by simp) (HN.o _) H1.o (by simp only [bK];omega) (by omega) (by simp) ?_)
  intro v' w1 hown hgrow _;have HO:=η hown;have HG:=η hgrow;clear hown hgrow;go_wp2
  go_ret;have hO:w1.ownsRow w.heap.size 2 1 v' (aA l) (l.map (aG aF)):=by simpa using HO.o
  obtain⟨A1,c1,rfl⟩:=bJ hO;exact⟨A1,c1,rfl,aW.cA hO,((aX _ w).alloc (aZ _) _).grown HG.o (by simp) (by grind [dx])⟩
theorem YF(T:Int)(l:List Int)(A:Option ai)(c:Nat)(w:aJ)(hT:aL T)(hl:∀x∈l,aL x)(hs:aW w w.heap.size A (l.map (aG aF)))(hn:aA l<=bK):
 aQ aM 194 #[ν T,aH A (aA l) c] w (xV w (dJ T l) (zL T l)):=by
 have HC:=η (a1f T l A c w hl hs hn);by_cases h1:iF T l=0
 ·have F:=Ph h1;have hlen:=F.len;by_cases h2:sumI l<=T
  ·have e1:zL T l=0:=by grind [zL]
   have e2:dJ T l=l:=by grind [dJ]
   rw [e1,e2];rw [h1,F.val] at HC;have HD:Hid (∀W,β w W->aQ aM 158 #[aH A (aA l) c] W (SG l W)):=λW hW=>aDQ l A c W (by omega) ((hs.below hW).mono hW.size)
   clear F e1 e2 h1 hl hs hT;generalize sumI l=S at*;go_enter a0I,a0b
   go_wp2_with fail
   refine HC.o.mono ?_;rintro e w1 ⟨rfl,hb1⟩;have HB:=η hb1;clear hb1;go_wp2_with fail
   refine(HD.o _ HB.o).mono ?_;rintro e w2 ⟨A2,c2,rfl,hs2,hb2⟩;have cP:=η hs2;have aV:=τ HB hb2;clear hs2 hb2;go_wp2_with fail
   go_ret2;exact⟨A2,c2,rfl,cP.o,aV.o⟩
  have e1:zL T l=uz T l:=by grind [zL]
  have e2:dJ T l=uF T l:=by grind [dJ]
  rw [e1,e2];rw [h1,F.val] at HC;have HD:Hid (∀W,β w W->aQ aM 228 #[ν T,aH A (aA l) c] W (xV W (uF T l) (uz T l))):=λW hW=>a7y T l A c W hT hl ((hs.below hW).mono hW.size) hn
  clear F e1 e2 h1 hl hs hT;generalize sumI l=S at*;generalize uF T l=zs at*;generalize uz T l=E at*;go_enter a0I,a0b
  go_wp2_with fail
  refine HC.o.mono ?_;rintro e w1 ⟨rfl,hb1⟩;have HB:=η hb1;clear hb1;go_wp2_with fail
  refine(HD.o _ HB.o).mono ?_;rintro e w2 ⟨A2,c2,rfl,hs2,hb2⟩;have cP:=η hs2;have aV:=τ HB hb2;clear hs2 hb2;go_wp2_with fail
  go_ret2;exact⟨A2,c2,rfl,cP.o,aV.o⟩
 have e1:zL T l=iF T l:=by grind [zL]
 have e2:dJ T l= []:=by grind [dJ]
 rw [e1,e2];have uL:(iF T l==0)=aP:=by simpa using h1
 have h1n:(iF T l !=0)=aO:=by simpa using h1
 clear e1 e2 h1 hl hs hT;generalize iF T l=E at*;generalize wX T l=V at*;go_enter a0I,a0b
 go_wp2_with fail
 refine HC.o.mono ?_;rintro e w1 ⟨rfl,hb1⟩;have HB:=η hb1;clear hb1;go_wp2_with fail
 go_ret2;exact xV.nil _ _ _ HB.o
def fitB:List Int->List Int->Bool
 | [],[]=>aO
 |c::cs,p::ps=>decide (0<=p)&&decide (p<=c)&&fitB cs ps
 |_,_=>aP
def oH(cs ps:List Int):List Int:=if fitB cs ps then kL (· - ·) cs ps else []
def zy(cs ps:List Int):Int:=if fitB cs ps then 0 else 1
theorem a2k:∀ {cs ps:List Int},fitB cs ps=aO->aA cs=aA ps
 | [],[],_=>rfl
 |c::cs,p::ps,h=>by simp only [fitB,jX] at h;simp [a2k h.2]
 | [],_::_,h=>by simp [fitB] at h
 |_::_,[],h=>by simp [fitB] at h
theorem Pg:∀ {cs ps:List Int},aA cs=aA ps->(fitB cs ps=aO↔∀i (h:i<aA cs) (h':i<aA ps),0<=ps[i]/\ps[i]<=cs[i])
 | [],[],_=>by simp [fitB]
 |c::cs,p::ps,e=>by
  have ih:=Pg (cs:=cs) (ps:=ps) (by simpa using e);simp only [fitB,jX,decide_eq_true_eq,ih];constructor
  ·rintro⟨h1,h2⟩ i h h';cases i with
   |zero=>exact h1
   |succ i=>grind
  intro h;exact⟨h 0 (by simp) (by simp),λi h1 h2=>h (i+1) (by simpa using h1) (by simpa using h2)⟩
 | [],_::_,e=>by simp at e
 |_::_,[],e=>by simp at e
theorem a2l {cs ps:List Int} {i:Nat}(e:aA cs=aA ps)(h:i<aA cs)(h':i<aA ps)(hn:¬(0<=ps[i]/\ps[i]<=cs[i])):fitB cs ps=aP:=by grind [Pg]
theorem aLb {cs ps:List Int} {k:Nat}(h:k<aA cs)(h':k<aA ps):kL (· - ·) (cs.take (k+1)) (ps.take (k+1))=kL (· - ·) (cs.take k) (ps.take k)++ [cs[k]-ps[k]]:=by rw [fF h,fF h',List.zipWith_append (by simp;omega)];rfl
theorem a9Z(cs ps:List Int)(A A':Option ai)(c c':Nat)(w:aJ)(hcs:∀x∈cs,aL x)(hs:aW w w.heap.size A (cs.map (aG aF)))(hs':aW w w.heap.size A' (ps.map (aG aF)))(hn:aA cs<=1000000):
 aQ aM 195 #[aH A (aA cs) c,aH A' (aA ps) c'] w (xV w (oH cs ps) (zy cs ps)):=by
 by_cases hlen:aA cs=aA ps
 ·have inf:(aM.info? 2).map (λi=>(i.zero,i.size,i.bytes))=aC (aC (ν 0),1,8):=by kernel_rfl
  obtain⟨i0,bj,hz0,hz1,hz2⟩:=dK inf;have HS:=η hs;have TM:=η hs';have HI:=η hcs;have HLEN:=η hlen;rw [<-hlen];clear hs hs' hcs hlen;go_enter aAJ,aB6
  go_wp2_with fail
  go_loopw [6,7,8,16] (λu _ _ i wr=>∃k:Nat,k<=aA cs/\i=ν k/\Hid (∀i (h:i<aA cs) (h':i<aA ps),i<k->0<=ps[i]/\ps[i]<=cs[i])/\Hid (wr.ownsRow w.heap.size 2 1 u (aA (kL (· - ·) (cs.take k) (ps.take k))) ((kL (· - ·) (cs.take k) (ps.take k)).map (aG aF)))/\Hid (β w wr)) (λ_ _ _ i _=>aA cs-(ag i).toNat)
  case atStart=>exact⟨0,bL _,rfl,λi _ _ h=>by omega,⟨by simp,aS ⟨rfl,rfl⟩⟩,aX _ _⟩
  case round=>
   obtain⟨k,hk,rfl,HP,HO,HB⟩:=hrel;have hsz:=HB.o.size;by_cases hlt:k<aA cs
   ·have yO:k<aA ps:=by have:=HLEN.o;omega
    obtain⟨b,o,rfl,hb,hc⟩:=(HS.o.below HB.o).at (k:=k) (by simpa using hlt);obtain⟨b',o',rfl,hb',hc'⟩:=(TM.o.below HB.o).at (k:=k) (by simpa using yO);rw [wQ] at hc hc';have hI:=HI.o cs[k] (cK hlt);unfold aL at hI;obtain⟨DC,hI2⟩:=hI;by_cases hx:ps[k]<0
    ·have HF:=η (a2l HLEN.o hlt yO (by omega));go_wp2_with fail
     go_ret2;have e1:oH cs ps= []:=by unfold oH;rw [HF.o];rfl
     have e2:zy cs ps=1:=by unfold zy;rw [HF.o];rfl
     rw [e1,e2];exact xV.nil _ _ _ HB.o
    by_cases hy:cs[k]<ps[k]
    ·have HF:=η (a2l HLEN.o hlt yO (by omega));go_wp2_with fail
     go_ret2;have e1:oH cs ps= []:=by unfold oH;rw [HF.o];rfl
     have e2:zy cs ps=1:=by unfold zy;rw [HF.o];rfl
     rw [e1,e2];exact xV.nil _ _ _ HB.o
    have mX:Hid (∀i (h:i<aA cs) (h':i<aA ps),i<k+1->0<=ps[i]/\ps[i]<=cs[i]):=by
     intro i h h' hik;by_cases e:i=k
     ·subst e;omega
     exact HP.o i h h' (by omega)
    have HF:=η (aLb hlt yO);have hzl:aA (kL (· - ·) (cs.take k) (ps.take k))<=k:=by grind
    generalize kL (· - ·) (cs.take k) (ps.take k)=ys at*;go_wp2_with (at_builtin;refine iw _ rfl _ _ 53 rfl w.heap.size 2 i0 _ 1 8 mD bj hz0 hz1 hz2 rfl (by decide) _ (aA ys) (ys.map (aG aF)) rfl (HO.o.alloc _) ⟨wr.heap.size,0,aB⟩ 1 1 [ν (cs[k]-ps[k])] rfl rfl (dM _ _ #[_] (by simp)) xQ (by simp only [bK];omega) (by omega) (by simp;omega) ?_)
    intro v' w4 hown1 dE _;have dU:Hid (w4.ownsRow w.heap.size 2 1 v' (aA (kL (· - ·) (cs.take (k+1)) (ps.take (k+1)))) ((kL (· - ·) (cs.take (k+1)) (ps.take (k+1))).map (aG aF))):=by show jn _ _ _ _ _ _ _;rw [HF.o,dY,cL,uC];exact hown1
    have pP:Hid (β w w4):=(HB.o.alloc hsz _).grown dE (by simp;omega) (λj hj=>ei HO.o j hj);clear hown1 dE;go_wp2_with fail
    go_roundw
    case rel=>grind
    case measure=>simp [ag];omega
   obtain rfl:k=aA cs:=by omega
   have HF:=η ((Pg HLEN.o).2 λi h h'=>HP.o i h h' h);have hO:=HO.o;have e9:ps.take (aA cs)=ps:=by rw [HLEN.o,cU]
   rw [cU,e9] at hO;have e1:oH cs ps=kL (· - ·) cs ps:=by unfold oH;rw [HF.o];rfl
   have e2:zy cs ps=0:=by unfold zy;rw [HF.o];rfl
   generalize kL (· - ·) cs ps=zs at hO e1;obtain⟨A1,c1,rfl⟩:=bJ hO;have qJ:=η (aW.cA hO);have xY:=η e1;have mV:=η e2;clear hO e1 e2 e9;go_wp2_with fail
   go_ret2;rw [xY.o,mV.o];exact⟨A1,c1,rfl,qJ.o,HB.o⟩
 have e0:fitB cs ps=aP:=by grind [a2k]
 have e1:oH cs ps= []:=by grind [oH]
 have e2:zy cs ps=1:=by grind [zy]
 rw [e1,e2];clear e0 e1 e2 hs hs' hcs;have h9:((aA cs:Int) !=(aA ps:Int))=aO:=by simp;omega
 have h8:(aA cs==aA ps)=aP:=by simpa using hlen
 go_enter aAJ,aB6
 go_wp2_with fail
 go_ret2;exact xV.nil _ _ _ (aX _ _)
end
def EP(x:ak):Bool:=decide (aA x.ms<=20)&&(decide (aA x.ss<=20)&&decide (aA x.cy<=20))
theorem aF0(x:ak)(w:aJ)(hm:aA x.ms<=bK)(hs:aA x.ss<=bK)(hc:aA x.cy<=bK):
 aQ aM 22 #[x.val] w λe w'=>e=aU (bM (EP x))/\β w w':=by
 have aY:=η (mE w x);have HF:=η (show EP x=(decide (aA x.ms<=20)&&(decide (aA x.ss<=20)&&decide (aA x.cy<=20))) from rfl);unfold bK at hm hs hc;generalize EP x=fb at*;unfold ak.val at*;by_cases h1:aA x.ms<=20
 ·by_cases h2:aA x.ss<=20
  ·by_cases h3:aA x.cy<=20
   ·have HG:Hid (aO=fb):=by grind
    go_enter U5,UC
    go_wp2
    go_ret;exact⟨fP (by rw [<-HG.o];simp;omega),aY⟩
   have HG:Hid (aP=fb):=by grind
   go_enter U5,UC
   go_wp2
   go_ret;exact⟨fP (by rw [<-HG.o];simp;omega),aY⟩
  have HG:Hid (aP=fb):=by grind
  go_enter U5,UC
  go_wp2
  go_ret;exact⟨fP HG,aY⟩
 have HG:Hid (aP=fb):=by grind
 go_enter U5,UC
 go_wp2
 go_ret;exact⟨fP HG,aY⟩
theorem X5(n a b:Int)(w:aJ)(h:a<=n)(h':n<=b):aQ aM 45 #[aG aF n,aG aF a,aG aF b] w λe w'=>e=aU (aG aF n)/\w=w':=by
 go_enter func45,ntmps45
 go_wp2
 go_ret;refine⟨cY ?_,rfl⟩;omega
section
theorem om {w:aJ} {g:Nat} {cs:Array aN} {t:bX}(h:w.heap[g]? =aC (aK cs t (0,0)))(i:Nat)(u:aN):(w.setCell ⟨g,i,aB⟩ u).heap[g]? =aC (aK (cs.setIfInBounds i u) t (0,0)):=by simp [EJ,Array.getElem?_modify,h]
theorem jz {w:aJ} {base:Nat} {e:bX} {size n:Nat} {v:aN} {xs:List aN}(h:w.ownsRow base e size v n xs) {p:ai}(hp:v.ownBlock≠aC p.block)(u:aN):(w.setCell p u).ownsRow base e size v n xs:=by have hg:w.grownBy (w.setCell p u) (aC p.block):=⟨rfl,rfl,rfl,by simp [EJ],λi _ hi=>nB _ _ _ _ (λe=>hi (by rw [e]))⟩;exact h.kept hg (Or.inr hp)
theorem I6 {w:aJ} {base base':Nat} {e e':bX} {size size' n n':Nat} {v v':aN} {xs xs':List aN}(h:w.ownsRow base e size v n xs)(h':w.ownsRow base' e' size' v' n' xs')(hne:e≠e'):v.ownBlock=aB\/v.ownBlock≠v'.ownBlock:=by
 rcases h.2 with⟨rfl,_⟩|⟨g,cap,cur,rfl,_,hh,_⟩
 ·left;rfl
 right;rcases h'.2 with⟨rfl,_⟩|⟨g',cap',cur',rfl,_,Hb,_⟩
 ·simp [dx]
 intro he;have e2:g=g':=by simpa [dx] using he
 subst e2;rw [hh] at Hb;injection Hb with Hb;injection Hb with _ ht;exact hne ht
structure iT(w wr:aJ)(v0 v1 v2:aN)(ms ss:List Pr)(cy:List Cy):Prop where
 box:wr.heap[w.heap.size+1]? =aC (aK #[v0,v1,v2,ν 500,ν 200,ν 1,ν 64,ν 32] 26 (0,0))
 res:wr.heap[w.heap.size]? =aC (aK #[aH aB 0 0,aH aB 0 0,aH aB 0 0,ν 0,ν 0,ν 0,ν 0,ν 0] 26 (0,0))
 o0:wr.ownsRow (w.heap.size+2) 67 2 v0 (aA ms) (jU ms)
 o1:wr.ownsRow (w.heap.size+2) 69 2 v1 (aA ss) (jU ss)
 o2:wr.ownsRow (w.heap.size+2) 71 4 v2 (aA cy) (uI cy)
 wW:β w wr
section
variable {w wr w4:aJ} {v0 v1 v2 v':aN} {ms ss:List Pr} {cy:List Cy} {o:Obj}
theorem iT.lt(h:iT w wr v0 v1 v2 ms ss cy):w.heap.size+1<wr.heap.size:=(fY.1 h.box).1
theorem iT.c(h:iT w wr v0 v1 v2 ms ss cy)(j:Nat):wr.cell? ⟨w.heap.size+1,j,aB⟩=(#[v0,v1,v2,aG aF 500,aG aF 200,aG aF 1,aG aF 64,aG aF 32]:Array aN)[j]? :=bG _ _ _ _ _ (0,0) h.box
theorem iT.f(h:iT w wr v0 v1 v2 ms ss cy)(j:Nat):wr.frozen? ⟨w.heap.size+1,j,aB⟩=aP:=Jc _ _ _ _ _ h.box
theorem iT.r(h:iT w wr v0 v1 v2 ms ss cy)(j:Nat):wr.cell? ⟨w.heap.size,j,aB⟩=(#[aH aB 0 0,aH aB 0 0,aH aB 0 0,aG aF 0,aG aF 0,aG aF 0,aG aF 0,aG aF 0]:Array aN)[j]? :=bG _ _ _ _ _ (0,0) h.res
theorem iT.rf(h:iT w wr v0 v1 v2 ms ss cy)(j:Nat):wr.frozen? ⟨w.heap.size,j,aB⟩=aP:=Jc _ _ _ _ _ h.res
theorem far {base:Nat} {e:bX} {size n:Nat} {v:aN} {xs:List aN}(h:w.ownsRow base e size v n xs) {g:Nat}(hg:g<base):v.ownBlock≠aC g:=λe=>by have:=(h.lt _ e).1;omega
theorem DY {base:Nat} {e:bX} {size n:Nat} {v:aN} {xs:List aN}(h:wr.ownsRow base e size v n xs)(hg:(wr.alloc o).grownBy w4 v.ownBlock) {g:Nat}(hb:g<base)(hl:g<wr.heap.size):w4.heap[g]? =wr.heap[g]? :=
 (hg.block g (by simp;omega) (λe=>far h hb e.symm)).trans (fG _ _ hl)
theorem iT.m(h:iT w wr v0 v1 v2 ms ss cy) {y:Pr}(hown:w4.ownsRow (w.heap.size+2) 67 2 v' (aA ms+1) (jU ms++y.cells))(hg:(wr.alloc o).grownBy w4 v0.ownBlock):iT w (w4.setCell ⟨w.heap.size+1,0,aB⟩ v') v' v1 v2 (ms++ [y]) ss cy:=by
 have hlt:=h.lt;have hsz:=h.wW.size;refine⟨?_, ?_,by rw [show aA (ms++ [y])=aA ms+1 by simp,show jU (ms++ [y])=jU ms++y.cells by simp [jU]];exact jz hown (far hown (by simp)) _,jz ((h.o1.alloc o).kept hg (I6 h.o1 h.o0 (by decide))) (far h.o1 (by simp)) _,jz ((h.o2.alloc o).kept hg (I6 h.o2 h.o0 (by decide))) (far h.o2 (by simp)) _, ?_⟩
 ·rw [om ((DY h.o0 hg (by omega) hlt).trans h.box)];rfl
 ·rw [nB _ _ _ _ (by simp)];exact(DY h.o0 hg (by omega) (by omega)).trans h.res
 exact((h.wW.alloc hsz o).grown hg (by simp;omega) (λj hj=>cC (by omega) (ei h.o0 j hj))).setCell (by simp) _
theorem iT.m0(h:iT w wr v0 v1 v2 ms ss cy)(hg:(wr.alloc o).grownBy w4 v0.ownBlock):w4.cell? ⟨w.heap.size+1,0,aB⟩=aC v0/\w4.frozen? ⟨w.heap.size+1,0,aB⟩=aP/\w.heap.size+1<w4.heap.size:=
 have hb:=(DY h.o0 hg (by omega) h.lt).trans h.box
 ⟨ρ hb,Jc _ _ _ _ _ hb,(fY.1 hb).1⟩
theorem iT.s(h:iT w wr v0 v1 v2 ms ss cy) {y:Pr}(hown:w4.ownsRow (w.heap.size+2) 69 2 v' (aA ss+1) (jU ss++y.cells))(hg:(wr.alloc o).grownBy w4 v1.ownBlock):iT w (w4.setCell ⟨w.heap.size+1,1,aB⟩ v') v0 v' v2 ms (ss++ [y]) cy:=by
 have hlt:=h.lt;have hsz:=h.wW.size;refine⟨?_, ?_,jz ((h.o0.alloc o).kept hg (I6 h.o0 h.o1 (by decide))) (far h.o0 (by simp)) _,by rw [show aA (ss++ [y])=aA ss+1 by simp,show jU (ss++ [y])=jU ss++y.cells by simp [jU]];exact jz hown (far hown (by simp)) _,jz ((h.o2.alloc o).kept hg (I6 h.o2 h.o1 (by decide))) (far h.o2 (by simp)) _, ?_⟩
 ·rw [om ((DY h.o1 hg (by omega) hlt).trans h.box)];rfl
 ·rw [nB _ _ _ _ (by simp)];exact(DY h.o1 hg (by omega) (by omega)).trans h.res
 exact((h.wW.alloc hsz o).grown hg (by simp;omega) (λj hj=>cC (by omega) (ei h.o1 j hj))).setCell (by simp) _
theorem iT.s0(h:iT w wr v0 v1 v2 ms ss cy)(hg:(wr.alloc o).grownBy w4 v1.ownBlock):w4.cell? ⟨w.heap.size+1,1,aB⟩=aC v1/\w4.frozen? ⟨w.heap.size+1,1,aB⟩=aP/\w.heap.size+1<w4.heap.size:=
 have hb:=(DY h.o1 hg (by omega) h.lt).trans h.box
 ⟨ρ hb,Jc _ _ _ _ _ hb,(fY.1 hb).1⟩
theorem iT.y(h:iT w wr v0 v1 v2 ms ss cy) {y:Cy}(hown:w4.ownsRow (w.heap.size+2) 71 4 v' (aA cy+1) (uI cy++y.cells))(hg:(wr.alloc o).grownBy w4 v2.ownBlock):iT w (w4.setCell ⟨w.heap.size+1,2,aB⟩ v') v0 v1 v' ms ss (cy++ [y]):=by
 have hlt:=h.lt;have hsz:=h.wW.size;refine⟨?_, ?_,jz ((h.o0.alloc o).kept hg (I6 h.o0 h.o2 (by decide))) (far h.o0 (by simp)) _,jz ((h.o1.alloc o).kept hg (I6 h.o1 h.o2 (by decide))) (far h.o1 (by simp)) _,by rw [show aA (cy++ [y])=aA cy+1 by simp,show uI (cy++ [y])=uI cy++y.cells by simp [uI]];exact jz hown (far hown (by simp)) _, ?_⟩
 ·rw [om ((DY h.o2 hg (by omega) hlt).trans h.box)];rfl
 ·rw [nB _ _ _ _ (by simp)];exact(DY h.o2 hg (by omega) (by omega)).trans h.res
 exact((h.wW.alloc hsz o).grown hg (by simp;omega) (λj hj=>cC (by omega) (ei h.o2 j hj))).setCell (by simp) _
theorem iT.y0(h:iT w wr v0 v1 v2 ms ss cy)(hg:(wr.alloc o).grownBy w4 v2.ownBlock):w4.cell? ⟨w.heap.size+1,2,aB⟩=aC v2/\w4.frozen? ⟨w.heap.size+1,2,aB⟩=aP/\w.heap.size+1<w4.heap.size:=
 have hb:=(DY h.o2 hg (by omega) h.lt).trans h.box
 ⟨ρ hb,Jc _ _ _ _ _ hb,(fY.1 hb).1⟩
structure Oi(w W:aJ)(cs:Array aN)(v0 v1 v2:aN)(ms ss:List Pr)(cy:List Cy):Prop where
 res:W.heap[w.heap.size]? =aC (aK cs 26 (0,0))
 o0:W.ownsRow (w.heap.size+2) 67 2 v0 (aA ms) (jU ms)
 o1:W.ownsRow (w.heap.size+2) 69 2 v1 (aA ss) (jU ss)
 o2:W.ownsRow (w.heap.size+2) 71 4 v2 (aA cy) (uI cy)
 wW:β w W
theorem iT.two(h:iT w wr v0 v1 v2 ms ss cy):Oi w wr #[aH aB 0 0,aH aB 0 0,aH aB 0 0,aG aF 0,aG aF 0,aG aF 0,aG aF 0,aG aF 0] v0 v1 v2 ms ss cy:=⟨h.res,h.o0,h.o1,h.o2,h.wW⟩
theorem Oi.set {cs:Array aN}(h:Oi w wr cs v0 v1 v2 ms ss cy)(j:Nat)(u:aN):Oi w (wr.setCell ⟨w.heap.size,j,aB⟩ u) (cs.setIfInBounds j u) v0 v1 v2 ms ss cy:=
 ⟨om h.res j u,jz h.o0 (far h.o0 (by simp)) _,jz h.o1 (far h.o1 (by simp)) _,jz h.o2 (far h.o2 (by simp)) _,h.wW.setCell (aZ _) _⟩
end
theorem aJu(z0 z1 z2 z3 z4 z5 z6 z7 a0 a1 a2 a3 a4 a5 a6 a7:aN):(((((((((#[z0,z1,z2,z3,z4,z5,z6,z7]:Array aN).setIfInBounds 0 a0).setIfInBounds 1 a1).setIfInBounds 2 a2).setIfInBounds 3 a3).setIfInBounds 4 a4).setIfInBounds 5 a5).setIfInBounds 6 a6).setIfInBounds 7 a7)= #[a0,a1,a2,a3,a4,a5,a6,a7]:=by simp
theorem aHF:(aM.info? 67).map (λi=>(i.zero,i.size,i.bytes))=aC (aC (bO #[aG aF 0,aG aF 0]),2,16):=by kernel_rfl
theorem aJk:(aM.info? 69).map (λi=>(i.zero,i.size,i.bytes))=aC (aC (bO #[aG aF 0,aG aF 0]),2,16):=by kernel_rfl
theorem aCr:(aM.info? 71).map (λi=>(i.zero,i.size,i.bytes))=aC (aC (bO #[aG aF 0,aG aF 0,aG aF 0,aG aF 0]),4,32):=by kernel_rfl
theorem a2m {a b c d:Int}:∀u∈ [aG aF a,aG aF b,aG aF c,aG aF d],u.oneCell'=aO:=by intro u hu;simp at hu;rcases hu with rfl|rfl|rfl|rfl<;>rfl
theorem a7f {a b:Int}:∀u∈ [aG aF a,aG aF b],u.oneCell'=aO:=by intro u hu;simp at hu;rcases hu with rfl|rfl<;>rfl
theorem a6I {α:Type}(k:Nat)(y:α):gN (k+1) y=gN k y++ [y]:=by rw [List.replicate_succ']
theorem aIp(w:aJ):iT w ((w.alloc (aK #[aH aB 0 0,aH aB 0 0,aH aB 0 0,aG aF 0,aG aF 0,aG aF 0,aG aF 0,aG aF 0] 26)).alloc (aK #[aH aB 0 0,aH aB 0 0,aH aB 0 0,aG aF 500,aG aF 200,aG aF 1,aG aF 64,aG aF 32] 26)) (aH aB 0 0) (aH aB 0 0) (aH aB 0 0) [] [] []:=
 ⟨MS _ _ (by simp),by rw [fG _ _ (by simp)];exact cT w _,⟨by simp [jU],aS ⟨rfl,rfl⟩⟩,⟨by simp [jU],aS ⟨rfl,rfl⟩⟩,⟨by simp [uI],aS ⟨rfl,rfl⟩⟩,σ.alloc (by simp) _⟩
end
section
section
variable {P:Program} {md:Ci} {ops:Array Oper} {Q:Exit->Act->aJ->Prop} {S:aJ->Prop} {st:Nat}
def wpAnyL(P:Program)(md:Ci)(ops:Array Oper)(Q:Exit->Act->aJ->Prop)(S:aJ->Prop)(st:Nat):Nat->Array Bool->Act->aJ->Prop
 |0,listed,a,w=>og md ops listed= []/\Q .normal a w
 |fuel+1,listed,a,w=>
  (og md ops listed= []->Q .normal a w)/\
  ∀i∈og md ops listed,wpOp P ops Q i (λa' w'=>(i≠st->S w')/\wpAnyL P md ops Q S st fuel (listed.setIfInBounds i aO) a' w') a w
theorem a7p:∀(fuel:Nat) (listed:Array Bool) (a:Act) (w:aJ),wpAnyL P md ops Q S st fuel listed a w->wpAny P md ops Q fuel listed a w
 |0,_,_,_,h=>h
 |fuel+1,_,_,_,h=>⟨h.1,λi hi=>wpOp_mono (λ_ _ h'=>a7p fuel _ _ _ h'.2) (h.2 i hi)⟩
def Whole(md:Ci)(ops:Array Oper)(listed:Array Bool):Prop:=∀(k:Nat) (o:Oper),ops[k]? =aC o->listed.getD k aO=aO->∀e∈o.after,zI md e=aO->listed.getD e.on aP=aO
def Nd(md:Ci)(ops:Array Oper)(listed:Array Bool):Bool:=(dQ ops.size).all λk=> !listed.getD k aO||((ops[k]?).map λo=>o.after.all λe=> !zI md e||listed.getD e.on aP).getD aO
theorem a7o {listed:Array Bool}(h:Nd md ops listed=aO):Whole md ops listed:=by intro k o ho hk e he hb;unfold Nd at h;rw [List.all_eq_true] at h;have hlt:=(fY.1 ho).1;have h1:=h k (nH.2 hlt);rw [hk,ho] at h1;simp only [a9o,Og,Bool.not_true,Bool.false_or] at h1;rw [Array.all_eq_true_iff_forall_mem] at h1;have h2:=h1 e he;rw [hb] at h2;simpa using h2
theorem Whole.ready {listed:Array Bool} {j:Nat}(h:Whole md ops listed)(hj:j∈og md ops listed):Whole md ops (listed.setIfInBounds j aO):=by
 obtain⟨_,oj,xH,hall⟩:=Bg.1 hj;intro k o ho hk e he hb;by_cases hjk:j=k
 ·subst hjk;rw [xH] at ho;cases ho;exact getD_set_true (hall e he hb)
 rw [getD_set_ne aO hjk] at hk;exact getD_set_true (h k o ho hk e he hb)
def waitsB(md:Ci)(ops:Array Oper)(i:Nat):Nat->Nat->Bool
 |0,_=>aP
 |n+1,k=>((ops[k]?).map λo=>o.after.any λe=>zI md e&&(e.on==i||waitsB md ops i n e.on)).getD aP
theorem Y9 {listed:Array Bool} {i:Nat}(hw:Whole md ops listed):∀(n k:Nat) (o:Oper),waitsB md ops i n k=aO->ops[k]? =aC o->(∀e∈o.after,zI md e=aO->listed.getD e.on aP=aO)->listed.getD i aP=aO
 |0,_,_,h,_,_=>by simp [waitsB] at h
 |n+1,k,o,h,ho,hall=>by
  unfold waitsB at h;rw [ho] at h;simp only [a9o,Og] at h;obtain⟨j,hj,h⟩:=Array.any_eq_true.1 h;have he:=Array.getElem_mem hj;generalize o.after[j]=e at*;simp only [jX,Bool.or_eq_true,beq_iff_eq] at h;obtain⟨hb,h⟩:=h;have hl:=hall e he hb;rcases h with h|h
  ·rw [<-h];exact hl
  ·match Js:ops[e.on]? with
   |none=>
    cases n with
    |zero=>simp [waitsB] at h
    |succ n=>unfold waitsB at h;rw [Js] at h;simp at h
   |some o'=>
    refine Y9 hw n e.on o' h Js (hw e.on o' Js ?_);rcases rF e.on listed.size with h'|h'
    ·simpa [h'] using hl
    simp [IU h'] at hl
theorem aL5 {listed:Array Bool} {i n:Nat}(hw:Whole md ops listed)(h:waitsB md ops i n st=aO)(hi:listed.getD i aO=aP):st∉og md ops listed:=by
 intro hj;obtain⟨_,o,ho,hall⟩:=Bg.1 hj;have h1:=Y9 hw n st o h ho hall;rcases rF i listed.size with h'|h'
 ·simp [h'] at hi h1;rw [hi] at h1;cases h1
 simp [IU h'] at h1
theorem wpAnyL_first {i:Nat} {oi:Oper} {v:aN} {n:Nat}(hi:ops[i]? =aC oi)(hst:waitsB md ops i n st=aO)(Ey:∀(j:Nat) (o:Oper) cs b,ops[j]? =aC o->o.op≠ .select cs b)
 (hQ:∀c a w,Q (.panic c) (a.put oi.dst v) w->Q (.panic c) a w):
 ∀(fuel:Nat) (listed:Array Bool) (a:Act) (w:aJ),Whole md ops listed->
  (∀j oj,ops[j]? =aC oj->j≠i->listed.getD j aO=aP->(∀e∈oj.after,zI md e=aO->e.on≠i)->oi.apart ops oj=aO)->
  i∈og md ops listed->YieldsIf P ops S oi v a->S w->
  wpAnyL P md ops Q S st fuel (listed.setIfInBounds i aO) (a.put oi.dst v) w->wpAnyL P md ops Q S st (fuel+1) listed a w:=by
 intro fuel;induction fuel with
 |zero=>
  intro listed a w _ _ hr hy hS H;refine⟨λh=>(by rw [h] at hr;cases hr),λj hj=> ?_⟩;by_cases je:j=i
  ·subst je;exact hy.wpOp hi hS ⟨λ_=>hS,H⟩
  have:=FC hj je;rw [H.1] at this;cases this
 |succ fuel ih=>
  intro listed a w DT Ef hr hy hS H;refine⟨λh=>(by rw [h] at hr;cases hr),λj hj=> ?_⟩;by_cases je:j=i
  ·subst je;exact hy.wpOp hi hS ⟨λ_=>hS,H⟩
  have Hf:j≠st:=λe=>aL5 DT hst (Bg.1 hr).1 (e▸hj)
  have h1:=H.2 j (FC hj je);obtain⟨Eh,oj,xH,hall⟩:=Bg.1 hj;have Mb:∀e∈oj.after,zI md e=aO->e.on≠i:=λe he hb heq=>by
   have h1:=hall e he hb;have h0:=(Bg.1 hr).1;rw [heq] at h1;rcases rF i listed.size with h'|h'
   ·simp [h'] at h0 h1;rw [h0] at h1;cases h1
   simp [IU h'] at h1
  have h2:=wpOp_putIf xH (Ef j oj xH je Eh Mb) (λcs b=>Ey i oi cs b hi) (λcs b=>Ey j oj cs b xH) hQ hy h1
  have MV:∀k ok,ops[k]? =aC ok->k≠i->(listed.setIfInBounds j aO).getD k aO=aP->
   (∀e∈ok.after,zI md e=aO->e.on≠i)->oi.apart ops ok=aO:=λk ok hk zm F3 hno=>by
   refine Ef k ok hk zm ?_ hno;by_cases hjk:j=k
   ·subst hjk;exact Eh
   rw [getD_set_ne aO hjk] at F3;exact F3
  refine wpOp_mono (λa' w' h3=>⟨h3.2.1,ih (listed.setIfInBounds j aO) a' w' (DT.ready hj) MV (FC hr (Ne.symm je)) h3.1 (h3.2.1 Hf) ?_⟩) h2;rw [YG _ _ je];exact h3.2.2
theorem eB {i:Nat} {oi:Oper} {v:aN} {fuel:Nat} {listed:Array Bool} {a:Act} {w:aJ}(hi:ops[i]? =aC oi)(hst:waitsB md ops i 12 st=aO)(DT:Nd md ops listed=aO)
 (hs:Region.noSelect ops=aO) (hf:Region.free md ops listed i=aO) (hr:(og md ops listed).contains i=aO)
 (hQ:∀c a w,Q (.panic c) (a.put oi.dst v) w->Q (.panic c) a w) (hy:YieldsIf P ops S oi v a) (hS:S w)
 (h:wpAnyL P md ops Q S st fuel (listed.setIfInBounds i aO) (a.put oi.dst v) w):wpAnyL P md ops Q S st (fuel+1) listed a w:=
 wpAnyL_first hi hst (Zw hs) hQ fuel listed a w (a7o DT) (Zv hi hf) (by simpa using hr) hy hS h
theorem IP {listed:Array Bool} {a:Act} {w:aJ}(hr:og md ops listed= [])(h:Q .normal a w):∀fuel,wpAnyL P md ops Q S st fuel listed a w
 |0=>⟨hr,h⟩
 |_+1=>⟨λ_=>h,by rw [hr];simp⟩
def eX(P:Program)(md:Ci)(ops:Array Oper)(Q:Exit->Act->aJ->Prop)(S:aJ->Prop)(st:Nat)(fuel:Nat)(listed:Array Bool)(a:Act)(w:aJ)(rs:List Nat):Prop:=
 ∀i∈rs,wpOp P ops Q i (λa' w'=>(i≠st->S w')/\wpAnyL P md ops Q S st fuel (listed.setIfInBounds i aO) a' w') a w
theorem eX.nil {fuel:Nat} {listed:Array Bool} {a:Act} {w:aJ}:eX P md ops Q S st fuel listed a w []:=λ_ h=>by cases h
theorem eX.cons {fuel:Nat} {listed:Array Bool} {a:Act} {w:aJ} {i:Nat} {o:Oper} {rs:List Nat}(ho:ops[i]? =aC o)
 (h:∀K':Act->aJ->Prop,Shut (∀a w,(i≠st->S w)->((i≠st->S w)->wpAnyL P md ops Q S st fuel (listed.setIfInBounds i aO) a w)->K' a w)->if JL o (yielded ops a.tmps)=aO then Oper.wp P o a w K' Q else K' (a.put o.dst undef) w)
 (hs:eX P md ops Q S st fuel listed a w rs):eX P md ops Q S st fuel listed a w (i::rs):=λj hj=>by
 rcases fC.1 hj with rfl|hj
 ·exact wpOp_step ho (λK' hK=>h K' (λa w hS hW=>hK a w ⟨hS,hW hS⟩))
 exact hs j hj
theorem nj {rs:List Nat} {fuel:Nat} {listed:Array Bool} {a:Act} {w:aJ}(hr:og md ops listed=rs)(hne:rs≠ [])
 (h:eX P md ops Q S st fuel listed a w rs):wpAnyL P md ops Q S st (fuel+1) listed a w:=⟨λh0=>absurd (hr▸h0) hne,hr▸h⟩
theorem IQ {id:Nat} {a:Act} {w:aJ}(st:Nat)(hm:P.follows .mixedOrders=aO)(hS:S w.drew)
 (h:S w.drew->wpAnyL P .any ops Q S st ops.size (l9 ops.size aP) a w.drew):(Code.region id ops aO).wp P Q a w:=
 wp_region_any hm (a7p _ _ _ _ (h hS))
end
end
section
section
variable {P:Program} {md:Ci} {ops:Array Oper} {Q:Exit->Act->aJ->Prop} {S:aJ->Prop} {st:List Nat}
def uX(P:Program)(md:Ci)(ops:Array Oper)(Q:Exit->Act->aJ->Prop)(S:aJ->Prop)(st:List Nat):Nat->Array Bool->Act->aJ->Prop
 |0,listed,a,w=>og md ops listed= []/\Q .normal a w
 |fuel+1,listed,a,w=>
  (og md ops listed= []->Q .normal a w)/\
  ∀i∈og md ops listed,wpOp P ops Q i (λa' w'=>(i∉st->S w')/\uX P md ops Q S st fuel (listed.setIfInBounds i aO) a' w') a w
theorem a7q:∀(fuel:Nat) (listed:Array Bool) (a:Act) (w:aJ),uX P md ops Q S st fuel listed a w->wpAny P md ops Q fuel listed a w
 |0,_,_,_,h=>h
 |fuel+1,_,_,_,h=>⟨h.1,λi hi=>wpOp_mono (λ_ _ h'=>a7q fuel _ _ _ h'.2) (h.2 i hi)⟩
theorem aL6 {listed:Array Bool} {i n:Nat}(hw:Whole md ops listed) {s:Nat}(h:waitsB md ops i n s=aO)(hi:listed.getD i aO=aP):s∉og md ops listed:=by
 intro hj;obtain⟨_,o,ho,hall⟩:=Bg.1 hj;have h1:=Y9 hw n s o h ho hall;rcases rF i listed.size with h'|h'
 ·simp [h'] at hi h1;rw [hi] at h1;cases h1
 simp [IU h'] at h1
theorem aLE {i:Nat} {oi:Oper} {v:aN} {n:Nat}(hi:ops[i]? =aC oi)(hst:∀s∈st,waitsB md ops i n s=aO)(Hj:i∉st)(Ey:∀(j:Nat) (o:Oper) cs b,ops[j]? =aC o->o.op≠ .select cs b)
 (hQ:∀c a w,Q (.panic c) (a.put oi.dst v) w->Q (.panic c) a w):
 ∀(fuel:Nat) (listed:Array Bool) (a:Act) (w:aJ),Whole md ops listed->
  (∀j oj,ops[j]? =aC oj->j≠i->listed.getD j aO=aP->(∀e∈oj.after,zI md e=aO->e.on≠i)->oi.apart ops oj=aO)->
  i∈og md ops listed->YieldsIf P ops S oi v a->S w->
  uX P md ops Q S st fuel (listed.setIfInBounds i aO) (a.put oi.dst v) w->uX P md ops Q S st (fuel+1) listed a w:=by
 intro fuel;induction fuel with
 |zero=>
  intro listed a w _ _ hr hy hS H;refine⟨λh=>(by rw [h] at hr;cases hr),λj hj=> ?_⟩;by_cases je:j=i
  ·subst je;exact hy.wpOp hi hS ⟨λ_=>hS,H⟩
  have:=FC hj je;rw [H.1] at this;cases this
 |succ fuel ih=>
  intro listed a w DT Ef hr hy hS H;refine⟨λh=>(by rw [h] at hr;cases hr),λj hj=> ?_⟩;by_cases je:j=i
  ·subst je;exact hy.wpOp hi hS ⟨λ_=>hS,H⟩
  have Hf:j∉st:=λe=>aL6 DT (hst j e) (Bg.1 hr).1 hj
  have h1:=H.2 j (FC hj je);obtain⟨Eh,oj,xH,hall⟩:=Bg.1 hj;have Mb:∀e∈oj.after,zI md e=aO->e.on≠i:=λe he hb heq=>by
   have h1:=hall e he hb;have h0:=(Bg.1 hr).1;rw [heq] at h1;rcases rF i listed.size with h'|h'
   ·simp [h'] at h0 h1;rw [h0] at h1;cases h1
   simp [IU h'] at h1
  have h2:=wpOp_putIf xH (Ef j oj xH je Eh Mb) (λcs b=>Ey i oi cs b hi) (λcs b=>Ey j oj cs b xH) hQ hy h1
  have MV:∀k ok,ops[k]? =aC ok->k≠i->(listed.setIfInBounds j aO).getD k aO=aP->
   (∀e∈ok.after,zI md e=aO->e.on≠i)->oi.apart ops ok=aO:=λk ok hk zm F3 hno=>by
   refine Ef k ok hk zm ?_ hno;by_cases hjk:j=k
   ·subst hjk;exact Eh
   rw [getD_set_ne aO hjk] at F3;exact F3
  refine wpOp_mono (λa' w' h3=>⟨h3.2.1,ih (listed.setIfInBounds j aO) a' w' (DT.ready hj) MV (FC hr (Ne.symm je)) h3.1 (h3.2.1 Hf) ?_⟩) h2;rw [YG _ _ je];exact h3.2.2
theorem KU {i:Nat} {oi:Oper} {v:aN} {fuel:Nat} {listed:Array Bool} {a:Act} {w:aJ}(hi:ops[i]? =aC oi)(hst:(st.all λs=>waitsB md ops i 12 s)=aO)(Hj:st.contains i=aP)(DT:Nd md ops listed=aO)
 (hs:Region.noSelect ops=aO) (hf:Region.free md ops listed i=aO) (hr:(og md ops listed).contains i=aO)
 (hQ:∀c a w,Q (.panic c) (a.put oi.dst v) w->Q (.panic c) a w) (hy:YieldsIf P ops S oi v a) (hS:S w)
 (h:uX P md ops Q S st fuel (listed.setIfInBounds i aO) (a.put oi.dst v) w):uX P md ops Q S st (fuel+1) listed a w:=
 aLE hi (λs hs=>List.all_eq_true.1 hst s hs) (by simpa using Hj) (Zw hs) hQ fuel listed a w (a7o DT) (Zv hi hf) (by simpa using hr) hy hS h
theorem aLF {i:Nat} {oi:Oper} {v:aN}(hi:ops[i]? =aC oi)(Hj:i∈st)(Ey:∀(j:Nat) (o:Oper) cs b,ops[j]? =aC o->o.op≠ .select cs b)
 (hQ:∀c a w,Q (.panic c) (a.put oi.dst v) w->Q (.panic c) a w):
 ∀(fuel:Nat) (listed:Array Bool) (a:Act) (w:aJ),
  (∀j oj,ops[j]? =aC oj->j≠i->listed.getD j aO=aP->(∀e∈oj.after,zI md e=aO->e.on≠i)->oi.apart ops oj=aO)->
  i∈og md ops listed->YieldsIf P ops (λ_=>True) oi v a->
  uX P md ops Q S st fuel (listed.setIfInBounds i aO) (a.put oi.dst v) w->uX P md ops Q S st (fuel+1) listed a w:=by
 intro fuel;induction fuel with
 |zero=>
  intro listed a w _ hr hy H;refine⟨λh=>(by rw [h] at hr;cases hr),λj hj=> ?_⟩;by_cases je:j=i
  ·subst je;exact hy.wpOp hi trivial ⟨λh=>absurd Hj h,H⟩
  have:=FC hj je;rw [H.1] at this;cases this
 |succ fuel ih=>
  intro listed a w Ef hr hy H;refine⟨λh=>(by rw [h] at hr;cases hr),λj hj=> ?_⟩;by_cases je:j=i
  ·subst je;exact hy.wpOp hi trivial ⟨λh=>absurd Hj h,H⟩
  have h1:=H.2 j (FC hj je);obtain⟨Eh,oj,xH,hall⟩:=Bg.1 hj;have Mb:∀e∈oj.after,zI md e=aO->e.on≠i:=λe he hb heq=>by
   have h1:=hall e he hb;have h0:=(Bg.1 hr).1;rw [heq] at h1;rcases rF i listed.size with h'|h'
   ·simp [h'] at h0 h1;rw [h0] at h1;cases h1
   simp [IU h'] at h1
  have h2:=wpOp_putIf xH (Ef j oj xH je Eh Mb) (λcs b=>Ey i oi cs b hi) (λcs b=>Ey j oj cs b xH) hQ hy h1
  have MV:∀k ok,ops[k]? =aC ok->k≠i->(listed.setIfInBounds j aO).getD k aO=aP->
   (∀e∈ok.after,zI md e=aO->e.on≠i)->oi.apart ops ok=aO:=λk ok hk zm F3 hno=>by
   refine Ef k ok hk zm ?_ hno;by_cases hjk:j=k
   ·subst hjk;exact Eh
   rw [getD_set_ne aO hjk] at F3;exact F3
  refine wpOp_mono (λa' w' h3=>⟨h3.2.1,ih (listed.setIfInBounds j aO) a' w' MV (FC hr (Ne.symm je)) h3.1 ?_⟩) h2;rw [YG _ _ je];exact h3.2.2
theorem YC {i:Nat} {oi:Oper} {v:aN} {fuel:Nat} {listed:Array Bool} {a:Act} {w:aJ}(hi:ops[i]? =aC oi)(Hj:st.contains i=aO)
 (hs:Region.noSelect ops=aO) (hf:Region.free md ops listed i=aO) (hr:(og md ops listed).contains i=aO)
 (hQ:∀c a w,Q (.panic c) (a.put oi.dst v) w->Q (.panic c) a w) (hy:YieldsIf P ops (λ_=>True) oi v a)
 (h:uX P md ops Q S st fuel (listed.setIfInBounds i aO) (a.put oi.dst v) w):uX P md ops Q S st (fuel+1) listed a w:=
 aLF hi (by simpa using Hj) (Zw hs) hQ fuel listed a w (Zv hi hf) (by simpa using hr) hy h
theorem aLD {listed:Array Bool} {a:Act} {w:aJ}(hr:og md ops listed= [])(h:Q .normal a w):∀fuel,uX P md ops Q S st fuel listed a w
 |0=>⟨hr,h⟩
 |_+1=>⟨λ_=>h,by rw [hr];simp⟩
def qD(P:Program)(md:Ci)(ops:Array Oper)(Q:Exit->Act->aJ->Prop)(S:aJ->Prop)(st:List Nat)(fuel:Nat)(listed:Array Bool)(a:Act)(w:aJ)(rs:List Nat):Prop:=
 ∀i∈rs,wpOp P ops Q i (λa' w'=>(i∉st->S w')/\uX P md ops Q S st fuel (listed.setIfInBounds i aO) a' w') a w
theorem qD.nil {fuel:Nat} {listed:Array Bool} {a:Act} {w:aJ}:qD P md ops Q S st fuel listed a w []:=λ_ h=>by cases h
theorem qD.cons {fuel:Nat} {listed:Array Bool} {a:Act} {w:aJ} {i:Nat} {o:Oper} {rs:List Nat}(ho:ops[i]? =aC o)
 (h:∀K':Act->aJ->Prop,Shut (∀a w,(i∉st->S w)->((i∉st->S w)->uX P md ops Q S st fuel (listed.setIfInBounds i aO) a w)->K' a w)->if JL o (yielded ops a.tmps)=aO then Oper.wp P o a w K' Q else K' (a.put o.dst undef) w)
 (hs:qD P md ops Q S st fuel listed a w rs):qD P md ops Q S st fuel listed a w (i::rs):=λj hj=>by
 rcases fC.1 hj with rfl|hj
 ·exact wpOp_step ho (λK' hK=>h K' (λa w hS hW=>hK a w ⟨hS,hW hS⟩))
 exact hs j hj
theorem KT {rs:List Nat} {fuel:Nat} {listed:Array Bool} {a:Act} {w:aJ}(hr:og md ops listed=rs)(hne:rs≠ [])
 (h:qD P md ops Q S st fuel listed a w rs):uX P md ops Q S st (fuel+1) listed a w:=⟨λh0=>absurd (hr▸h0) hne,hr▸h⟩
theorem aLJ {id:Nat} {a:Act} {w:aJ}(st:List Nat)(hm:P.follows .mixedOrders=aO)(hS:S w.drew)
 (h:S w.drew->uX P .any ops Q S st ops.size (l9 ops.size aP) a w.drew):(Code.region id ops aO).wp P Q a w:=
 wp_region_any hm (a7q _ _ _ _ (h hS))
end
end
section
section
variable {P:Program} {md:Ci} {ops:Array Oper} {Q:Exit->Act->aJ->Prop} {S:aJ->Prop} {fuel:Nat} {listed:Array Bool} {a:Act} {w:aJ} {oi:Oper}
theorem tL {st:Nat}(i:Nat)(v:aN)(hi:ops[i]? =aC oi)(hb:(waitsB md ops i 12 st&&(Nd md ops listed&&(Region.noSelect ops&&(Region.free md ops listed i&&(og md ops listed).contains i))))=aO)(hQ:∀c a w,Q (.panic c) (a.put oi.dst v) w->Q (.panic c) a w)(hy:JL oi (yielded ops a.tmps)=aO/\∀w,S w->(execOp a.eval oi).run P w= .ok (.value v) w)(hS:S w)(h:wpAnyL P md ops Q S st fuel (listed.setIfInBounds i aO) (a.put oi.dst v) w):wpAnyL P md ops Q S st (fuel+1) listed a w:=by simp only [jX] at hb;exact eB hi hb.1 hb.2.1 hb.2.2.1 hb.2.2.2.1 hb.2.2.2.2 hQ (aS hy) hS h
theorem nL {st:Nat}(i:Nat)(ho:ops[i]? =aC oi)(hr:og md ops listed= [i])(h:∀K':Act->aJ->Prop,Shut (∀a w,(i≠st->S w)->((i≠st->S w)->wpAnyL P md ops Q S st fuel (listed.setIfInBounds i aO) a w)->K' a w)->if JL oi (yielded ops a.tmps)=aO then Oper.wp P oi a w K' Q else K' (a.put oi.dst undef) w):wpAnyL P md ops Q S st (fuel+1) listed a w:=nj hr (by simp) (eX.cons ho h eX.nil)
end
end
theorem R5(a:Int)(w:aJ)(ha:aL a):
 aQ aM 169 #[ν a] w λe w'=>
  e=aU (bB #[ν (gP (-a)),ν (dL (-a))])/\w=w':=by
 have HA:=η ha;go_enter func169,ntmps169
 go_wp2_with (go_at_call 148;refine(Rh 0 a _ JC HA).mono ?_;rintro e w' ⟨rfl,rfl⟩)
 go_ret2;exact⟨rfl,rfl⟩
structure Ob where
 c:Int
 m:Int
 a:Int
 az:Int
 done:Int
 st:Int
def Ob.cells(x:Ob):List aN:= [aG aF x.c,aG aF x.m,aG aF x.a,aG aF x.az,aG aF x.done,aG aF x.st]
def Ob.val(x:Ob):aN:=bO #[aG aF x.c,aG aF x.m,aG aF x.a,aG aF x.az,aG aF x.done,aG aF x.st]
def fJ(l:List Ob):List aN:=l.flatMap Ob.cells
structure Lg where
 m:Int
 a:Int
 n:Int
def Lg.cells(x:Lg):List aN:= [aG aF x.m,aG aF x.a,aG aF x.n]
def Lg.val(x:Lg):aN:=bO #[aG aF x.m,aG aF x.a,aG aF x.n]
def bA(l:List Lg):List aN:=l.flatMap Lg.cells
theorem xO {w:aJ} {B:Nat} {A:Option ai} {l:List Ob}(h:aW w B A (fJ l)) {k:Nat}(hk:k<aA l):
 ∃b o,A=aC ⟨b,o,aB⟩/\b<B/\w.cell? ⟨b,o+k*6,aB⟩=aC (ν l[k].c)/\w.cell? ⟨b,o+k*6+1,aB⟩=aC (ν l[k].m)/\w.cell? ⟨b,o+k*6+2,aB⟩=aC (ν l[k].a)/\
  w.cell? ⟨b,o+k*6+3,aB⟩=aC (ν l[k].az)/\w.cell? ⟨b,o+k*6+4,aB⟩=aC (ν l[k].done)/\w.cell? ⟨b,o+k*6+5,aB⟩=aC (ν l[k].st):=by
 obtain⟨b,o,e,hb,hc⟩:=h.run (i:=k*6) (y:=ν l[k].c) (t:= [ν l[k].m,ν l[k].a,ν l[k].az,ν l[k].done,ν l[k].st]) (λj u hu=>tC Ob.cells 6 (λ_=>rfl) l k hk j u hu);exact⟨b,o,e,hb,hc 0 _ rfl,hc 1 _ rfl,hc 2 _ rfl,hc 3 _ rfl,hc 4 _ rfl,hc 5 _ rfl⟩
theorem oG {w:aJ} {B:Nat} {A:Option ai} {l:List Lg}(h:aW w B A (bA l)) {k:Nat}(hk:k<aA l):
 ∃b o,A=aC ⟨b,o,aB⟩/\b<B/\w.cell? ⟨b,o+k*3,aB⟩=aC (ν l[k].m)/\w.cell? ⟨b,o+k*3+1,aB⟩=aC (ν l[k].a)/\w.cell? ⟨b,o+k*3+2,aB⟩=aC (ν l[k].n):=by
 obtain⟨b,o,e,hb,hc⟩:=h.run (i:=k*3) (y:=ν l[k].m) (t:= [ν l[k].a,ν l[k].n]) (λj u hu=>tC Lg.cells 3 (λ_=>rfl) l k hk j u hu);exact⟨b,o,e,hb,hc 0 _ rfl,hc 1 _ rfl,hc 2 _ rfl⟩
def fj:Int:= -9223372036854775808
def Ob.size(x:Ob):Int:=if x.az<0 then-x.az else x.az
def eW(x:Ob):Bool:=x.st==1
def yT(m a:Int)(x:Ob):Bool:=x.st==1&&x.m==m&&x.a==a
def K8(y:Lg)(x:Lg):Bool:=x.m==y.m&&x.a==y.a
def SA(y:Lg):Bool:=y.n==0||y.n==fj
def ye(bD:List Lg)(i:Nat)(h:i<aA bD):Bool:=SA bD[i]||(bD.take i).any (K8 bD[i])
def GQ(bD:List Lg):Bool:=(dQ (aA bD)).any λi=>if h:i<(aA bD) then ye bD i h else aP
def ft(cy:Int)(y:Lg):Ob:=⟨cy,y.m,y.a,y.n,0,1⟩
def rr(cy:Int)(bD:List Lg)(L:List Ob):Int:=
 if 1024-(aA L:Int)<(aA bD) then 6 else if L.any eW then 17 else if L.any (λx=>decide (cy<=x.c)) then 7 else if GQ bD then 1 else 0
def ng(cy:Int)(bD:List Lg)(L:List Ob):List Ob:=if rr cy bD L=0 then L++bD.map (ft cy) else L
def dS(m a:Int)(L:List Ob):Nat:=L.findIdx (yT m a)
def debtE(m a n:Int)(L:List Ob):Int:=match L[dS m a L]? with
 |none=>8
 |some x=>if x.az<0 then 8 else if n<1 then 1 else 0
def ir(m a n:Int)(L:List Ob):Int:=match L[dS m a L]? with
 |none=>8
 |some x=>if x.az<0 then 8 else if n<1 then 1 else if x.az-x.done<n then 12 else 0
def l8(m a n:Int)(L:List Ob):Int:=match L[dS m a L]? with
 |none=>8
 |some x=>if x.az<0 then 8 else if n<1 then 1 else if x.done<n then 12 else 0
def vY(m a s n:Int)(L:List Ob):Int:=match L[dS m a L]? with
 |none=>8
 |some x=>if s<2\/5<s\/n<0\/x.size<n\/(s=2/\n≠x.size) then 1 else 0
def kR(m a n:Int)(L:List Ob):List Ob:=if ir m a n L=0 then L.modify (dS m a L) (λx=> {x with done:=x.done+n}) else L
def ni(m a n:Int)(L:List Ob):List Ob:=if l8 m a n L=0 then L.modify (dS m a L) (λx=> {x with done:=x.done-n}) else L
def lQ(m a s n:Int)(L:List Ob):List Ob:=if vY m a s n L=0 then L.modify (dS m a L) (λx=> {x with st:=s,done:=n}) else L
structure Ob.ok(x:Ob):Prop where
 lo:fj<x.az
 hi:x.az<=9223372036854775807
 ne:x.az≠0
 d0:0<=x.done
 d1:x.done<=x.size
structure sD(L:List Ob):Prop where
 each:∀x∈L,x.ok
 once:∀j k (hj:j<aA L) (hk:k<aA L),j<k->eW L[j]=aO->eW L[k]=aO->¬(L[j].m=L[k].m/\L[j].a=L[k].a)
 len:aA L<=1024
def Oo(L L':List Ob):Prop:=aA L<=aA L'/\∀k (h:k<aA L),eW L[k]=aP->L'[k]? =aC L[k]
end Go.Proofs.YtdokipdchlcmeaaGreat
