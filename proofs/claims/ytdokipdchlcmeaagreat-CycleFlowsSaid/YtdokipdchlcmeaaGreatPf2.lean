/-
  Several texts in one, for one claim (printed by pack.py).
-/
import Derived.Test.YtdokipdchlcmeaaGreatPf1
import Derived.Below
import Derived.Deep.Heap
import Derived.Laws.OwnMore
import Derived.OrdersHeld
set_option linter.all false
set_option maxRecDepth 100000
set_option maxHeartbeats 12800000
open Array renaming getElem?_eq_some_iff→fY,replicate→jh,getElem?_eq_none→JE,setIfInBounds_comm→Yv
open Bool renaming true→aO,false→aP,and_eq_true→ji
open Classical renaming skolem→Z2
open Go renaming World→aJ,Value→aN,Calls→aQ,Addr→ai,cell_of_row→bH,maxLen→bO,TypeId→bZ,heap_alloc_new→cQ,info_parts→dP,Ending→dX,wpList_append_own→jC,mem_ready→Bt,ready_mono→Fu,frozen_of_row→KH
open Go.Calls renaming grown_of→GD,quiet_of_same→JJ
open Go.Deep renaming blk_setCell_other→OH,nblk_setCell→Z7,blk_alloc_lt→a8o
open Go.Ending renaming returned→aT
open Go.Instr renaming makeSlice→PB
open Go.IntKind renaming i64→aF,wrap_i64→fh
open Go.Obj renaming cells→aK
open Go.Proofs renaming intOf→ag
open Go.Proofs.Tryz renaming prog→aM,underlying53→mX,underlying46→yU,func213→Uj,func22→Uk,func227→Ul,func228→Um,ntmps213→Uq,ntmps22→Ur,ntmps227→Us,ntmps228→Ut,func194→a0f,func265→a0n,ntmps194→a0z,ntmps265→a1H,func195→aAx,func281→aB7,ntmps195→aBk
open Go.Region renaming ready→pI,binds→zX,Mode→D9,wanted→Jz,free_spec→a0R,noSelect_spec→a0S
open Go.RowKit renaming Below→aa
open Go.RowKit.Below renaming refl→aX,heap_setCell→nR
open Go.Value renaming int→aG,slice→aH,tuple→bC,bool→bK,agg→bP,ownBlock→eF
open Go.World renaming cell?_of_block→gu,ownsRow→kF,setCell→Em
open Int renaming le_refl→dM,le_trans→kD,eq_ofNat_of_zero_le→a0E
open List renaming length→aA,getElem_mem→cK,length_append→cN,take_length→cU,range→dQ,map_append→dh,mem_map→di,mem_cons→fG,take_succ_eq_append_getElem→fH,replicate→gP,zipWith→kV,mem_range→nV,mem_iff_getElem→tD,length_singleton→uT,getElem_map→xC,length_replicate→BN,ext_getElem→Gf,map_congr_left→Jv
open Nat renaming le_refl→aZ,zero_le→bM,le_trans→bz,lt_or_ge→rZ,mul_le_mul→yT,div_lt_iff_lt_mul→Gq,mod_lt→Jw
open Option renaming none→aB,some→aC,getD_some→PM,map_some→aAS
open Or renaming inl→aS,inr→aU
namespace Go.Proofs.YtdokipdchlcmeaaGreat
open Go.Proofs.Tryz Go.RowKit
section
open Go.Lib Go.Sort Go.Shelf Go.Proofs.YtdokipdchlcmeaaGreat.pJ
def MD(w0:aJ)(blk off n:Nat)(k:Int->Int)(ok:Int->Prop)(d:Array Int)(a b:Nat):dX->aJ->Prop:=λe w'=>e=aT (bC #[])/\∃d':Array Int,cz (fn d) (fn d') a b/\cH k (fn d') a b/\Rw w0 blk off n ok d' w'
theorem cH.o {k:Int->Int} {f g:Nat->Int} {a b:Nat}(h:cH k f a b)(e:∀p,a<=p->p<b->g p=f p):cH k g a b:=λi j h1 h2 h3=>by rw [e i h1 (by omega),e j (by omega) h3];exact h i j h1 h2 h3
theorem sW.o {f g:Nat->Int} {a m b:Nat}(h:sW f a m b)(e:∀p,a<=p->p<b->g p=f p):sW g a m b:=λi j h1 h2 h3 h4=>by rw [e i h1 (by omega),e j (by omega) h4];exact h i j h1 h2 h3 h4
theorem aLH {w0:aJ} {blk off n:Nat} {g:Nat} {cb:Array aN} {cf:Int->Int->Int} {k:Int->Int} {ok:Int->Prop} {d0:Array Int}(T0:tF w0 blk off n g cb cf k ok d0)(cap a m b:Nat)(d:Array Int)(w:aJ)(h:Rw w0 blk off n ok d w)(h1:a<m)(h2:m<b)(h3:b<=n)(hs1:cH k (fn d) a m)(hs2:cH k (fn d) m b)(hx:sW (fn d) a m b)(hA:m=a+1):
 aQ aM 265 #[aH (aC ⟨blk,off,aB⟩) n cap,aG aF (a:Nat),aG aF (m:Nat),aG aF (b:Nat),.func (.func g) #[] cb] w (MD w0 blk off n k ok d a b):=by
 have eg:=T0.enters;have hn:=T0.lt;have mixed:aM.follows .mixedOrders=aO:=by kernel_rfl
 have T:=η T0;have HH:=η h;have cj:=η hs1;have cO:=η hs2;have HX:=η hx;clear T0 h hs1 hs2 hx;have w1:aF.wrap ((m:Int)-(a:Int))=1:=by rw [fh];omega
 have HA:=η hA;have Mm:m<=a+1:=by omega
 clear hA;go_enter a0n,a1H
 go_wp2_with fail
 go_loopg [10,11] (b-m) (λkx s t wr=>∃(i j:Nat),s=aG aF i/\t=aG aF j/\m<=i/\i<=j/\j<=b/\j-i<=kx/\Hid (Rw w0 blk off n ok d wr)/\Hid ((∀p,m<=p->p<i->L k (fn d p) (fn d a))/\∀p,j<=p->p<b->L k (fn d a) (fn d p)))
 case atStart=>exact⟨m,b,rfl,rfl,aZ _,by omega,aZ _,aZ _,HH,λp _ _=>by omega,λp _ _=>by omega⟩
 case round=>
  clear HH;obtain⟨i,j,rfl,rfl,IZ,s8,hjb,mD,S1,HP⟩:=hrel;by_cases hlt:i<j
  ·have nr:(i:Int)<(j:Int):=by omega
   obtain⟨c,hc0⟩:∃q,q=(i+j)/2:=⟨_,rfl⟩;have hcz:((i:Int)+(j:Int))/2=(c:Int):=by omega
   have N0:i<=c:=by omega
   have Qf:c<j:=by omega
   clear hc0;by_cases hlv:k (fn d c)<k (fn d a)
   ·have nA:Hid ((∀p,m<=p->p<c+1->L k (fn d p) (fn d a))/\∀p,j<=p->p<b->L k (fn d a) (fn d p)):=by
     refine⟨λp q1 q2=> ?_,HP.o.2⟩;by_cases e:p=c
     ·rw [e];exact aS hlv
     exact(cO.o p c q1 (by omega) (by omega)).trans (aS hlv)
    have lR:=η hlv;clear HP hlv;go_wp2_with fail
    obtain⟨iN,fM⟩:∃z9,z9=c:=⟨_,rfl⟩;obtain⟨jN,fJ⟩:∃z9,z9=a:=⟨_,rfl⟩;have ea:((c:Int)).toNat=iN:=by omega
    have pa:(0:Int)<=(c:Int):=by omega
    have ba:(c:Int)<(n:Int):=by omega
    have ra:aF.wrap ((c:Int))=(c:Int):=by rw [fh];omega
    have ec:((a:Int)).toNat=jN:=by omega
    have pc:(0:Int)<=(a:Int):=by omega
    have bc:(a:Int)<(n:Int):=by omega
    have rc:aF.wrap ((a:Int))=(a:Int):=by rw [fh];omega
    obtain⟨x,hx⟩:∃x,x=fn d (c):=⟨_,rfl⟩;obtain⟨y,hy⟩:∃x,x=fn d (a):=⟨_,rfl⟩;have la:=S1.o.cl T.o (c) (by omega);have lb:=S1.o.cl T.o (a) (by omega);rw [<-hx,<-fM] at la;rw [<-hy,<-fJ] at lb;have hc:=S1.o.cmp T.o (c) (a) (by omega) (by omega);rw [<-hx,<-hy] at hc;have hv:cf x y<0:=by rw [hx,hy];exact(T.o.neg _ _ (S1.o.ok _ (by omega)) (S1.o.ok _ (by omega))).2 lR.o
    have hd:decide (cf x y<0)=aO:=decide_eq_true hv;clear hx hy fM fJ;go_wp2_with fail
    go_quiet_grown (first|(go_at_fn g;refine GD (hc _ _)))
    have S2:=η (S1.o.grown nq osq);clear la lb hc S1;generalize grow (wr.drewN nq) osq=w2 at S2 ⊢;clear nq osq ea ec pa pc ba bc ra rc hv hd;go_wp2
    go_roundg (j-(c+1))
    case measure=>omega
    case rel=>exact⟨c+1,j,by go_num,rfl,by omega,by omega,hjb,aZ _,S2,nA⟩
   have nA:Hid ((∀p,m<=p->p<i->L k (fn d p) (fn d a))/\∀p,c<=p->p<b->L k (fn d a) (fn d p)):=by
    refine⟨HP.o.1,λp q1 q2=> ?_⟩;have hl:L k (fn d a) (fn d c):=L.of_le hlv (HX.o a c (aZ _) (by omega) (by omega) (by omega));by_cases e:p=c
    ·rw [e];exact hl
    exact hl.trans (cO.o c p (by omega) (by omega) q2)
   have lR:=η hlv;clear HP hlv;go_wp2_with fail
   obtain⟨iN,fM⟩:∃z9,z9=c:=⟨_,rfl⟩;obtain⟨jN,fJ⟩:∃z9,z9=a:=⟨_,rfl⟩;have ea:((c:Int)).toNat=iN:=by omega
   have pa:(0:Int)<=(c:Int):=by omega
   have ba:(c:Int)<(n:Int):=by omega
   have ra:aF.wrap ((c:Int))=(c:Int):=by rw [fh];omega
   have ec:((a:Int)).toNat=jN:=by omega
   have pc:(0:Int)<=(a:Int):=by omega
   have bc:(a:Int)<(n:Int):=by omega
   have rc:aF.wrap ((a:Int))=(a:Int):=by rw [fh];omega
   obtain⟨x,hx⟩:∃x,x=fn d (c):=⟨_,rfl⟩;obtain⟨y,hy⟩:∃x,x=fn d (a):=⟨_,rfl⟩;have la:=S1.o.cl T.o (c) (by omega);have lb:=S1.o.cl T.o (a) (by omega);rw [<-hx,<-fM] at la;rw [<-hy,<-fJ] at lb;have hc:=S1.o.cmp T.o (c) (a) (by omega) (by omega);rw [<-hx,<-hy] at hc;have hv:¬cf x y<0:=by intro h9;rw [hx,hy] at h9;have h8:=(T.o.neg _ _ (S1.o.ok _ (by omega)) (S1.o.ok _ (by omega))).1 h9;have h7:=lR.o;omega
   have hd:decide (cf x y<0)=aP:=decide_eq_false hv;clear hx hy fM fJ;go_wp2_with fail
   go_quiet_grown (first|(go_at_fn g;refine GD (hc _ _)))
   have S2:=η (S1.o.grown nq osq);clear la lb hc S1;generalize grow (wr.drewN nq) osq=w2 at S2 ⊢;clear nq osq ea ec pa pc ba bc ra rc hv hd;go_wp2
   go_roundg (c-i)
   case measure=>omega
   case rel=>exact⟨i,c,rfl,rfl,IZ,by omega,by omega,aZ _,S2,nA⟩
  have nr:¬(i:Int)<(j:Int):=by omega
  have e:i=j:=by omega
  subst e;have HL:=η (aIl (k:=k) (f:=fn d) (a:=a) (b:=b) (i:=i) (HA.o▸cO.o) (by omega) (by omega) (λp q1 q2=>HP.o.1 p (by omega) q2) (λp q1 q2=>HP.o.2 p q1 q2));have wi:aF.wrap ((i:Int)-1)=(i:Int)-1:=by rw [fh];omega
  clear HP;go_wp2_with fail
  go_loopg [13] i (λkx s wr=>∃(q:Nat) (dk:Array Int),s=aG aF q/\a<=q/\q+1<=i/\i-q<=kx/\Hid (Rw w0 blk off n ok dk wr)/\Hid (fn dk=dL (fn d) a (a+1) (q+1)))
  case atStart=>exact⟨a,d,rfl,aZ _,by omega,by omega,S1,(wK (fn d) (a:=a) (m:=a+1) (b:=a+1) (aU rfl)).symm⟩
  case round=>
   clear S1;obtain⟨q,dk,rfl,haq,hqi,mD,S1,HF⟩:=hrel;by_cases hlt:q+1<i
   ·have nr:(q:Int)<(i:Int)-1:=by omega
    have cJ:Hid (fn (swp dk q (q+1))=dL (fn d) a (a+1) (q+1+1)):=by show _=_;rw [Mh dk (by rw [S1.o.size];omega) (by rw [S1.o.size];omega),HF.o];exact aKH (fn d) (i:=q+1) (by omega)
    clear HF;go_wp2_with fail
    obtain⟨iN,fM⟩:∃z9,z9=q:=⟨_,rfl⟩;obtain⟨jN,fJ⟩:∃z9,z9=q+1:=⟨_,rfl⟩;have ea:((q:Int)).toNat=iN:=by omega
    have pa:(0:Int)<=(q:Int):=by omega
    have ba:(q:Int)<(n:Int):=by omega
    have ra:aF.wrap ((q:Int))=(q:Int):=by rw [fh];omega
    have ec:((q:Int)+1).toNat=jN:=by omega
    have pc:(0:Int)<=(q:Int)+1:=by omega
    have bc:(q:Int)+1<(n:Int):=by omega
    have rc:aF.wrap ((q:Int)+1)=(q:Int)+1:=by rw [fh];omega
    obtain⟨x,hx⟩:∃x,x=fn dk (q):=⟨_,rfl⟩;obtain⟨y,hy⟩:∃x,x=fn dk (q+1):=⟨_,rfl⟩;have S3:Hid (Rw w0 blk off n ok (swp dk (q) (q+1)) ((wr.setCell ⟨blk,off+iN,aB⟩ (aG aF y)).setCell ⟨blk,off+jN,aB⟩ (aG aF x)).drew):=by rw [fM,fJ,hx,hy];exact S1.o.swapped T.o (q) (q+1) (by omega) (by omega)
    have ca:=S1.o.c T.o (q) (by omega);have cb:=S1.o.c T.o (q+1) (by omega);have fa:=S1.o.f T.o (q) (by omega);have fb:=S1.o.f T.o (q+1) (by omega);obtain⟨u,cc⟩:=S1.o.c2 T.o (q) (q+1) (by omega) (by omega) (aG aF y);rw [<-fJ,<-fM] at cc;rw [<-hx,<-fM] at ca;rw [<-hy,<-fJ] at cb;rw [<-fM] at fa;rw [<-fJ] at fb;clear S1 hx hy fM fJ;go_wp2_with fail
    go_big_region
    clear ca cb cc fa fb;generalize ((wr.setCell ⟨blk,off+iN,aB⟩ (aG aF y)).setCell ⟨blk,off+jN,aB⟩ (aG aF x)).drew=w3 at S3 ⊢;clear ea ec pa pc ba bc ra rc;go_wp2
    go_roundg (i-(q+1))
    case measure=>omega
    case rel=>exact⟨q+1,swp dk q (q+1),by go_num,by omega,by omega,aZ _,S3,cJ⟩
   have nr:¬(q:Int)<(i:Int)-1:=by omega
   have e:q+1=i:=by omega
   go_wp2_with fail
   go_end0
   refine⟨rfl,dk, ?_, ?_,S1.o⟩
   ·rw [HF.o,e];exact HL.o.2
   rw [HF.o,e];exact HL.o.1
theorem aLI {w0:aJ} {blk off n:Nat} {g:Nat} {cb:Array aN} {cf:Int->Int->Int} {k:Int->Int} {ok:Int->Prop} {d0:Array Int}(T0:tF w0 blk off n g cb cf k ok d0)(cap a m b:Nat)(d:Array Int)(w:aJ)(h:Rw w0 blk off n ok d w)(h1:a<m)(h2:m<b)(h3:b<=n)(hs1:cH k (fn d) a m)(hs2:cH k (fn d) m b)(hx:sW (fn d) a m b)(hA:m≠a+1)(hB:b=m+1):
 aQ aM 265 #[aH (aC ⟨blk,off,aB⟩) n cap,aG aF (a:Nat),aG aF (m:Nat),aG aF (b:Nat),.func (.func g) #[] cb] w (MD w0 blk off n k ok d a b):=by
 have eg:=T0.enters;have hn:=T0.lt;have mixed:aM.follows .mixedOrders=aO:=by kernel_rfl
 have T:=η T0;have HH:=η h;have cj:=η hs1;have cO:=η hs2;have HX:=η hx;clear T0 h hs1 hs2 hx;have w1:aF.wrap ((m:Int)-(a:Int))=(m:Int)-(a:Int):=by rw [fh];omega
 have n1:((m:Int)-(a:Int)==1)=aP:=by rw [beq_eq_false_iff_ne];omega
 have w2:aF.wrap ((b:Int)-(m:Int))=1:=by rw [fh];omega
 have HB:=η hB;have Vr:b<=m+1:=by omega
 clear hB;go_enter a0n,a1H
 go_wp2_with fail
 go_loopg [14,15] (m-a) (λkx s t wr=>∃(i j:Nat),s=aG aF i/\t=aG aF j/\a<=i/\i<=j/\j<=m/\j-i<=kx/\Hid (Rw w0 blk off n ok d wr)/\Hid ((∀p,a<=p->p<i->L k (fn d p) (fn d m))/\∀p,j<=p->p<m->L k (fn d m) (fn d p)))
 case atStart=>exact⟨a,m,rfl,rfl,aZ _,by omega,aZ _,aZ _,HH,λp _ _=>by omega,λp _ _=>by omega⟩
 case round=>
  clear HH;obtain⟨i,j,rfl,rfl,hai,s8,hjm,mD,S1,HP⟩:=hrel;by_cases hlt:i<j
  ·have nr:(i:Int)<(j:Int):=by omega
   obtain⟨c,hc0⟩:∃q,q=(i+j)/2:=⟨_,rfl⟩;have hcz:((i:Int)+(j:Int))/2=(c:Int):=by omega
   have N0:i<=c:=by omega
   have Qf:c<j:=by omega
   clear hc0;by_cases hlv:k (fn d m)<k (fn d c)
   ·have nA:Hid ((∀p,a<=p->p<i->L k (fn d p) (fn d m))/\∀p,c<=p->p<m->L k (fn d m) (fn d p)):=by
     refine⟨HP.o.1,λp q1 q2=> ?_⟩;by_cases e:p=c
     ·rw [e];exact aS hlv
     exact L.trans (aS hlv) (cj.o c p (by omega) (by omega) q2)
    have lR:=η hlv;clear HP hlv;go_wp2_with fail
    obtain⟨iN,fM⟩:∃z9,z9=m:=⟨_,rfl⟩;obtain⟨jN,fJ⟩:∃z9,z9=c:=⟨_,rfl⟩;have ea:((m:Int)).toNat=iN:=by omega
    have pa:(0:Int)<=(m:Int):=by omega
    have ba:(m:Int)<(n:Int):=by omega
    have ra:aF.wrap ((m:Int))=(m:Int):=by rw [fh];omega
    have ec:((c:Int)).toNat=jN:=by omega
    have pc:(0:Int)<=(c:Int):=by omega
    have bc:(c:Int)<(n:Int):=by omega
    have rc:aF.wrap ((c:Int))=(c:Int):=by rw [fh];omega
    obtain⟨x,hx⟩:∃x,x=fn d (m):=⟨_,rfl⟩;obtain⟨y,hy⟩:∃x,x=fn d (c):=⟨_,rfl⟩;have la:=S1.o.cl T.o (m) (by omega);have lb:=S1.o.cl T.o (c) (by omega);rw [<-hx,<-fM] at la;rw [<-hy,<-fJ] at lb;have hc:=S1.o.cmp T.o (m) (c) (by omega) (by omega);rw [<-hx,<-hy] at hc;have hv:cf x y<0:=by rw [hx,hy];exact(T.o.neg _ _ (S1.o.ok _ (by omega)) (S1.o.ok _ (by omega))).2 lR.o
    have hd:decide (cf x y<0)=aO:=decide_eq_true hv;clear hx hy fM fJ;go_wp2_with fail
    go_quiet_grown (first|(go_at_fn g;refine GD (hc _ _)))
    have S2:=η (S1.o.grown nq osq);clear la lb hc S1;generalize grow (wr.drewN nq) osq=w2 at S2 ⊢;clear nq osq ea ec pa pc ba bc ra rc hv hd;go_wp2
    go_roundg (c-i)
    case measure=>omega
    case rel=>exact⟨i,c,rfl,rfl,hai,by omega,by omega,aZ _,S2,nA⟩
   have nA:Hid ((∀p,a<=p->p<c+1->L k (fn d p) (fn d m))/\∀p,j<=p->p<m->L k (fn d m) (fn d p)):=by
    refine⟨λp q1 q2=> ?_,HP.o.2⟩;have hl:L k (fn d c) (fn d m):=L.of_le hlv (HX.o c m (by omega) (by omega) (aZ _) (by omega));by_cases e:p=c
    ·rw [e];exact hl
    exact(cj.o p c q1 (by omega) (by omega)).trans hl
   have lR:=η hlv;clear HP hlv;go_wp2_with fail
   obtain⟨iN,fM⟩:∃z9,z9=m:=⟨_,rfl⟩;obtain⟨jN,fJ⟩:∃z9,z9=c:=⟨_,rfl⟩;have ea:((m:Int)).toNat=iN:=by omega
   have pa:(0:Int)<=(m:Int):=by omega
   have ba:(m:Int)<(n:Int):=by omega
   have ra:aF.wrap ((m:Int))=(m:Int):=by rw [fh];omega
   have ec:((c:Int)).toNat=jN:=by omega
   have pc:(0:Int)<=(c:Int):=by omega
   have bc:(c:Int)<(n:Int):=by omega
   have rc:aF.wrap ((c:Int))=(c:Int):=by rw [fh];omega
   obtain⟨x,hx⟩:∃x,x=fn d (m):=⟨_,rfl⟩;obtain⟨y,hy⟩:∃x,x=fn d (c):=⟨_,rfl⟩;have la:=S1.o.cl T.o (m) (by omega);have lb:=S1.o.cl T.o (c) (by omega);rw [<-hx,<-fM] at la;rw [<-hy,<-fJ] at lb;have hc:=S1.o.cmp T.o (m) (c) (by omega) (by omega);rw [<-hx,<-hy] at hc;have hv:¬cf x y<0:=by intro h9;rw [hx,hy] at h9;have h8:=(T.o.neg _ _ (S1.o.ok _ (by omega)) (S1.o.ok _ (by omega))).1 h9;have h7:=lR.o;omega
   have hd:decide (cf x y<0)=aP:=decide_eq_false hv;clear hx hy fM fJ;go_wp2_with fail
   go_quiet_grown (first|(go_at_fn g;refine GD (hc _ _)))
   have S2:=η (S1.o.grown nq osq);clear la lb hc S1;generalize grow (wr.drewN nq) osq=w2 at S2 ⊢;clear nq osq ea ec pa pc ba bc ra rc hv hd;go_wp2
   go_roundg (j-(c+1))
   case measure=>omega
   case rel=>exact⟨c+1,j,by go_num,rfl,by omega,by omega,hjm,aZ _,S2,nA⟩
  have nr:¬(i:Int)<(j:Int):=by omega
  have e:i=j:=by omega
  subst e;have HL:=η (aIk (k:=k) (f:=fn d) (a:=a) (m:=m) (i:=i) cj.o hai (by omega) HP.o.1 HP.o.2);clear HP;go_wp2_with fail
  go_loopg [17] m (λkx s wr=>∃(q:Nat) (dk:Array Int),s=aG aF q/\i<=q/\q<=m/\q<=kx/\Hid (Rw w0 blk off n ok dk wr)/\Hid (fn dk=dL (fn d) q m (m+1)))
  case atStart=>exact⟨m,d,rfl,by omega,aZ _,aZ _,S1,(wK (fn d) (a:=m) (m:=m) (b:=m+1) (aS rfl)).symm⟩
  case round=>
   clear S1;obtain⟨q,dk,rfl,hiq,hqm,mD,S1,HF⟩:=hrel;by_cases hlt:i<q
   ·have nr:(i:Int)<(q:Int):=by omega
    obtain⟨jp,hjp⟩:∃t,t+1=q:=⟨q-1,by omega⟩;have zjp:(q:Int)=(jp:Int)+1:=by omega
    have aMy:(i:Int)<(jp:Int)+1:=by omega
    have cJ:Hid (fn (swp dk q (q-1))=dL (fn d) (q-1) m (m+1)):=by show _=_;rw [Mh dk (by rw [S1.o.size];omega) (by rw [S1.o.size];omega),HF.o,<-hjp];exact aKD (fn d) (i:=jp) (by omega)
    clear HF;go_wp2_with fail
    obtain⟨iN,fM⟩:∃z9,z9=q:=⟨_,rfl⟩;obtain⟨jN,fJ⟩:∃z9,z9=q-1:=⟨_,rfl⟩;have ea:((jp:Int)+1).toNat=iN:=by omega
    have pa:(0:Int)<=(jp:Int)+1:=by omega
    have ba:(jp:Int)+1<(n:Int):=by omega
    have ra:aF.wrap ((jp:Int)+1)=(jp:Int)+1:=by rw [fh];omega
    have ec:((jp:Int)).toNat=jN:=by omega
    have pc:(0:Int)<=(jp:Int):=by omega
    have bc:(jp:Int)<(n:Int):=by omega
    have rc:aF.wrap ((jp:Int))=(jp:Int):=by rw [fh];omega
    obtain⟨x,hx⟩:∃x,x=fn dk (q):=⟨_,rfl⟩;obtain⟨y,hy⟩:∃x,x=fn dk (q-1):=⟨_,rfl⟩;have S3:Hid (Rw w0 blk off n ok (swp dk (q) (q-1)) ((wr.setCell ⟨blk,off+iN,aB⟩ (aG aF y)).setCell ⟨blk,off+jN,aB⟩ (aG aF x)).drew):=by rw [fM,fJ,hx,hy];exact S1.o.swapped T.o (q) (q-1) (by omega) (by omega)
    have ca:=S1.o.c T.o (q) (by omega);have cb:=S1.o.c T.o (q-1) (by omega);have fa:=S1.o.f T.o (q) (by omega);have fb:=S1.o.f T.o (q-1) (by omega);obtain⟨u,cc⟩:=S1.o.c2 T.o (q) (q-1) (by omega) (by omega) (aG aF y);rw [<-fJ,<-fM] at cc;rw [<-hx,<-fM] at ca;rw [<-hy,<-fJ] at cb;rw [<-fM] at fa;rw [<-fJ] at fb;clear S1 hx hy fM fJ;go_wp2_with fail
    go_big_region
    clear ca cb cc fa fb;generalize ((wr.setCell ⟨blk,off+iN,aB⟩ (aG aF y)).setCell ⟨blk,off+jN,aB⟩ (aG aF x)).drew=w3 at S3 ⊢;clear ea ec pa pc ba bc ra rc;go_wp2
    go_roundg (q-1)
    case measure=>omega
    case rel=>exact⟨q-1,swp dk q (q-1),by first|rfl|go_num|(congr 1;omega),by omega,by omega,aZ _,S3,cJ⟩
   have nr:¬(i:Int)<(q:Int):=by omega
   have e:q=i:=by omega
   go_wp2_with fail
   go_end0
   refine⟨rfl,dk, ?_, ?_,S1.o⟩
   ·rw [HF.o,e,HB.o];exact HL.o.2
   rw [HF.o,e,HB.o];exact HL.o.1
end
section
open Go.Lib Go.Sort Go.Shelf Go.Proofs.YtdokipdchlcmeaaGreat.pJ
theorem aLJ {w0:aJ} {blk off n:Nat} {g:Nat} {cb:Array aN} {cf:Int->Int->Int} {k:Int->Int} {ok:Int->Prop} {d0:Array Int}(T0:tF w0 blk off n g cb cf k ok d0)(cap a m b:Nat)(d:Array Int)(w:aJ)(h:Rw w0 blk off n ok d w)(h1:a<m)(h2:m<b)(h3:b<=n)(hs1:cH k (fn d) a m)(hs2:cH k (fn d) m b)(hx:sW (fn d) a m b)(_:m≠a+1)(hB:b≠m+1)(mid:Nat)(Wt:mid=(a+b)/2)
 (ih:∀(a' m' b':Nat) (d':Array Int) (w':aJ),b'-a'<b-a->a'<m'->m'<b'->b'<=n->Rw w0 blk off n ok d' w'->cH k (fn d') a' m'->cH k (fn d') m' b'->sW (fn d') a' m' b'->aQ aM 265 #[aH (aC ⟨blk,off,aB⟩) n cap,aG aF (a':Nat),aG aF (m':Nat),aG aF (b':Nat),.func (.func g) #[] cb] w' (MD w0 blk off n k ok d' a' b')):
 aQ aM 265 #[aH (aC ⟨blk,off,aB⟩) n cap,aG aF (a:Nat),aG aF (m:Nat),aG aF (b:Nat),.func (.func g) #[] cb] w (MD w0 blk off n k ok d a b):=by
 obtain⟨lo,hi,HC⟩:∃lo hi:Nat,((mid:Int)<(m:Int)/\lo=mid+m-b/\hi=mid)\/(¬(mid:Int)<(m:Int)/\lo=a/\hi=m):=by
  by_cases q:(mid:Int)<(m:Int)
  ·exact⟨_,_,aS ⟨q,rfl,rfl⟩⟩
  exact⟨_,_,aU ⟨q,rfl,rfl⟩⟩
 have eg:=T0.enters;have hn:=T0.lt;have mixed:aM.follows .mixedOrders=aO:=by kernel_rfl
 have T:=η T0;have HH:=η h;have cj:=η hs1;have cO:=η hs2;have HX:=η hx;clear T0 h hs1 hs2 hx;have IH:=η ih;clear ih;have w1:aF.wrap ((m:Int)-(a:Int))=(m:Int)-(a:Int):=by rw [fh];omega
 have n1:((m:Int)-(a:Int)==1)=aP:=by rw [beq_eq_false_iff_ne];omega
 have w2:aF.wrap ((b:Int)-(m:Int))=(b:Int)-(m:Int):=by rw [fh];omega
 have n2:((b:Int)-(m:Int)==1)=aP:=by rw [beq_eq_false_iff_ne];omega
 have hmz:((a:Int)+(b:Int))/2=(mid:Int):=by omega
 have tX:a+b<=2*mid+1:=by omega
 have xW:2*mid<=a+b:=by omega
 clear Wt;rcases HC with⟨mZ,np,Dl⟩|⟨mZ,np,Dl⟩
 all_goals
  go_enter a0n,a1H
  go_wp2_with fail
  go_loopg [20,21] (b-a) (λkx s t wr=>∃(i j:Nat),s=aG aF i/\t=aG aF j/\lo<=i/\i<=j/\j<=hi/\j-i<=kx/\Hid (Rw w0 blk off n ok d wr)/\Hid (vT k (fn d) (mid+m) lo hi i j))
  case atStart=>exact⟨lo,hi,by congr 1;omega,by congr 1;omega,aZ _,by omega,aZ _,by omega,HH,vT.start _ _ (by omega)⟩
  case round=>
   clear HH;obtain⟨s,r,rfl,rfl,hs0,hsr,Ig,mD,S1,HP⟩:=hrel;by_cases hlt:s<r
   ·have nr:(s:Int)<(r:Int):=by omega
    obtain⟨c,hc0⟩:∃q,q=(s+r)/2:=⟨_,rfl⟩;have hcz:((s:Int)+(r:Int))/2=(c:Int):=by omega
    have N0:s<=c:=by omega
    have Qf:c<r:=by omega
    clear hc0;obtain⟨nO,Qx⟩:∃z9,z9=mid+m-1-c:=⟨_,rfl⟩;have hpz:(mid:Int)+(m:Int)-1-(c:Int)=(nO:Int):=by omega
    have lX:nO<b:=by omega
    have jb:m<=nO:=by omega
    by_cases hlv:k (fn d nO)<k (fn d c)
    ·have nA:=η (HP.o.left N0 Qf (Qx▸ aS hlv));clear Qx;have lR:=η hlv;clear HP hlv;go_wp2_with fail
     obtain⟨iN,fM⟩:∃z9,z9=nO:=⟨_,rfl⟩;obtain⟨jN,fJ⟩:∃z9,z9=c:=⟨_,rfl⟩;have ea:((nO:Int)).toNat=iN:=by omega
     have pa:(0:Int)<=(nO:Int):=by omega
     have ba:(nO:Int)<(n:Int):=by omega
     have ra:aF.wrap ((nO:Int))=(nO:Int):=by rw [fh];omega
     have ec:((c:Int)).toNat=jN:=by omega
     have pc:(0:Int)<=(c:Int):=by omega
     have bc:(c:Int)<(n:Int):=by omega
     have rc:aF.wrap ((c:Int))=(c:Int):=by rw [fh];omega
     obtain⟨x,hx⟩:∃x,x=fn d (nO):=⟨_,rfl⟩;obtain⟨y,hy⟩:∃x,x=fn d (c):=⟨_,rfl⟩;have la:=S1.o.cl T.o (nO) (by omega);have lb:=S1.o.cl T.o (c) (by omega);rw [<-hx,<-fM] at la;rw [<-hy,<-fJ] at lb;have hc:=S1.o.cmp T.o (nO) (c) (by omega) (by omega);rw [<-hx,<-hy] at hc;have hv:cf x y<0:=by rw [hx,hy];exact(T.o.neg _ _ (S1.o.ok _ (by omega)) (S1.o.ok _ (by omega))).2 lR.o
     have hd:decide (cf x y<0)=aO:=decide_eq_true hv;clear hx hy fM fJ;go_wp2_with fail
     go_quiet_grown (first|(go_at_fn g;refine GD (hc _ _)))
     have S2:=η (S1.o.grown nq osq);clear la lb hc S1;generalize grow (wr.drewN nq) osq=w2 at S2 ⊢;clear nq osq ea ec pa pc ba bc ra rc hv hd;go_wp2
     go_roundg (c-s)
     case measure=>omega
     case rel=>exact⟨s,c,rfl,rfl,hs0,by omega,by omega,aZ _,S2,nA⟩
    have nA:=η (HP.o.right N0 Qf (Qx▸L.of_le hlv (HX.o c nO (by omega) (by omega) (by omega) (by omega))));clear Qx;have lR:=η hlv;clear HP hlv;go_wp2_with fail
    obtain⟨iN,fM⟩:∃z9,z9=nO:=⟨_,rfl⟩;obtain⟨jN,fJ⟩:∃z9,z9=c:=⟨_,rfl⟩;have ea:((nO:Int)).toNat=iN:=by omega
    have pa:(0:Int)<=(nO:Int):=by omega
    have ba:(nO:Int)<(n:Int):=by omega
    have ra:aF.wrap ((nO:Int))=(nO:Int):=by rw [fh];omega
    have ec:((c:Int)).toNat=jN:=by omega
    have pc:(0:Int)<=(c:Int):=by omega
    have bc:(c:Int)<(n:Int):=by omega
    have rc:aF.wrap ((c:Int))=(c:Int):=by rw [fh];omega
    obtain⟨x,hx⟩:∃x,x=fn d (nO):=⟨_,rfl⟩;obtain⟨y,hy⟩:∃x,x=fn d (c):=⟨_,rfl⟩;have la:=S1.o.cl T.o (nO) (by omega);have lb:=S1.o.cl T.o (c) (by omega);rw [<-hx,<-fM] at la;rw [<-hy,<-fJ] at lb;have hc:=S1.o.cmp T.o (nO) (c) (by omega) (by omega);rw [<-hx,<-hy] at hc;have hv:¬cf x y<0:=by intro h9;rw [hx,hy] at h9;have h8:=(T.o.neg _ _ (S1.o.ok _ (by omega)) (S1.o.ok _ (by omega))).1 h9;have h7:=lR.o;omega
    have hd:decide (cf x y<0)=aP:=decide_eq_false hv;clear hx hy fM fJ;go_wp2_with fail
    go_quiet_grown (first|(go_at_fn g;refine GD (hc _ _)))
    have S2:=η (S1.o.grown nq osq);clear la lb hc S1;generalize grow (wr.drewN nq) osq=w2 at S2 ⊢;clear nq osq ea ec pa pc ba bc ra rc hv hd;go_wp2
    go_roundg (r-(c+1))
    case measure=>omega
    case rel=>exact⟨c+1,r,by go_num,rfl,by omega,by omega,Ig,aZ _,S2,nA⟩
   have nr:¬(s:Int)<(r:Int):=by omega
   have jE:Hid (Cut k (fn d) a m b mid s):=by
    subst np Dl
    first
     |exact HP.o.aEb hlt (by omega) (by omega) (by omega)
     |exact HP.o.aEc hlt (by omega) (by omega)
   clear HP;obtain⟨en,hen⟩:∃q,q=mid+m-s:=⟨_,rfl⟩;have hez:(mid:Int)+(m:Int)-(s:Int)=(en:Int):=by omega
   have iy:=η hen;have WM:en+s<=mid+m:=by omega
   have WN:mid+m<=en+s:=by omega
   clear hen;by_cases q1:s<m
   ·have f1:(s:Int)<(m:Int):=by omega
    have f5:(mid:Int)<(en:Int):=by omega
    by_cases q2:s<mid
    ·have f2:(s:Int)<(mid:Int):=by omega
     have f6:(m:Int)<(en:Int):=by omega
     by_cases q3:a<s
     ·have f3:(a:Int)<(s:Int):=by omega
      by_cases q4:en<b
      ·have f4:(en:Int)<(b:Int):=by omega
       have HR:=η (SE S1.o T.o (.func (.func g) #[] cb) cap s m en (by omega) (by omega) (by omega));go_wp2_with fail
       refine HR.o.mono ?_;rintro e w2 ⟨rfl,d2,hf2,R2⟩;have cJ:=η hf2;have S2:=η R2;clear hf2 R2 HR;have cR:=η (jE.o.halves cj.o cO.o HX.o);rw [<-iy.o,<-cJ.o] at cR;have HI:=η (IH.o a s mid d2 w2 (by omega) (by omega) (by omega) (by omega) S2.o cR.o.1 cR.o.2.1 cR.o.2.2.1);go_wp2_with fail
       refine HI.o.mono ?_;rintro e w3 ⟨rfl,d3,AX,s3,R3⟩;have eC:=η AX;have jW:=η s3;have S3:=η R3;clear AX s3 R3 HI;have fg:=η (IH.o mid en b d3 w3 (by omega) (by omega) (by omega) (by omega) S3.o (cH.o cR.o.2.2.2.1 λp q1 q2=>eC.o.o p (aU q1)) (cH.o cR.o.2.2.2.2.1 λp q1 q2=>eC.o.o p (aU (by omega))) (sW.o cR.o.2.2.2.2.2 λp q1 q2=>eC.o.o p (aU q1)));go_wp2_with fail
       refine fg.o.mono ?_;rintro e w4 ⟨rfl,d4,AY,s4,R4⟩;have jV:=η AY;have jX:=η s4;have S4:=η R4;clear AY s4 R4 fg;have HL:=η (jE.o.law cj.o cO.o (by rw [<-iy.o];exact cJ.o) eC.o jW.o jV.o jX.o (by omega) (by omega));go_wp2_with fail
       all_goals go_end0
       all_goals exact⟨rfl,d4,HL.o.2,HL.o.1,S4.o⟩
      have f4:¬(en:Int)<(b:Int):=by omega
      have HR:=η (SE S1.o T.o (.func (.func g) #[] cb) cap s m en (by omega) (by omega) (by omega));go_wp2_with fail
      refine HR.o.mono ?_;rintro e w2 ⟨rfl,d2,hf2,R2⟩;have cJ:=η hf2;have S2:=η R2;clear hf2 R2 HR;have cR:=η (jE.o.halves cj.o cO.o HX.o);rw [<-iy.o,<-cJ.o] at cR;have HI:=η (IH.o a s mid d2 w2 (by omega) (by omega) (by omega) (by omega) S2.o cR.o.1 cR.o.2.1 cR.o.2.2.1);go_wp2_with fail
      refine HI.o.mono ?_;rintro e w3 ⟨rfl,d3,AX,s3,R3⟩;have eC:=η AX;have jW:=η s3;have S3:=η R3;clear AX s3 R3 HI;have jV:=η (cz.refl (fn d3) mid b);have jX:Hid (cH k (fn d3) mid b):=cH.o ((show en=b by omega)▸cR.o.2.2.2.1) λp q1 q2=>eC.o.o p (aU (by omega))
      have HL:=η (jE.o.law cj.o cO.o (by rw [<-iy.o];exact cJ.o) eC.o jW.o jV.o jX.o (by omega) (by omega));go_wp2_with fail
      all_goals go_end0
      all_goals exact⟨rfl,d3,HL.o.2,HL.o.1,S3.o⟩
     have f3:¬(a:Int)<(s:Int):=by omega
     by_cases q4:en<b
     ·have f4:(en:Int)<(b:Int):=by omega
      have HR:=η (SE S1.o T.o (.func (.func g) #[] cb) cap s m en (by omega) (by omega) (by omega));go_wp2_with fail
      refine HR.o.mono ?_;rintro e w2 ⟨rfl,d2,hf2,R2⟩;have cJ:=η hf2;have S2:=η R2;clear hf2 R2 HR;have cR:=η (jE.o.halves cj.o cO.o HX.o);rw [<-iy.o,<-cJ.o] at cR;have eC:=η (cz.refl (fn d2) a mid);have jW:Hid (cH k (fn d2) a mid):=(show s=a by omega)▸cR.o.2.1;have fg:=η (IH.o mid en b d2 w2 (by omega) (by omega) (by omega) (by omega) S2.o (cH.o cR.o.2.2.2.1 λp q1 q2=>eC.o.o p (aU q1)) (cH.o cR.o.2.2.2.2.1 λp q1 q2=>eC.o.o p (aU (by omega))) (sW.o cR.o.2.2.2.2.2 λp q1 q2=>eC.o.o p (aU q1)));go_wp2_with fail
      refine fg.o.mono ?_;rintro e w4 ⟨rfl,d4,AY,s4,R4⟩;have jV:=η AY;have jX:=η s4;have S4:=η R4;clear AY s4 R4 fg;have HL:=η (jE.o.law cj.o cO.o (by rw [<-iy.o];exact cJ.o) eC.o jW.o jV.o jX.o (by omega) (by omega));go_wp2_with fail
      all_goals go_end0
      all_goals exact⟨rfl,d4,HL.o.2,HL.o.1,S4.o⟩
     have f4:¬(en:Int)<(b:Int):=by omega
     have HR:=η (SE S1.o T.o (.func (.func g) #[] cb) cap s m en (by omega) (by omega) (by omega));go_wp2_with fail
     refine HR.o.mono ?_;rintro e w2 ⟨rfl,d2,hf2,R2⟩;have cJ:=η hf2;have S2:=η R2;clear hf2 R2 HR;have cR:=η (jE.o.halves cj.o cO.o HX.o);rw [<-iy.o,<-cJ.o] at cR;have eC:=η (cz.refl (fn d2) a mid);have jW:Hid (cH k (fn d2) a mid):=(show s=a by omega)▸cR.o.2.1;have jV:=η (cz.refl (fn d2) mid b);have jX:Hid (cH k (fn d2) mid b):=cH.o ((show en=b by omega)▸cR.o.2.2.2.1) λp q1 q2=>eC.o.o p (aU (by omega))
     have HL:=η (jE.o.law cj.o cO.o (by rw [<-iy.o];exact cJ.o) eC.o jW.o jV.o jX.o (by omega) (by omega));go_wp2_with fail
     all_goals go_end0
     all_goals exact⟨rfl,d2,HL.o.2,HL.o.1,S2.o⟩
    have f2:¬(s:Int)<(mid:Int):=by omega
    have f6:¬(m:Int)<(en:Int):=by omega
    by_cases q3:a<s
    ·have f3:(a:Int)<(s:Int):=by omega
     by_cases q4:en<b
     ·have f4:(en:Int)<(b:Int):=by omega
      have cJ:Hid (fn d=dL (fn d) s m en):=(wK _ (aU (by omega))).symm;have cR:=η (jE.o.halves cj.o cO.o HX.o);rw [<-iy.o,<-cJ.o] at cR;have eC:=η (cz.refl (fn d) a mid);have jW:Hid (cH k (fn d) a mid):=(show s=mid by omega)▸cR.o.1;have fg:=η (IH.o mid en b d wr (by omega) (by omega) (by omega) (by omega) S1.o (cH.o cR.o.2.2.2.1 λp q1 q2=>eC.o.o p (aU q1)) (cH.o cR.o.2.2.2.2.1 λp q1 q2=>eC.o.o p (aU (by omega))) (sW.o cR.o.2.2.2.2.2 λp q1 q2=>eC.o.o p (aU q1)));go_wp2_with fail
      refine fg.o.mono ?_;rintro e w4 ⟨rfl,d4,AY,s4,R4⟩;have jV:=η AY;have jX:=η s4;have S4:=η R4;clear AY s4 R4 fg;have HL:=η (jE.o.law cj.o cO.o (by rw [<-iy.o];exact cJ.o) eC.o jW.o jV.o jX.o (by omega) (by omega));go_wp2_with fail
      all_goals go_end0
      all_goals exact⟨rfl,d4,HL.o.2,HL.o.1,S4.o⟩
     have f4:¬(en:Int)<(b:Int):=by omega
     have cJ:Hid (fn d=dL (fn d) s m en):=(wK _ (aU (by omega))).symm;have cR:=η (jE.o.halves cj.o cO.o HX.o);rw [<-iy.o,<-cJ.o] at cR;have eC:=η (cz.refl (fn d) a mid);have jW:Hid (cH k (fn d) a mid):=(show s=mid by omega)▸cR.o.1;have jV:=η (cz.refl (fn d) mid b);have jX:Hid (cH k (fn d) mid b):=cH.o ((show en=b by omega)▸cR.o.2.2.2.1) λp q1 q2=>eC.o.o p (aU (by omega))
     have HL:=η (jE.o.law cj.o cO.o (by rw [<-iy.o];exact cJ.o) eC.o jW.o jV.o jX.o (by omega) (by omega));go_wp2_with fail
     all_goals go_end0
     all_goals exact⟨rfl,d,HL.o.2,HL.o.1,S1.o⟩
    have f3:¬(a:Int)<(s:Int):=by omega
    by_cases q4:en<b
    ·have f4:(en:Int)<(b:Int):=by omega
     have cJ:Hid (fn d=dL (fn d) s m en):=(wK _ (aU (by omega))).symm;have cR:=η (jE.o.halves cj.o cO.o HX.o);rw [<-iy.o,<-cJ.o] at cR;have eC:=η (cz.refl (fn d) a mid);have jW:Hid (cH k (fn d) a mid):=(show s=mid by omega)▸cR.o.1;have fg:=η (IH.o mid en b d wr (by omega) (by omega) (by omega) (by omega) S1.o (cH.o cR.o.2.2.2.1 λp q1 q2=>eC.o.o p (aU q1)) (cH.o cR.o.2.2.2.2.1 λp q1 q2=>eC.o.o p (aU (by omega))) (sW.o cR.o.2.2.2.2.2 λp q1 q2=>eC.o.o p (aU q1)));go_wp2_with fail
     refine fg.o.mono ?_;rintro e w4 ⟨rfl,d4,AY,s4,R4⟩;have jV:=η AY;have jX:=η s4;have S4:=η R4;clear AY s4 R4 fg;have HL:=η (jE.o.law cj.o cO.o (by rw [<-iy.o];exact cJ.o) eC.o jW.o jV.o jX.o (by omega) (by omega));go_wp2_with fail
     all_goals go_end0
     all_goals exact⟨rfl,d4,HL.o.2,HL.o.1,S4.o⟩
    have f4:¬(en:Int)<(b:Int):=by omega
    have cJ:Hid (fn d=dL (fn d) s m en):=(wK _ (aU (by omega))).symm;have cR:=η (jE.o.halves cj.o cO.o HX.o);rw [<-iy.o,<-cJ.o] at cR;have eC:=η (cz.refl (fn d) a mid);have jW:Hid (cH k (fn d) a mid):=(show s=mid by omega)▸cR.o.1;have jV:=η (cz.refl (fn d) mid b);have jX:Hid (cH k (fn d) mid b):=cH.o ((show en=b by omega)▸cR.o.2.2.2.1) λp q1 q2=>eC.o.o p (aU (by omega))
    have HL:=η (jE.o.law cj.o cO.o (by rw [<-iy.o];exact cJ.o) eC.o jW.o jV.o jX.o (by omega) (by omega));go_wp2_with fail
    all_goals go_end0
    all_goals exact⟨rfl,d,HL.o.2,HL.o.1,S1.o⟩
   have f1:¬(s:Int)<(m:Int):=by omega
   have f5:¬(mid:Int)<(en:Int):=by omega
   by_cases q2:s<mid
   ·have f2:(s:Int)<(mid:Int):=by omega
    have f6:(m:Int)<(en:Int):=by omega
    by_cases q3:a<s
    ·have f3:(a:Int)<(s:Int):=by omega
     by_cases q4:en<b
     ·have f4:(en:Int)<(b:Int):=by omega
      have cJ:Hid (fn d=dL (fn d) s m en):=(wK _ (aS (by omega))).symm;have cR:=η (jE.o.halves cj.o cO.o HX.o);rw [<-iy.o,<-cJ.o] at cR;have HI:=η (IH.o a s mid d wr (by omega) (by omega) (by omega) (by omega) S1.o cR.o.1 cR.o.2.1 cR.o.2.2.1);go_wp2_with fail
      refine HI.o.mono ?_;rintro e w3 ⟨rfl,d3,AX,s3,R3⟩;have eC:=η AX;have jW:=η s3;have S3:=η R3;clear AX s3 R3 HI;have jV:=η (cz.refl (fn d3) mid b);have jX:Hid (cH k (fn d3) mid b):=cH.o ((show en=mid by omega)▸cR.o.2.2.2.2.1) λp q1 q2=>eC.o.o p (aU (by omega))
      have HL:=η (jE.o.law cj.o cO.o (by rw [<-iy.o];exact cJ.o) eC.o jW.o jV.o jX.o (by omega) (by omega));go_wp2_with fail
      all_goals go_end0
      all_goals exact⟨rfl,d3,HL.o.2,HL.o.1,S3.o⟩
     have f4:¬(en:Int)<(b:Int):=by omega
     have cJ:Hid (fn d=dL (fn d) s m en):=(wK _ (aS (by omega))).symm;have cR:=η (jE.o.halves cj.o cO.o HX.o);rw [<-iy.o,<-cJ.o] at cR;have HI:=η (IH.o a s mid d wr (by omega) (by omega) (by omega) (by omega) S1.o cR.o.1 cR.o.2.1 cR.o.2.2.1);go_wp2_with fail
     refine HI.o.mono ?_;rintro e w3 ⟨rfl,d3,AX,s3,R3⟩;have eC:=η AX;have jW:=η s3;have S3:=η R3;clear AX s3 R3 HI;have jV:=η (cz.refl (fn d3) mid b);have jX:Hid (cH k (fn d3) mid b):=cH.o ((show en=mid by omega)▸cR.o.2.2.2.2.1) λp q1 q2=>eC.o.o p (aU (by omega))
     have HL:=η (jE.o.law cj.o cO.o (by rw [<-iy.o];exact cJ.o) eC.o jW.o jV.o jX.o (by omega) (by omega));go_wp2_with fail
     all_goals go_end0
     all_goals exact⟨rfl,d3,HL.o.2,HL.o.1,S3.o⟩
    have f3:¬(a:Int)<(s:Int):=by omega
    by_cases q4:en<b
    ·have f4:(en:Int)<(b:Int):=by omega
     have cJ:Hid (fn d=dL (fn d) s m en):=(wK _ (aS (by omega))).symm;have cR:=η (jE.o.halves cj.o cO.o HX.o);rw [<-iy.o,<-cJ.o] at cR;have eC:=η (cz.refl (fn d) a mid);have jW:Hid (cH k (fn d) a mid):=(show s=a by omega)▸cR.o.2.1;have jV:=η (cz.refl (fn d) mid b);have jX:Hid (cH k (fn d) mid b):=cH.o ((show en=mid by omega)▸cR.o.2.2.2.2.1) λp q1 q2=>eC.o.o p (aU (by omega))
     have HL:=η (jE.o.law cj.o cO.o (by rw [<-iy.o];exact cJ.o) eC.o jW.o jV.o jX.o (by omega) (by omega));go_wp2_with fail
     all_goals go_end0
     all_goals exact⟨rfl,d,HL.o.2,HL.o.1,S1.o⟩
    have f4:¬(en:Int)<(b:Int):=by omega
    have cJ:Hid (fn d=dL (fn d) s m en):=(wK _ (aS (by omega))).symm;have cR:=η (jE.o.halves cj.o cO.o HX.o);rw [<-iy.o,<-cJ.o] at cR;have eC:=η (cz.refl (fn d) a mid);have jW:Hid (cH k (fn d) a mid):=(show s=a by omega)▸cR.o.2.1;have jV:=η (cz.refl (fn d) mid b);have jX:Hid (cH k (fn d) mid b):=cH.o ((show en=mid by omega)▸cR.o.2.2.2.2.1) λp q1 q2=>eC.o.o p (aU (by omega))
    have HL:=η (jE.o.law cj.o cO.o (by rw [<-iy.o];exact cJ.o) eC.o jW.o jV.o jX.o (by omega) (by omega));go_wp2_with fail
    all_goals go_end0
    all_goals exact⟨rfl,d,HL.o.2,HL.o.1,S1.o⟩
   have f2:¬(s:Int)<(mid:Int):=by omega
   have f6:¬(m:Int)<(en:Int):=by omega
   by_cases q3:a<s
   ·have f3:(a:Int)<(s:Int):=by omega
    by_cases q4:en<b
    ·have f4:(en:Int)<(b:Int):=by omega
     have cJ:Hid (fn d=dL (fn d) s m en):=(wK _ (aS (by omega))).symm;have cR:=η (jE.o.halves cj.o cO.o HX.o);rw [<-iy.o,<-cJ.o] at cR;have eC:=η (cz.refl (fn d) a mid);have jW:Hid (cH k (fn d) a mid):=(show s=mid by omega)▸cR.o.1;have jV:=η (cz.refl (fn d) mid b);have jX:Hid (cH k (fn d) mid b):=cH.o ((show en=mid by omega)▸cR.o.2.2.2.2.1) λp q1 q2=>eC.o.o p (aU (by omega))
     have HL:=η (jE.o.law cj.o cO.o (by rw [<-iy.o];exact cJ.o) eC.o jW.o jV.o jX.o (by omega) (by omega));go_wp2_with fail
     all_goals go_end0
     all_goals exact⟨rfl,d,HL.o.2,HL.o.1,S1.o⟩
    have f4:¬(en:Int)<(b:Int):=by omega
    have cJ:Hid (fn d=dL (fn d) s m en):=(wK _ (aS (by omega))).symm;have cR:=η (jE.o.halves cj.o cO.o HX.o);rw [<-iy.o,<-cJ.o] at cR;have eC:=η (cz.refl (fn d) a mid);have jW:Hid (cH k (fn d) a mid):=(show s=mid by omega)▸cR.o.1;have jV:=η (cz.refl (fn d) mid b);have jX:Hid (cH k (fn d) mid b):=cH.o ((show en=mid by omega)▸cR.o.2.2.2.2.1) λp q1 q2=>eC.o.o p (aU (by omega))
    have HL:=η (jE.o.law cj.o cO.o (by rw [<-iy.o];exact cJ.o) eC.o jW.o jV.o jX.o (by omega) (by omega));go_wp2_with fail
    all_goals go_end0
    all_goals exact⟨rfl,d,HL.o.2,HL.o.1,S1.o⟩
   have f3:¬(a:Int)<(s:Int):=by omega
   by_cases q4:en<b
   ·have f4:(en:Int)<(b:Int):=by omega
    have cJ:Hid (fn d=dL (fn d) s m en):=(wK _ (aS (by omega))).symm;have cR:=η (jE.o.halves cj.o cO.o HX.o);rw [<-iy.o,<-cJ.o] at cR;have eC:=η (cz.refl (fn d) a mid);have jW:Hid (cH k (fn d) a mid):=(show s=mid by omega)▸cR.o.1;have jV:=η (cz.refl (fn d) mid b);have jX:Hid (cH k (fn d) mid b):=cH.o ((show en=mid by omega)▸cR.o.2.2.2.2.1) λp q1 q2=>eC.o.o p (aU (by omega))
    have HL:=η (jE.o.law cj.o cO.o (by rw [<-iy.o];exact cJ.o) eC.o jW.o jV.o jX.o (by omega) (by omega));go_wp2_with fail
    all_goals go_end0
    all_goals exact⟨rfl,d,HL.o.2,HL.o.1,S1.o⟩
   have f4:¬(en:Int)<(b:Int):=by omega
   have cJ:Hid (fn d=dL (fn d) s m en):=(wK _ (aS (by omega))).symm;have cR:=η (jE.o.halves cj.o cO.o HX.o);rw [<-iy.o,<-cJ.o] at cR;have eC:=η (cz.refl (fn d) a mid);have jW:Hid (cH k (fn d) a mid):=(show s=mid by omega)▸cR.o.1;have jV:=η (cz.refl (fn d) mid b);have jX:Hid (cH k (fn d) mid b):=cH.o ((show en=mid by omega)▸cR.o.2.2.2.2.1) λp q1 q2=>eC.o.o p (aU (by omega))
   have HL:=η (jE.o.law cj.o cO.o (by rw [<-iy.o];exact cJ.o) eC.o jW.o jV.o jX.o (by omega) (by omega));go_wp2_with fail
   all_goals go_end0
   all_goals exact⟨rfl,d,HL.o.2,HL.o.1,S1.o⟩
end
section
open Go.Lib Go.Sort Go.Shelf Go.Proofs.YtdokipdchlcmeaaGreat.pJ
theorem Ye {w0:aJ} {blk off n:Nat} {g:Nat} {cb:Array aN} {cf:Int->Int->Int} {k:Int->Int} {ok:Int->Prop} {d0:Array Int}(T:tF w0 blk off n g cb cf k ok d0)(cap:Nat):∀(N a m b:Nat) (d:Array Int) (w:aJ),b-a<=N->a<m->m<b->b<=n->Rw w0 blk off n ok d w->cH k (fn d) a m->cH k (fn d) m b->sW (fn d) a m b->
 aQ aM 265 #[aH (aC ⟨blk,off,aB⟩) n cap,aG aF (a:Nat),aG aF (m:Nat),aG aF (b:Nat),.func (.func g) #[] cb] w (MD w0 blk off n k ok d a b)
 |0,a,m,b,d,w,hN,h1,h2,_,_,_,_,_=>by omega
 |N+1,a,m,b,d,w,hN,h1,h2,h3,h,hs1,hs2,hx=>by
  by_cases hA:m=a+1
  ·exact aLH T cap a m b d w h h1 h2 h3 hs1 hs2 hx hA
  by_cases hB:b=m+1
  ·exact aLI T cap a m b d w h h1 h2 h3 hs1 hs2 hx hA hB
  exact aLJ T cap a m b d w h h1 h2 h3 hs1 hs2 hx hA hB _ rfl λa' m' b' d' w' q1 q2 q3 q4 q5 q6 q7 q8=>Ye T cap N a' m' b' d' w' (by omega) q2 q3 q4 q5 q6 q7 q8
end
section
open Go.Lib Go.Sort Go.Shelf Go.Proofs.YtdokipdchlcmeaaGreat.pJ
def a0V(w0:aJ)(blk off n:Nat)(k:Int->Int)(ok:Int->Prop)(d:Array Int):dX->aJ->Prop:=λe w'=>e=aT (bC #[])/\∃d':Array Int,cz (fn d) (fn d') 0 n/\cH k (fn d') 0 n/\Rw w0 blk off n ok d' w'
theorem aL2 {w0:aJ} {blk off n:Nat} {g:Nat} {cb:Array aN} {cf:Int->Int->Int} {k:Int->Int} {ok:Int->Prop} {d0:Array Int}(T0:tF w0 blk off n g cb cf k ok d0)(cap:Nat)(d:Array Int)(w:aJ)(h:Rw w0 blk off n ok d w)(kM:n<=1000000)(h0:∀p,p<n->fn d p=p):
 aQ aM 247 #[aH (aC ⟨blk,off,aB⟩) n cap,aG aF (n:Nat),.func (.func g) #[] cb] w (a0V w0 blk off n k ok d):=by
 have T:=η T0;have HH:=η h;have H0:=η h0;go_enter func247,ntmps247
 go_wp2_with fail
 go_loopg [7,8] (n+20) (λkx s t wr=>∃(a b:Nat) (dk:Array Int),s=aG aF a/\t=aG aF b/\b<=a+20/\a+20<=b/\a<=n/\n+20-a<=kx/\Hid (Rw w0 blk off n ok dk wr)/\Hid (cz (fn d) (fn dk) 0 n/\vL k n (fn dk) a))
 case atStart=>exact⟨0,20,d,rfl,rfl,by omega,by omega,bM _,by omega,HH,cz.refl _ _ _,vL.start H0.o⟩
 case round=>
  obtain⟨a,b,dk,rfl,rfl,hb1,hb2,han,mD,S1,HI⟩:=hrel;by_cases hlt:b<=n
  ·have nr:(b:Int)<=(n:Int):=by omega
   have HC:=η (a4v T.o cap a b dk wr S1.o (by omega) hlt (HI.o.2.rising hlt));go_wp2_with fail
   refine HC.o.mono ?_;rintro e w2 ⟨rfl,d2,gg,s2,R2⟩;have fg:Hid (cz (fn d) (fn d2) 0 n/\vL k n (fn d2) b):=by
    have e:b=a+20:=by omega
    subst e;exact⟨HI.o.1.trans (gg.mono (bM _) hlt),HI.o.2.next hlt gg s2⟩
   have S2:=η R2;go_wp2_with fail
   go_roundg (n+20-b)
   case measure=>omega
   case rel=>exact⟨b,b+20,d2,rfl,by go_num,aZ _,aZ _,hlt,aZ _,S2,fg⟩
  have nr:¬(b:Int)<=(n:Int):=by omega
  have HC:=η (a4v T.o cap a n dk wr S1.o han (aZ _) (HI.o.2.rising (aZ _)));go_wp2_with fail
  refine HC.o.mono ?_;rintro e w2 ⟨rfl,d2,gg,s2,R2⟩;have fg:Hid (cz (fn d) (fn d2) 0 n/\zA k n 20 (fn d2)):=⟨HI.o.1.trans (gg.mono (bM _) (aZ _)),HI.o.2.last (by omega) gg s2⟩;have S2:=η R2;go_wp2_with fail
  go_loopg [6,7,8,9] n (λkx s _ _ _ wr=>∃(z:Nat) (dk:Array Int),s=aG aF z/\20<=z/\z<=2*n+20/\n-z<=kx/\Hid (Rw w0 blk off n ok dk wr)/\Hid (cz (fn d) (fn dk) 0 n/\zA k n z (fn dk)))
  case atStart=>exact⟨20,d2,rfl,by omega,by omega,by omega,S2,fg⟩
  case round=>
   obtain⟨z,dz,rfl,hz1,hz2,mD,S1,HB⟩:=hrel;by_cases hlt:z<n
   ·have nr:(z:Int)<(n:Int):=by omega
    obtain⟨wo,rfl⟩:∃wo:aJ,wo=wr:=⟨_,rfl⟩;have Oj:Hid (cz (fn d) (fn dz) 0 n/\rY k n z (fn dz) 0):=⟨HB.o.1,HB.o.2.start⟩;go_wp2_with fail
    go_loopg [7,8] (n+2*z) (λkx s t wr=>∃(a b:Nat) (dk:Array Int),s=aG aF a/\t=aG aF b/\b<=a+2*z/\a+2*z<=b/\a<=n/\n+2*z-a<=kx/\Hid (Rw w0 blk off n ok dk wr)/\Hid (cz (fn d) (fn dk) 0 n/\rY k n z (fn dk) a))
    case atStart=>exact⟨0,2*z,dz,rfl,by first|rfl|go_num,by omega,by omega,bM _,by omega,S1,Oj⟩
    case round=>
     obtain⟨a,b,dk,rfl,rfl,hb1,hb2,han,mD,S1,HI⟩:=hrel;by_cases sA:b<=n
     ·have Wp:(b:Int)<=(n:Int):=by omega
      have HR:=η (HI.o.2.runs (b:=b) (by omega) sA hb1 (by omega));have HC:=η (Ye T.o cap (b-a) a (a+z) b dk wr (aZ _) (by omega) (by omega) sA S1.o HR.o.1 HR.o.2.1 HR.o.2.2);go_wp2_with fail
      refine HC.o.mono ?_;rintro e w2 ⟨rfl,d2,gg,s2,R2⟩;have fg:Hid (cz (fn d) (fn d2) 0 n/\rY k n z (fn d2) b):=by
       have e:b=a+2*z:=by omega
       subst e;exact⟨HI.o.1.trans (gg.mono (bM _) sA),HI.o.2.next (by omega) sA gg s2⟩
      have S2:=η R2;go_wp2_with fail
      go_roundg (n+2*z-b)
      case measure=>omega
      case rel=>exact⟨b,b+2*z,d2,rfl,by go_num,aZ _,aZ _,sA,aZ _,S2,fg⟩
     have Wp:¬(b:Int)<=(n:Int):=by omega
     by_cases hm:a+z<n
     ·have hmz:(a:Int)+(z:Int)<(n:Int):=by omega
      have HR:=η (HI.o.2.runs (b:=n) (by omega) (aZ _) (by omega) (by omega));have HC:=η (Ye T.o cap (n-a) a (a+z) n dk wr (aZ _) (by omega) hm (aZ _) S1.o HR.o.1 HR.o.2.1 HR.o.2.2);go_wp2_with fail
      refine HC.o.mono ?_;rintro e w2 ⟨rfl,d2,gg,s2,R2⟩;have fg:Hid (cz (fn d) (fn d2) 0 n/\zA k n (2*z) (fn d2)):=⟨HI.o.1.trans (gg.mono (bM _) (aZ _)),HI.o.2.last (by omega) (by omega) gg s2⟩;have S2:=η R2;go_wp2_with fail
      go_roundg (n-2*z)
      case measure=>omega
      case rel=>exact⟨2*z,d2,by first|rfl|go_num|(congr 1;omega),by omega,by omega,aZ _,S2,fg⟩
     have hmz:¬(a:Int)+(z:Int)<(n:Int):=by omega
     have fg:Hid (cz (fn d) (fn dk) 0 n/\zA k n (2*z) (fn dk)):=⟨HI.o.1,HI.o.2.none (by omega) (by omega)⟩;go_wp2_with fail
     go_roundg (n-2*z)
     case measure=>omega
     case rel=>exact⟨2*z,dk,by first|rfl|go_num|(congr 1;omega),by omega,by omega,aZ _,S1,fg⟩
   have nr:¬(z:Int)<(n:Int):=by omega
   go_wp2_with fail
   go_end0
   exact⟨rfl,dz,HB.o.1,HB.o.2.done (by omega),S1.o⟩
theorem a7c {w0:aJ} {blk off n:Nat} {g:Nat} {cb:Array aN} {cf:Int->Int->Int} {k:Int->Int} {ok:Int->Prop} {d0:Array Int}(T0:tF w0 blk off n g cb cf k ok d0)(cap:Nat)(d:Array Int)(w:aJ)(h:Rw w0 blk off n ok d w)(kM:n<=1000000)(h0:∀p,p<n->fn d p=p):
 aQ aM 207 #[aH (aC ⟨blk,off,aB⟩) n cap,.func (.func g) #[] cb] w (a0V w0 blk off n k ok d):=by
 have HC:=η (aL2 T0 cap d w h kM h0);go_enter func207,ntmps207
 go_wp2_with fail
 refine HC.o.mono ?_;rintro e w2 ⟨rfl,hd⟩;have HD:=η hd;go_wp2_with fail
 go_end0
 exact⟨rfl,HD.o⟩
end
section
open Go.Lib Go.Proofs.YtdokipdchlcmeaaGreat.DivLaw
theorem aLr(a b:Nat)(w:aJ)(ha:a<18446744073709551616)(hb:b<18446744073709551616):
 aQ aM 294 #[aG .u64 a,aG .u64 b] w λe w'=>e=aT (bP #[aG .u64 ((a*b/18446744073709551616:Nat):Int),aG .u64 ((a*b % 18446744073709551616:Nat):Int)])/\β w w':=by
 have HC:=λW=>η (bits_Mul64 a b ha hb W)
 clear ha hb;generalize a*b/18446744073709551616=H at*;generalize a*b % 18446744073709551616=L at*;go_enter func294,ntmps294
 go_wp2_with fail
 refine(HC _).o.mono ?_;rintro e w' ⟨rfl,rfl⟩;go_wp2_with fail
 exact bodyPost_ret (v:=bP #[aG .u64 (H:Int),aG .u64 (L:Int)]) (by simp [results,results294,go_sem]) rfl ⟨rfl,(aX _ _).alloc (aZ _) _⟩
theorem aLo(hi lo c D M:Nat)(w:aJ)(h2:hi<c)(h3:c<18446744073709551616)(np:lo<18446744073709551616)(hD:(hi*18446744073709551616+lo)/c=D)(hM:(hi*18446744073709551616+lo) % c=M):
 aQ aM 293 #[bP #[aG .u64 hi,aG .u64 lo],aG .u64 c] w λe w'=>e=aT (bC #[aG .u64 (D:Int),aG .u64 (M:Int),ν 0])/\β w w':=by
 have HC:=λW=>η (aF0 hi lo c W h2 h3 np)
 rw [hD,hM] at HC;clear h3 np hD hM;have z1:((c:Int)==0)=aP:=by grind
 have z3:¬(c:Int)<=(hi:Int):=by omega
 go_enter func293,ntmps293
 go_wp2_with fail
 refine(HC _).o.mono ?_;rintro e w' ⟨rfl,n,rfl⟩;go_wp2_with fail
 go_ret3;exact⟨rfl,below_drewN σ n⟩
theorem aID(a b c:Nat)(w:aJ)(ha:a<18446744073709551616)(hb:b<18446744073709551616)(h2:a*b/18446744073709551616<c)(h3:c<18446744073709551616):
 aQ aM 290 #[aG .u64 a,aG .u64 b,aG .u64 c] w λe w'=>e=aT (bC #[aG .u64 ((a*b/c:Nat):Int),aG .u64 ((a*b % c:Nat):Int),ν 0])/\β w w':=by
 have HC:=λW=>η (aLr a b W ha hb)
 have e:a*b/18446744073709551616*18446744073709551616+a*b % 18446744073709551616=a*b:=by omega
 have HD:=λW=>η (aLo (a*b/18446744073709551616) (a*b % 18446744073709551616) c (a*b/c) (a*b % c) W h2 h3 (by omega) (by rw [e]) (by rw [e]))
 clear e ha hb h2 h3;generalize a*b/18446744073709551616=H at*;generalize a*b % 18446744073709551616=L at*;generalize a*b/c=D at*;generalize a*b % c=M at*;go_enter func290,ntmps290
 go_wp2_with fail
 refine(HC _).o.mono ?_;rintro e w1 ⟨rfl,hb1⟩;have HB:=η hb1;clear hb1;go_wp2_with fail
 refine(HD _).o.mono ?_;rintro e w2 ⟨rfl,hb2⟩;have aV:=τ HB hb2;clear hb2;go_wp2_with fail
 go_ret3;exact⟨rfl,aV.o⟩
theorem aJt(T wt S:Nat)(w:aJ)(hT:T<9223372036854775808)(hw:wt<=S)(h0:0<S)(hS:S<9223372036854775808):
 aQ aM 280 #[ν T,ν wt,ν S] w λe w'=>e=aT (bC #[ν ((T*wt/S:Nat):Int),ν ((T*wt % S:Nat):Int),ν 0])/\β w w':=by
 have hm:T*wt<=9223372036854775807*S:=yT (by omega) hw;have Dd:T*wt/18446744073709551616<S:=(Gq (by omega)).2 (by omega);have hq:T*wt/S<=T:=by have:=Nat.div_le_div_right (c:=S) (Nat.mul_le_mul_left T hw);grind [Nat.mul_div_cancel]
 have hr:T*wt % S<S:=Jw _ h0;have HC:=λW=>η (aID T wt S W (by omega) (by omega) Dd (by omega))
 clear hm Dd;generalize T*wt/S=D at*;generalize T*wt % S=M at*;have z1:((S:Int)==0)=aP:=by grind
 have z2:¬(S:Int)<(wt:Int):=by omega
 have z3:¬(T:Int)<0:=by omega
 have z4:¬(wt:Int)<0:=by omega
 go_enter func280,ntmps280
 go_wp2_with fail
 refine(HC _).o.mono ?_;rintro e w1 ⟨rfl,hb1⟩;have HB:=η hb1;clear hb1;go_wp2_with fail
 go_ret3;exact⟨rfl,HB.o⟩
theorem aIF(x:Int)(w:aJ):aQ aM 249 #[aG aF x] w λe w'=>e=aT (bK aP)/\w=w':=by
 go_enter func249,ntmps249
 go_wp2
 go_ret;simp
def DR(x y:Int):Int:=if x<y then-1 else if y<x then 1 else 0
theorem aEF(x y:Int):DR x y<0↔x<y:=by grind [DR]
theorem aEM(x y:Int)(w:aJ):aQ aM 213 #[aG aF x,aG aF y] w λe w'=>e=aT (aG aF (DR x y))/\w=w':=by
 go_enter Uj,Uq
 go_wp2_with (go_at_call 249;refine(aIF _ _).mono ?_;rintro e w' ⟨rfl,rfl⟩)
 ·have h:x<y:=by assumption
  go_ret;exact⟨by rw [DR,ifP h];rfl,rfl⟩
 ·have h:¬x<y:=by omega
  have h2:y<x:=by assumption
  go_ret;exact⟨by rw [DR,ifN h,ifP h2];rfl,rfl⟩
 have h:¬x<y:=by omega
 have h2:¬y<x:=by omega
 go_ret;exact⟨by rw [DR,ifN h,ifN h2];rfl,rfl⟩
end
section
open Go.Lib
theorem a5A(x:Int)(w:aJ):aQ aM 256 #[aG aF x] w λe w'=>e=aT (bK (decide (x<0)))/\w=w':=by
 go_enter func256,ntmps256
 go_wp2
 go_ret;exact⟨rfl,rfl⟩
def xl(l:List Int):Bool:=l.any λx=>decide (x<0)
theorem aIK {l:List Int}(h:xl l=aP):∀x∈l,0<=x:=by grind [xl]
theorem a5u {l:List Int}(h:∀k (hk:k<aA l),¬l[k]<0):xl l=aP:=by grind [xl,tD]
theorem aIL {l:List Int} {k:Nat}(hk:k<aA l)(h:l[k]<0):xl l=aO:=by grind [xl,cK]
def a9p(l:List Int)(w:aJ):dX->aJ->Prop:=λe w'=>∃n:Int,e=aT (aG aF n)/\decide (0<=n)=xl l/\w=w'
theorem aHC(l:List Int)(A:Option ai)(c:Nat)(w:aJ)(hs:aW w w.heap.size A (l.map (aG aF)))(hn:aA l<=4611686018427387904):
 aQ aM 279 #[aH A (aA l) c,.func (.func 256) #[] #[]] w (a9p l w):=by
 have HS:=η hs;clear hs;go_enter func279,ntmps279
 go_wp2_with fail
 go_loopw [5,8] (λ_ i wr=>∃k:Nat,k<=aA l/\i=ν k/\Hid (∀j (hj:j<aA l),j<k->0<=l[j])/\wr=w) (λ_ i _=>aA l-(ag i).toNat)
 case atStart=>exact⟨0,bM _,rfl,λj _ h=>by omega,rfl⟩
 case round=>
  obtain⟨k,hk,rfl,HP,rfl⟩:=hrel;by_cases hlt:k<aA l
  ·obtain⟨b,o,rfl,hb,hc⟩:=HS.o.at (k:=k) (by simpa using hlt);rw [xC] at hc;by_cases hx:l[k]<0
   ·have HT:=η (aIL hlt hx);go_wp2_with (go_at_call 256;refine(a5A _ _).mono ?_;rintro e w' ⟨rfl,rfl⟩)
    go_ret;exact⟨_,rfl,by rw [HT.o];simp,rfl⟩
   have nA:Hid (∀j (hj:j<aA l),j<k+1->0<=l[j]):=by
    intro j hj hjk;by_cases e:j=k
    ·subst e;omega
    exact HP.o j hj (by omega)
   go_wp2_with (go_at_call 256;refine(a5A _ _).mono ?_;rintro e w' ⟨rfl,rfl⟩)
   go_roundw
   case rel=>exact⟨k+1,by omega,by go_num,nA,by first|rfl|trivial⟩
   case measure=>simp [ag];omega
  go_wp2_with fail
  go_ret;exact⟨_,rfl,by rw [a5u λj hj=>by have:=HP.o j hj (by omega);omega];rfl,rfl⟩
theorem aCq(l:List Int)(A:Option ai)(c:Nat)(w:aJ)(hs:aW w w.heap.size A (l.map (aG aF)))(hn:aA l<=4611686018427387904):
 aQ aM 255 #[aH A (aA l) c,.func (.func 256) #[] #[]] w λe w'=>e=aT (bK (xl l))/\w=w':=by
 have HC:=η (aHC l A c w hs hn);clear hs;go_enter func255,ntmps255
 go_wp2_with fail
 refine HC.o.mono ?_;rintro e w' ⟨n,rfl,hn,rfl⟩;have HN:=η hn;clear hn;go_wp2_with fail
 go_ret;exact⟨by rw [<-HN.o];rfl,rfl⟩
def iP(T:Int)(l:List Int):Int:=if 1024<(aA l) then 6 else if T<0\/xl l=aO then 1 else dR (sumI l)
def xL(T:Int)(l:List Int):Int:=if 1024<(aA l) then 0 else if T<0\/xl l=aO then 0 else gU (sumI l)
theorem a2I(T:Int)(l:List Int)(A:Option ai)(c:Nat)(w:aJ)(hl:∀x∈l,aL x)(hs:aW w w.heap.size A (l.map (aG aF)))(hn:aA l<=bO):
 aQ aM 227 #[ν T,aH A (aA l) c] w λe w'=>e=aT (bC #[ν (xL T l),ν (iP T l)])/\β w w':=by
 unfold bO at hn;by_cases h1:1024<aA l
 ·have e1:xL T l=0:=by grind [xL]
  have e2:iP T l=6:=by grind [iP]
  rw [e1,e2];clear hl hs e1 e2;go_enter Ul,Us
  go_wp2_with fail
  go_ret2;exact⟨rfl,aX _ _⟩
 have ub:aA l<=1024:=by omega
 by_cases h2:T<0
 ·have e1:xL T l=0:=by grind [xL]
  have e2:iP T l=1:=by grind [iP]
  rw [e1,e2];clear hl hs e1 e2;go_enter Ul,Us
  go_wp2_with fail
  go_ret2;exact⟨rfl,aX _ _⟩
 have HC:=η (aCq l A c w hs (by omega));have Vn:decide (T<0)=aP:=decide_eq_false h2;cases h3:xl l
 ·have e1:xL T l=gU (sumI l):=by grind [xL]
  have e2:iP T l=dR (sumI l):=by grind [iP]
  rw [e1,e2];have HD:=η (EB l A c w hl hs (by omega));rw [h3] at HC;clear hl hs e1 e2 h3;go_enter Ul,Us
  go_wp2_with fail
  refine HC.o.mono ?_;rintro e w' ⟨rfl,rfl⟩;go_wp2_with fail
  refine HD.o.mono ?_;rintro e w1 ⟨rfl,hb⟩;have HB:=η hb;clear hb;go_wp2_with fail
  go_ret2;exact⟨rfl,HB.o⟩
 have e1:xL T l=0:=by grind [xL]
 have e2:iP T l=1:=by grind [iP]
 rw [e1,e2];rw [h3] at HC;clear hl hs e1 e2 h3;go_enter Ul,Us
 go_wp2_with fail
 refine HC.o.mono ?_;rintro e w' ⟨rfl,rfl⟩;go_wp2_with fail
 go_ret2;exact⟨rfl,aX _ _⟩
end
section
open Go.Lib Go.Sort Go.Shelf Go.Proofs.YtdokipdchlcmeaaGreat.pJ Go.Proofs.YtdokipdchlcmeaaGreat.ShareLaw
def eE(w:aJ)(b:Nat)(t:bZ)(xs:List Int):Prop:=w.heap[b]? =aC (aK (xs.map (aG aF)).toArray t (0,0))
section
variable {w w':aJ} {b B:Nat} {t:bZ} {xs:List Int}
theorem eE.cell(h:eE w b t xs) {i:Nat}(hi:i<aA xs):w.cell? ⟨b,i,aB⟩=aC (aG aF xs[i]):=by rw [bH w b i _ t (0,0) h];simp [hi]
theorem eE.free(h:eE w b t xs)(i:Nat):w.frozen? ⟨b,i,aB⟩=aP:=KH w b i _ t h
theorem eE.of_block(h:eE w b t xs)(e:w'.heap[b]? =w.heap[b]?):eE w' b t xs:=e.trans h
theorem eE.below(h:eE w b t xs)(hb:b<B)(k:aa B w w'):eE w' b t xs:=h.of_block (k.block b hb)
theorem eE.other(h:eE w b t xs) {a:ai}(v:aN)(hne:b≠a.block):eE (w.setCell a v) b t xs:=h.of_block (OH w a v b hne)
theorem eE.set(h:eE w b t xs)(i:Nat)(v:Int):eE (w.setCell ⟨b,i,aB⟩ (aG aF v)) b t (xs.set i v):=by unfold eE at*;rw [setCell_eq,mapBlock,Array.getElem?_modify,ifP rfl,h];simp [onCells,List.map_set]
theorem eE.new(w:aJ)(t:bZ)(xs:List Int):eE (w.alloc (aK (xs.map (aG aF)).toArray t)) w.heap.size t xs:=cQ w _
theorem eE.alloc(h:eE w b t xs)(hb:b<w.heap.size)(o:Obj):eE (w.alloc o) b t xs:=h.of_block (a8o w o b hb)
theorem eE.eA(h:eE w b t xs)(hb:b<B):aW w B (aC ⟨b,0,aB⟩) (xs.map (aG aF)):=by intro j u hu;refine⟨b,0,rfl,hb, ?_⟩;rw [bH w b (0+j) _ t (0,0) h,Nat.zero_add];simpa using hu
end
def cZ(n:Nat)(f:Nat->Int):List Int:=(dQ n).map f
theorem rI(n:Nat)(f:Nat->Int):aA (cZ n f)=n:=by simp [cZ]
theorem E8 {n:Nat} {f:Nat->Int} {i:Nat}(h:i<aA (cZ n f)):(cZ n f)[i]=f i:=by simp [cZ]
theorem YD {n:Nat} {f g:Nat->Int}(h:∀i,i<n->f i=g i):cZ n f=cZ n g:=by grind [cZ,Jv]
theorem a7D {n:Nat} {f:Nat->Int}(k:Nat)(v:Int):(cZ n f).set k v=cZ n (λi=>if i=k then v else f i):=by
 apply Gf
 ·simp [rI]
 grind [E8]
theorem SG {n k:Nat} {g:Nat->Int}:(cZ n (λi=>if i<k then g i else 0)).set k (g k)=cZ n (λi=>if i<k+1 then g i else 0):=by rw [a7D];grind
theorem SF {n:Nat} {g:Nat->Int}:cZ n (λi=>if i<n then g i else 0)=cZ n g:=YD λi h=>by rw [ifP h]
theorem a7E {n:Nat} {g:Nat->Int}:cZ n (λi=>if i<0 then g i else 0)=gP n 0:=by
 apply Gf
 ·simp [rI]
 grind [E8]
theorem a5b(n:Nat):madeCells (aG aF 0).cells n=jh n (aG aF 0):=by apply Array.toList_inj.1;have e:(aG aF 0).cells= #[aG aF 0]:=rfl;rw [e,toList_madeCells_one];simp
theorem Rh(n:Nat)(hn:n<=1000000)(W:aJ):(PB 53 (aG aF (n:Int)) (aG aF (n:Int))).run aM W= .ok (aH (aC ⟨W.heap.size,0,aB⟩) n n) (W.alloc (aK (jh n (aG aF 0)) 2)):=by
 have inf:(aM.info? 2).map (λi=>(i.zero,i.size,i.bytes))=aC (aC (ν 0),1,8):=by kernel_rfl
 obtain⟨i0,hi,hz0,hz1,hz2⟩:=dP inf;have h:=run_makeSlice (P:=aM) W 53 2 i0 _ mX hi hz0 aF aF n n (by omega) (dM _) (by rw [hz1];simp;omega) (by rw [hz2];simp;omega) (by omega);grind [a5b]
theorem a5c(n:Nat)(hn:n<=1000000)(W:aJ):(PB 46 (aG aF (n:Int)) (aG aF (n:Int))).run aM W= .ok (aH (aC ⟨W.heap.size,0,aB⟩) n n) (W.alloc (aK (jh n (aG aF 0)) 3)):=by
 have inf:(aM.info? 3).map (λi=>(i.zero,i.size,i.bytes))=aC (aC (ν 0),1,8):=by kernel_rfl
 obtain⟨i0,hi,hz0,hz1,hz2⟩:=dP inf;have h:=run_makeSlice (P:=aM) W 46 3 i0 _ yU hi hz0 aF aF n n (by omega) (dM _) (by rw [hz1];simp;omega) (by rw [hz2];simp;omega) (by omega);grind [a5b]
theorem aEN(x y:Int)(w:aJ):aQ aM 213 #[aG aF x,aG aF y] w λe w'=>e=aT (aG aF (DR x y))/\w'=w:=(aEM x y w).mono λ_ _ ⟨a,b⟩=>⟨a,b.symm⟩
theorem aJ3(bc br n:Nat)(r:Nat->Int)(x y:Nat)(hx:x<n)(hy:y<n)(w:aJ)(hc:w.cell? ⟨bc,0,aB⟩=aC (aH (aC ⟨br,0,aB⟩) n n))(hr:∀i,i<n->w.cell? ⟨br,i,aB⟩=aC (aG aF (r i))):
 aQ aM 281 #[ν x,ν y,π bc] w λe w'=>e=aT (ν (DR (r y) (r x)))/\∃q,w'=w.drewN q:=by
 have c1:=hr x hx;have c2:=hr y hy;clear hr;have i1:(0:Int)<=(x:Int):=by omega
 have i2:(x:Int)<(n:Int):=by omega
 have i3:(0:Int)<=(y:Int):=by omega
 have i4:(y:Int)<(n:Int):=by omega
 go_enter aB7,ntmps281
 go_wp2_with fail
 go_quiet ((go_at_call 213;exact JJ (aEN _ _ _)))
 go_wp2_with fail
 go_ret;exact⟨rfl,_,rfl⟩
end
section
open Go.Lib Go.Sort Go.Shelf Go.Proofs.YtdokipdchlcmeaaGreat.pJ Go.Proofs.YtdokipdchlcmeaaGreat.ShareLaw
def Ordered(r:Nat->Int)(n:Nat)(who:Nat->Nat):Prop:=∀t,t<n->who t<n/\rk r n (who t)=t
def aCN(r:Nat->Int)(n bw:Nat)(w:aJ):dX->aJ->Prop:=λe w'=>e=aT (bC #[])/\∃who:Nat->Nat,Ordered r n who/\(∀t,t<n->w'.cell? ⟨bw,t,aB⟩=aC (aG aF (who t:Int)))/\w.grownBy w' (aC bw)
theorem a9z {r:Nat->Int} {x y:Nat}(h:L (λz=> -(r z.toNat)) (x:Int) (y:Int)):ah r x y=aO:=by grind [L,Pn]
theorem aJ5 {r:Nat->Int} {n:Nat} {g:Nat->Int}(hm:cz (λp=>(p:Int)) g 0 n)(hs:cH (λz=> -(r z.toNat)) g 0 n):∃who:Nat->Nat,Ordered r n who/\∀t,t<n->g t=(who t:Int):=by
 have hex:∀t,∃m:Nat,t<n->m<n/\g t=(m:Int):=by
  intro t;by_cases ht:t<n
  ·obtain⟨j,_,hj,e⟩:=hm.to t (bM _) ht;grind
  grind
 obtain⟨who,hw⟩:=Z2.1 hex;refine⟨who, ?_,λt ht=>(hw t ht).2⟩;have key:=aG7 (n:=n) (f:=λt=>rk r n (who t)) (λt ht=>a7A (hw t ht).1) (λi j s8 hj=>by have h1:=hs i j (bM _) s8 hj;rw [(hw i (by omega)).2,(hw j hj).2] at h1;exact YB (hw i (by omega)).1 (a9z h1));exact λt ht=>⟨(hw t ht).1,key t ht⟩
theorem I8(n:Nat)(f:Nat->Int) {p:Nat}(hp:p<n):fn (cZ n f).toArray p=f p:=by grind [fn,cZ]
theorem aIB {n:Nat} {f g:Nat->Int}(h:cz f g 0 n)(hf:∀p,p<n->f p=p):∃g',cz (λp=>(p:Int)) g' 0 n/\∀t,t<n->g' t=g t:=by
 refine⟨λp=>if p<n then g p else p,⟨λi _ hi=> ?_,λj _ hj=> ?_,λi hi=> ?_⟩,λt ht=>by simp [ht]⟩
 ·obtain⟨j,_,hj,e⟩:=h.to i (bM _) hi;grind
 ·obtain⟨i,_,hi,e⟩:=h.of j (bM _) hj;grind
 omega
theorem aKp(bc br bw n:Nat)(r:Nat->Int)(w:aJ)(hn:n<=1000000)(hc:w.heap[bc]? =aC (aK #[aH (aC ⟨br,0,aB⟩) n n] 53 (0,0)))(hr:eE w br 2 (cZ n r))(hw:eE w bw 3 (cZ n λi=>(i:Int)))(h1:bc≠bw)(h2:br≠bw)(h3:bc<w.heap.size)(h4:br<w.heap.size)(h5:bw<w.heap.size):
 aQ aM 207 #[aH (aC ⟨bw,0,aB⟩) n n,.func (.func 281) #[] #[π bc]] w (aCN r n bw w):=by
 have hlen:(cZ n λi=>(i:Int)).toArray.size=n:=by simp [rI]
 have hH:Holds (aG aF) w bw 0 (cZ n λi=>(i:Int)).toArray:=by
  intro j hj;rw [hlen] at hj;refine⟨?_,hw.free _⟩;have hl:0+j<aA (cZ n λi=>(i:Int)):=by rw [rI];omega
  rw [hw.cell hl];grind
 have R:Row1 (aG aF) w bw 0 (cZ n λi=>(i:Int)).toArray:=⟨a3I,hH,h5⟩;have T:tF w bw 0 n 281 #[π bc] (λx y=>DR (r y.toNat) (r x.toNat)) (λz=> -(r z.toNat)) (λx=>∃m:Nat,x=m/\m<n) (cZ n λi=>(i:Int)).toArray:=by
  refine⟨R,hlen,by omega,enters_of aB7 (by kernel_rfl) rfl, ?_, ?_⟩
  ·rintro m os dk hdk x y ⟨xn,rfl,hx⟩ ⟨yn,rfl,hy⟩;have hg:w.grownBy (sortWorld (aG aF) w bw 0 m dk os) (aC bw):=grownBy_sortedI dk;have e1:(sortWorld (aG aF) w bw 0 m dk os).heap[bc]? =_:=(hg.block bc h3 (λe=>h1 (by injection e))).trans hc;have e2:eE (sortWorld (aG aF) w bw 0 m dk os) br 2 (cZ n r):=hr.of_block (hg.block br h4 (λe=>h2 (by injection e)));refine(aJ3 bc br n r xn yn hx hy _ ?_ ?_).mono ?_
   ·rw [bH _ bc 0 _ 53 (0,0) e1];rfl
   ·intro i hi;rw [e2.cell (by grind [rI]),E8]
   rintro e w' ⟨rfl,q,rfl⟩;refine⟨by grind,q, #[], ?_⟩;rw [grow_empty]
  grind [aEF]
 have RW:Rw w bw 0 n (λx=>∃m:Nat,x=m/\m<n) (cZ n λi=>(i:Int)).toArray w:=⟨hlen,SW.start hH,λp hp=>⟨p,I8 n _ hp,hp⟩⟩;refine(a7c T n _ w RW hn (λp hp=>I8 n _ hp)).mono ?_;rintro e w' ⟨rfl,d',mv,hs,hR⟩;obtain⟨g',mg,Di⟩:=aIB mv (λp hp=>I8 n _ hp);have sg:cH (λz=> -(r z.toNat)) g' 0 n:=λi j a b c=>by rw [Di i (by omega),Di j c];exact hs i j a b c
 obtain⟨who,ho,aND⟩:=aJ5 mg sg;refine⟨rfl,who,ho,λt ht=> ?_, ?_⟩
 ·have:=hR.c T t ht;grind
 obtain⟨m,os,e⟩:=hR.sw;rw [e];exact grownBy_sortedI d'
end
section
open Go.Lib Go.Sort Go.Shelf Go.Proofs.YtdokipdchlcmeaaGreat.pJ Go.Proofs.YtdokipdchlcmeaaGreat.ShareLaw
def wf(l:List Int):Nat->Int:=λi=>l.getD i 0
theorem LB {l:List Int} {i:Nat}(h:i<aA l):wf l i=l[i]:=by unfold wf;simp [h]
theorem a7z(l:List Int):∀k,k<=aA l->dg (wf l) k=sumI (l.take k)
 |0,_=>by simp [dg,sumI]
 |k+1,h=>by rw [dg,a7z l k (by omega),YV (by omega),LB (by omega)]
theorem Yc(l:List Int):dg (wf l) (aA l)=sumI l:=by grind [a7z]
theorem aI5 {l:List Int}(h:∀x∈l,0<=x):∀x∈l,x<=sumI l:=by
 induction l with
 |nil=>intro x hx;cases hx
 |cons a l ih=>
  have hs:0<=sumI l:=by
   have:∀m:List Int,(∀x∈m,0<=x)->0<=sumI m:=by
    intro m;induction m with
    |nil=>intro _;simp [sumI]
    |cons b m ih2=>
     intro hm;have h1:=hm b (by simp);grind [sumI]
   grind
  have ha:=h a (by simp);grind [sumI]
theorem aJs(T S:Int)(W:Nat->Int)(i:Nat)(w:aJ)(II:0<=T)(hT:T<=9223372036854775807)(hw0:0<=W i)(hw:W i<=S)(h0:0<S)(hS:S<=9223372036854775807):
 aQ aM 280 #[ν T,ν (W i),ν S] w λe w'=>e=aT (bC #[ν (quo T S W i),ν (lH T S W i),ν 0])/\β w w':=by
 unfold quo lH;generalize W i=u at*;obtain⟨Tn,rfl⟩:=a0E II;obtain⟨un,rfl⟩:=a0E hw0;obtain⟨Sn,rfl⟩:=a0E (show 0<=S by omega);grind [aJt]
structure Ap(w:aJ)(bp br bc bo n:Nat)(ps rs os:List Int)(wr:aJ):Prop where
 p:eE wr bp 2 ps
 r:eE wr br 2 rs
 c:wr.heap[bc]? =aC (aK #[aH (aC ⟨br,0,aB⟩) n n] 53 (0,0))
 o:eE wr bo 3 os
 b:β w wr
 sz:bo<wr.heap.size
 d0:w.heap.size<=bp
 d1:bp<br
 d2:br<bc
 d3:bc<bo
section
variable {w wr w':aJ} {bp br bc bo n:Nat} {ps rs os:List Int}
theorem Ap.cc(h:Ap w bp br bc bo n ps rs os wr):wr.cell? ⟨bc,0,aB⟩=aC (aH (aC ⟨br,0,aB⟩) n n):=by rw [bH _ _ 0 _ 53 (0,0) h.c];rfl
theorem Ap.below(h:Ap w bp br bc bo n ps rs os wr)(hb:aa wr.heap.size wr w'):Ap w bp br bc bo n ps rs os w':=by have s:=h.sz;have d0:=h.d0;have d1:=h.d1;have d2:=h.d2;have d3:=h.d3;exact⟨h.p.below (by omega) hb,h.r.below (by omega) hb,(hb.block _ (by omega)).trans h.c,h.o.below (by omega) hb,h.b.trans (hb.mono (by omega)),by have:=hb.size;omega,d0,d1,d2,d3⟩
theorem Ap.eZ(h:Ap w bp br bc bo n ps rs os wr)(i:Nat)(v:Int):Ap w bp br bc bo n (ps.set i v) rs os (wr.setCell ⟨bp,i,aB⟩ (aG aF v)):=by have d0:=h.d0;have d1:=h.d1;have d2:=h.d2;have d3:=h.d3;exact⟨h.p.set i v,h.r.other _ (by dsimp only;omega),(OH _ _ _ _ (by dsimp only;omega)).trans h.c,h.o.other _ (by dsimp only;omega),h.b.setCell (by dsimp only;omega) _,by rw [Z7];exact h.sz,d0,d1,d2,d3⟩
theorem Ap.aKb(h:Ap w bp br bc bo n ps rs os wr)(i:Nat)(v:Int):Ap w bp br bc bo n ps (rs.set i v) os (wr.setCell ⟨br,i,aB⟩ (aG aF v)):=by have d0:=h.d0;have d1:=h.d1;have d2:=h.d2;have d3:=h.d3;exact⟨h.p.other _ (by dsimp only;omega),h.r.set i v,(OH _ _ _ _ (by dsimp only;omega)).trans h.c,h.o.other _ (by dsimp only;omega),h.b.setCell (by dsimp only;omega) _,by rw [Z7];exact h.sz,d0,d1,d2,d3⟩
theorem Ap.aKa(h:Ap w bp br bc bo n ps rs os wr)(i:Nat)(v:Int):Ap w bp br bc bo n ps rs (os.set i v) (wr.setCell ⟨bo,i,aB⟩ (aG aF v)):=by have d0:=h.d0;have d1:=h.d1;have d2:=h.d2;have d3:=h.d3;exact⟨h.p.other _ (by dsimp only;omega),h.r.other _ (by dsimp only;omega),(OH _ _ _ _ (by dsimp only;omega)).trans h.c,h.o.set i v,h.b.setCell (by dsimp only;omega) _,by rw [Z7];exact h.sz,d0,d1,d2,d3⟩
theorem a6t(n:Nat):((gP n (0:Int)).map (aG aF)).toArray=jh n (aG aF 0):=by simp
theorem Ap.start(w:aJ)(n:Nat):Ap w w.heap.size (w.heap.size+1) (w.heap.size+1+1) (w.heap.size+1+1+1) n (gP n 0) (gP n 0) (gP n 0) ((((w.alloc (aK (jh n (aG aF 0)) 2)).alloc (aK (jh n (aG aF 0)) 2)).alloc (aK #[aH (aC ⟨w.heap.size+1,0,aB⟩) n n] 53)).alloc (aK (jh n (aG aF 0)) 3)):=by
 have n1:=Deep.nblk_alloc;rw [<-a6t];generalize gP n (0:Int)=zs;refine⟨?_, ?_, ?_, ?_, ?_,by grind,by omega,by omega,by omega,by omega⟩
 ·exact(((eE.new w 2 zs).alloc (by rw [n1];omega) _).alloc (by rw [n1,n1];omega) _).alloc (by grind) _
 ·have h:=eE.new (w.alloc (aK (zs.map (aG aF)).toArray 2)) 2 zs;rw [n1] at h;exact(h.alloc (by rw [n1,n1];omega) _).alloc (by grind) _
 ·grind [a8o,Deep.blk_alloc_new]
 ·grind [eE.new]
 exact((σ.alloc (by simp) _).alloc (by simp;omega) _).alloc (by simp;omega) _
structure RC(bp br bc n k b o:Nat)(x:Int)(w:aJ):Prop where
 c:w.cell? ⟨bc,0,aB⟩=aC (aH (aC ⟨br,0,aB⟩) n n)
 l:w.cell? ⟨b,o+k,aB⟩=aC (ν x)
 p:∃u,w.cell? ⟨bp,k,aB⟩=aC u
 pf:w.frozen? ⟨bp,k,aB⟩=aP
 r:∃u,w.cell? ⟨br,k,aB⟩=aC u
 rf:w.frozen? ⟨br,k,aB⟩=aP
end
theorem aL8 {f:Nat->Int} {n:Nat}(h:∀i,i<n->0<=f i):∀k,k<=n->dg f k<=dg f n:=by
 induction n with
 |zero=>grind
 |succ n ih=>
  grind [dg]
theorem mk0(n k:Nat)(g:Nat->Int)(hk:k<n):k<aA (cZ n (λi=>if i<k then g i else 0)):=by grind [rI]
theorem aCr(T:Int)(l:List Int)(A:Option ai)(c:Nat)(w:aJ)(II:0<=T)(hT:T<=9223372036854775807)(hl:∀x∈l,0<=x)(h0:0<sumI l)(hS:sumI l<=9223372036854775807)(hn:aA l<=1024)(hs:aW w w.heap.size A (l.map (aG aF))):
 aQ aM 257 #[ν T,aH A (aA l) c,ν (sumI l)] w λe w'=>e=aT (aH (aC ⟨w.heap.size,0,aB⟩) (aA l) (aA l))/\eE w' w.heap.size 2 (cZ (aA l) (ShareLaw.part T (sumI l) (wf l) (aA l)))/\β w w'/\w.heap.size<w'.heap.size:=by
 have HS:=η hs;have HL:=η hl;have GY:=η (Yc l);have ES:=η (aI5 hl);clear hs hl;have mk1:=Rh (aA l) (by omega);have mk2:=a5c (aA l) (by omega);have LG:=η (Ap.start w (aA l));generalize hZ:sumI l=S at*;have HZ:=η hZ;clear hZ;obtain⟨W,hW⟩:∃W,W=wf l:=⟨_,rfl⟩;have HW:=η hW;rw [<-hW] at GY ⊢;clear hW;have mU:Hid (∀i,i<aA l->0<=W i/\W i<=S):=λi hi=>by rw [HW.o,LB hi];exact⟨HL.o _ (cK hi),ES.o _ (cK hi)⟩
 have EK:Hid (∀k,k<aA l->0<=quo T S W k/\quo T S W k<=T):=λk hk=>⟨Y4 h0 II (mU.o k hk).1,a6q h0 II (mU.o k hk).2⟩
 have iw:Hid (∀k,k<=aA l->0<=dg (quo T S W) k/\dg (quo T S W) k<=T):=λk hk=>by have h9:=(aJr h0 II (λi hi=>(mU.o i hi).1) GY.o).2;exact⟨SS λi hi=>(EK.o i (by omega)).1,kD (aL8 (λi hi=>(EK.o i hi).1) k hk) h9⟩
 have eR:Hid (∀k,k<aA l->ShareLaw.part T S W (aA l) k<=T):=λk hk=>aJI h0 II GY.o (mU.o k hk).2
 go_enter func257,ntmps257
 go_wp2_with fail
 clear mk1 mk2;rw [<-a7E (g:=quo T S W)] at LG;obtain⟨bp,WC⟩:∃z,z=w.heap.size:=⟨_,rfl⟩;generalize w.heap.size+1+1+1=bo at LG ⊢;generalize w.heap.size+1+1=bc at LG ⊢;generalize w.heap.size+1=br at LG ⊢;go_loopw [10,11,25] (λu _ i wr=>∃k:Nat,k<=aA l/\i=ν k/\u=ν (T-dg (quo T S W) k)/\Hid (Ap w w.heap.size br bc bo (aA l) (cZ (aA l) (λi=>if i<k then quo T S W i else 0)) (cZ (aA l) (λi=>if i<k then lH T S W i else 0)) (cZ (aA l) (λi=>if i<k then (i:Int) else 0)) wr)) (λ_ _ i _=>aA l-(ag i).toNat)
 case atStart=>grind [dg]
 case round=>
  clear LG;obtain⟨k,hk,rfl,rfl,HA⟩:=hrel;by_cases hlt:k<aA l
  ·obtain⟨b,o,rfl,hb,hc0⟩:=HS.o.at (k:=k) (by simpa using hlt);have ex:l[k]=W k:=by rw [HW.o,LB hlt]
   have a4k:0<=W k:=by rw [<-ex];exact HL.o _ (cK hlt)
   have a4l:W k<=S:=by rw [<-ex];exact ES.o _ (cK hlt)
   rw [xC,ex] at hc0;have HQ:=λW'=>η (aJs T S W k W' II hT a4k a4l h0 hS)
   have jQ:=η hc0;clear ex a4k a4l hc0;have HK:Hid (∀W',β wr W'->RC w.heap.size br bc (aA l) k b o (W k) W'):=by intro W' hB;have h2:=HA.o.below hB;exact⟨h2.cc,(h2.b.cell (p:=⟨b,o+k,aB⟩) hb).trans jQ.o,⟨_,h2.p.cell (by grind [rI])⟩,h2.p.free k,⟨_,h2.r.cell (by grind [rI])⟩,h2.r.free k⟩
   have uQ:=η (HK.o _ ((aX _ _).drew));have d1:=HA.o.d1;have d2:=HA.o.d2;have i1:(0:Int)<=(k:Int):=by omega
   have i2:(k:Int)<(aA l:Int):=by omega
   have n1:¬bc=w.heap.size:=by omega
   have n2:¬b=w.heap.size:=by omega
   have n3:¬bc=br:=by omega
   have n4:¬b=br:=by omega
   have n5:¬br=w.heap.size:=by omega
   have n6:¬w.heap.size=br:=by omega
   have n7:¬w.heap.size=bc:=by omega
   have n8:¬w.heap.size=b:=by omega
   have n9:¬br=bc:=by omega
   have n10:¬br=b:=by omega
   go_wp2_with fail
   go_region_held3 (λw'=>w'.cell? ⟨bc,0,aB⟩=aC (aH (aC ⟨br,0,aB⟩) (aA l) (aA l))/\w'.cell? ⟨b,o+k,aB⟩=aC (ν (W k))) (first|exact⟨uQ.o.c,uQ.o.l⟩|exact⟨jm.o.c,jm.o.l⟩|go_keep) ((go_at_call 280;refine(HQ _).o.mono ?_;rintro e w1 ⟨rfl,hb1⟩;have aR:=η (((aX wr.heap.size wr).drew).trans hb1);have jm:=η (HK.o w1 aR.o);obtain⟨u1,c1⟩:=jm.o.p;have f1:=jm.o.pf;obtain⟨u2,c2⟩:=jm.o.r;have f2:=jm.o.rf;clear hb1))
   have wS:=η (((HA.o.below aR.o).eZ k (quo T S W k)).aKb k (lH T S W k));rw [SG,SG] at wS;generalize (w1.setCell ⟨w.heap.size,k,aB⟩ (ν (quo T S W k))).setCell ⟨br,k,aB⟩ (ν (lH T S W k))=w2 at wS ⊢;clear c1 c2 f1 f2 jm aR HK uQ HQ HA n1 n2 n3 n4 n5 n6 n7 n8 n9 n10 u1 u2 i1 i2;have c3:w2.cell? ⟨w.heap.size,k,aB⟩=aC (ν (quo T S W k)):=by rw [wS.o.p.cell (by rw [rI];exact hlt),E8,ifP (by omega)]
   have c4:w2.cell? ⟨bo,k,aB⟩=aC (ν 0):=by rw [wS.o.o.cell (by rw [rI];exact hlt),E8,ifN (by omega)]
   have f4:=wS.o.o.free k;have d3:=wS.o.d3;have n1:¬bo=w.heap.size:=by omega
   have n2:¬w.heap.size=bo:=by omega
   have lN:=η (wS.o.aKa k (k:Int));rw [SG (g:=λi=>(i:Int))] at lN;have hb1:=iw.o k hk;have hb2:=EK.o k hlt;have es:T-dg (quo T S W) k-quo T S W k=T-dg (quo T S W) (k+1):=by rw [dg];omega
   have HES:=η es;clear es;obtain⟨g1,g2⟩:=hb1;obtain⟨g3,g4⟩:=hb2;go_wp2_with fail
   go_roundw
   case rel=>exact⟨k+1,by omega,by go_num,by rw [<-HES.o],lN⟩
   case measure=>simp [ag];omega
  obtain rfl:k=aA l:=by omega
  rw [SF,SF,SF] at HA;have d0:=HA.o.d0;have d1:=HA.o.d1;have d2:=HA.o.d2;have d3:=HA.o.d3;have sz:=HA.o.sz;have HC:=η (aKp bc br bo (aA l) (lH T S W) wr (by omega) HA.o.c HA.o.r HA.o.o (by omega) (by omega) (by omega) (by omega) (by omega));go_wp2_with fail
  refine HC.o.mono ?_;rintro e w2 ⟨rfl,who,ho,hcell,hg⟩;have HO:=η ho;have JR:=η hcell;have HP:Hid (eE w2 w.heap.size 2 (cZ (aA l) (partT T S W (aA l) 0))/\β w w2):=by refine⟨?_,HA.o.b.grown hg (by omega) (λk hk=>by injection hk;omega)⟩;have h1:=HA.o.p.of_block (hg.block _ (by omega) (λe=>by injection e;omega));grind [partT,YD]
  have Ij:bo<w2.heap.size:=by have:=hg.size;omega
  clear ho hcell hg HC HA;obtain⟨L,hL⟩:∃L,L=left T S W (aA l):=⟨_,rfl⟩;have BD:=η (Nd (T:=T) (S:=S) (W:=W) (n:=aA l) h0 GY.o);have Tk:=η (a5S (T:=T) (S:=S) (W:=W) (n:=aA l) h0 GY.o);have eL:T-dg (quo T S W) (aA l)=L:=by rw [hL];rfl
  have hL0:0<=L:=by rw [hL];exact BD.o.1
  have hLn:L<=(aA l:Int):=by rw [hL];exact Tk.o
  have CZ:=η hL;rw [eL];clear hL eL;go_wp2_with fail
  go_loopw [12,60] (λ_ i wr=>∃t:Nat,(t:Int)<=L/\i=ν t/\bo<wr.heap.size/\Hid (∀t,t<aA l->wr.cell? ⟨bo,t,aB⟩=aC (ν (who t:Int)))/\Hid (eE wr w.heap.size 2 (cZ (aA l) (partT T S W (aA l) t))/\β w wr)) (λ_ i _=>aA l-(ag i).toNat)
  case atStart=>exact⟨0,hL0,rfl,Ij,JR,HP⟩
  case round=>
   clear JR HP Ij;obtain⟨t,ht,rfl,Ij,JR,HP⟩:=hrel;by_cases hlt:(t:Int)<L
   ·have NQ:t<aA l:=by omega
    obtain⟨j,hj⟩:∃j,j=who t:=⟨_,rfl⟩;have Wa:j<aA l:=by rw [hj];exact(HO.o t NQ).1
    have Wb:rk (lH T S W) (aA l) j=t:=by rw [hj];exact(HO.o t NQ).2
    have cw:=JR.o t NQ;rw [<-hj] at cw;have cp:=HP.o.1.cell (i:=j) (by rw [rI];exact Wa);have fp:=HP.o.1.free j;have e0:partT T S W (aA l) t j=quo T S W j:=by grind [partT]
    rw [E8,e0] at cp;have bQ:0<=quo T S W j/\quo T S W j<=T-1:=by refine⟨(EK.o j Wa).1, ?_⟩;have h7:=eR.o j Wa;unfold ShareLaw.part partT at h7;rw [ifP (by rw [Wb,<-CZ.o];omega)] at h7;omega
    obtain⟨g1,g2⟩:=bQ;have nA:Hid (eE (wr.setCell ⟨w.heap.size,j,aB⟩ (ν (quo T S W j+1))) w.heap.size 2 (cZ (aA l) (partT T S W (aA l) (t+1)))/\β w (wr.setCell ⟨w.heap.size,j,aB⟩ (ν (quo T S W j+1)))):=by
     refine⟨?_,HP.o.2.setCell (by simp) _⟩;have h7:=HP.o.1.set j (quo T S W j+1);have e1:(cZ (aA l) (partT T S W (aA l) t)).set j (quo T S W j+1)=cZ (aA l) (partT T S W (aA l) (t+1)):=by
      rw [a7D];refine YD λi hi=> ?_
      grind [partT,YA]
     rw [e1] at h7;exact h7
    have kS:Hid (∀t,t<aA l->(wr.setCell ⟨w.heap.size,j,aB⟩ (ν (quo T S W j+1))).cell? ⟨bo,t,aB⟩=aC (ν (who t:Int))):=by intro t' AP;rw [gu (w:=wr) (OH wr _ _ bo (by dsimp only;omega))];exact JR.o t' AP
    have HJ:=η hj;have HJR:=η Wb;clear hj Wb e0 JR HP;go_wp2_with fail
    go_roundw
    case rel=>exact⟨t+1,by omega,by go_num,by simpa using Ij,kS,nA⟩
    case measure=>simp [ag];omega
   have e:(L.toNat:Nat)=t:=by omega
   have ou:Hid (eE wr w.heap.size 2 (cZ (aA l) (ShareLaw.part T S W (aA l)))/\β w wr):=by refine⟨?_,HP.o.2⟩;have h7:=HP.o.1;rw [<-e,CZ.o] at h7;exact h7
   go_wp2_with fail
   go_ret;exact⟨rfl,ou.o.1,ou.o.2,by omega⟩
end
section
open Go.Lib Go.Sort Go.Shelf Go.Proofs.YtdokipdchlcmeaaGreat.pJ Go.Proofs.YtdokipdchlcmeaaGreat.ShareLaw
def yA(w:aJ)(xs:List Int)(err:Int):dX->aJ->Prop:=λe w'=>∃A c,e=aT (bC #[aH A (aA xs) c,aG aF err])/\aW w' w'.heap.size A (xs.map (aG aF))/\aa w.heap.size w w'
theorem yA.nil(w:aJ)(err:Int)(w':aJ)(h:aa w.heap.size w w'):yA w [] err (aT (bC #[aH aB 0 0,aG aF err])) w':=⟨aB,0,rfl,aW.nil,h⟩
def vU(T:Int)(l:List Int):Int:=if iP T l≠0 then iP T l else if T=0 then 0 else if sumI l=0 then 17 else 0
def uV(T:Int)(l:List Int):List Int:=if iP T l≠0 then [] else if T=0 then gP (aA l) 0 else if sumI l=0 then [] else cZ (aA l) (ShareLaw.part T (sumI l) (wf l) (aA l))
structure Fit(T:Int)(l:List Int):Prop where
 len:aA l<=1024
 pos:0<=T
 all:∀x∈l,0<=x
 amt:aL (sumI l)
 val:xL T l=sumI l
theorem a1g {x:Int}(h:dR x=0):aL x:=by grind [dR]
theorem QJ {T:Int} {l:List Int}(h:iP T l=0):Fit T l:=by
 unfold iP at h;by_cases h1:1024<aA l
 ·omega
 rw [ifN h1] at h;by_cases h2:T<0\/xl l=aO
 ·grind
 rw [ifN h2] at h;have hI:=a1g h;refine⟨by omega,by omega,aIK (by grind),hI, ?_⟩;grind [xL,eH]
theorem a8E {l:List Int}(h:∀x∈l,0<=x):0<=sumI l:=by
 rw [<-Yc];refine SS λi hi=> ?_
 grind [LB,cK]
theorem aKY(w:aJ)(n:Nat):aW (w.alloc (aK (jh n (aG aF 0)) 2)) (w.alloc (aK (jh n (aG aF 0)) 2)).heap.size (aC ⟨w.heap.size,0,aB⟩) ((gP n (0:Int)).map (aG aF)):=by have h:=eE.new w 2 (gP n 0);rw [a6t] at h;exact h.eA (by simp)
theorem a8j(T:Int)(l:List Int)(A:Option ai)(c:Nat)(w:aJ)(hT:aL T)(hl:∀x∈l,aL x)(hs:aW w w.heap.size A (l.map (aG aF)))(hn:aA l<=bO):
 aQ aM 228 #[ν T,aH A (aA l) c] w (yA w (uV T l) (vU T l)):=by
 have HC:=η (a2I T l A c w hl hs hn);by_cases h1:iP T l=0
 ·have F:=QJ h1;by_cases h2:T=0
  ·have e1:vU T l=0:=by grind [vU]
   have e2:uV T l=gP (aA l) 0:=by grind [uV]
   rw [e1,e2];rw [h1,F.val] at HC;have mk:=Rh (aA l) (by have:=F.len;omega);have ud:(T==0)=aO:=by simpa using h2
   have h2n:T=0:=h2;subst h2;clear F e1 e2 h1 ud h2n hl hs hT;generalize sumI l=S at*;go_enter Um,Ut
   go_wp2_with fail
   refine HC.o.mono ?_;rintro e w1 ⟨rfl,hb1⟩;have HB:=η hb1;clear hb1;go_wp2_with fail
   go_ret2;refine⟨aC ⟨w1.heap.size,0,aB⟩,aA l,by rw [BN];rfl,aKY w1 (aA l),HB.o.alloc HB.o.size _⟩
  by_cases h3:sumI l=0
  ·have e1:vU T l=17:=by grind [vU]
   have e2:uV T l= []:=by grind [uV]
   rw [e1,e2];rw [h1,F.val,h3] at HC;have ud:(T==0)=aP:=by simpa using h2
   clear F e1 e2 h1 h2 h3 hl hs hT;go_enter Um,Ut
   go_wp2_with fail
   refine HC.o.mono ?_;rintro e w1 ⟨rfl,hb1⟩;have HB:=η hb1;clear hb1;go_wp2_with fail
   go_ret2;exact yA.nil _ _ _ HB.o
  have e1:vU T l=0:=by grind [vU]
  have e2:uV T l=cZ (aA l) (ShareLaw.part T (sumI l) (wf l) (aA l)):=by grind [uV]
  rw [e1,e2];rw [h1,F.val] at HC;have h0:=a8E F.all;have hI:=F.amt;have hTT:=hT;unfold aL at hI hTT;have HD:Hid (∀W,β w W->aQ aM 257 #[ν T,aH A (aA l) c,ν (sumI l)] W λe w'=>e=aT (aH (aC ⟨W.heap.size,0,aB⟩) (aA l) (aA l))/\eE w' W.heap.size 2 (cZ (aA l) (ShareLaw.part T (sumI l) (wf l) (aA l)))/\β W w'/\W.heap.size<w'.heap.size):=λW hW=>
   aCr T l A c W F.pos (by omega) F.all (by omega) (by omega) F.len ((hs.below hW).mono hW.size)
  have ud:(T==0)=aP:=by simpa using h2
  have IB:(sumI l==0)=aP:=by simpa using h3
  clear F e1 e2 h1 h2 h3 hl hs hT h0 hI hTT;generalize sumI l=S at*;go_enter Um,Ut
  go_wp2_with fail
  refine HC.o.mono ?_;rintro e w1 ⟨rfl,hb1⟩;have HB:=η hb1;clear hb1;go_wp2_with fail
  refine(HD.o _ HB.o).mono ?_;rintro e w2 ⟨rfl,hr,hb2,hlt⟩;have HR:=η hr;have aV:=τ HB hb2;clear hr hb2;go_wp2_with fail
  go_ret2;exact⟨aC ⟨w1.heap.size,0,aB⟩,aA l,by rw [rI];rfl,HR.o.eA hlt,aV.o⟩
 have e1:vU T l=iP T l:=by grind [vU]
 have e2:uV T l= []:=by grind [uV]
 rw [e1,e2];have ub:(iP T l==0)=aP:=by simpa using h1
 have h1n:(iP T l !=0)=aO:=by simpa using h1
 clear e1 e2 h1 hl hs hT;generalize iP T l=E at*;generalize xL T l=V at*;go_enter Um,Ut
 go_wp2_with fail
 refine HC.o.mono ?_;rintro e w1 ⟨rfl,hb1⟩;have HB:=η hb1;clear hb1;go_wp2_with fail
 go_ret2;exact yA.nil _ _ _ HB.o
def za(T:Int)(l:List Int):Int:=if iP T l≠0 then iP T l else if sumI l<=T then 0 else vU T l
def dN(T:Int)(l:List Int):List Int:=if iP T l≠0 then [] else if sumI l<=T then l else uV T l
def T8(l:List Int)(w:aJ):dX->aJ->Prop:=λe w'=>∃A c,e=aT (aH A (aA l) c)/\aW w' w'.heap.size A (l.map (aG aF))/\aa w.heap.size w w'
theorem aE2(l:List Int)(A:Option ai)(c:Nat)(w:aJ)(hn:aA l<=1000000)(hs:aW w w.heap.size A (l.map (aG aF))):
 aQ aM 158 #[aH A (aA l) c] w (T8 l w):=by
 have inf:(aM.info? 2).map (λi=>(i.zero,i.size,i.bytes))=aC (aC (ν 0),1,8):=by kernel_rfl
 obtain⟨i0,hi,hz0,hz1,hz2⟩:=dP inf;cases A with
 |none=>
  have e:l= []:=by
   cases l with
   |nil=>rfl
   |cons a l=>
    obtain⟨b,o,h,_⟩:=hs 0 (ν a) (by simp);cases h
  subst e;refine(by first|exact slices_Clone_int_nil 0 c w|exact slices_Clone_nil_f158 0 c w|exact slices_Clone_nil 0 c w:aQ aM 158 #[aH aB 0 c] w _).mono ?_;rintro e w' ⟨rfl,rfl⟩;exact⟨aB,0,rfl,aW.nil,aX _ _⟩
 |some a=>
  have hnews:∀(o:Obj) j u,(l.map (aG aF))[j]? =aC u->(w.alloc o).cell? (a.add j)=aC u:=λob j u hu=>by obtain⟨b,o,e,hb,hc⟩:=hs j u hu;grind [Addr.add,BU]
  have Kb:∀u∈l.map (aG aF),u.oneCell'=aO:=λu hu=>by obtain⟨y,_,rfl⟩:=di.1 hu;rfl
  have HN:=η hnews;have H1:=η Kb;clear hnews Kb hs;have q22:∀(w:aJ) (a:Option ai) (n c n' c':Nat),(binOp .eql 53 (aH a n c) (aH aB n' c')).run aM w= .ok (bK a.isNone) w:=λw a n c n' c'=>Lib.run_eql_slice_nil w _ _ a n c n' c' mX
  go_enter func158,ntmps158
  go_wp2_with (at_builtin;refine jC _ rfl _ _ 53 rfl w.heap.size 2 i0 (ν 0) 1 8 mX hi hz0 hz1 hz2 rfl (by decide) _ _ _ rfl (World.ownsRow_made w #[] 0 (aZ _) (bM _) rfl) a (aA l) c (l.map (aG aF)) rfl (by simp) (HN.o _) H1.o (by simp only [bO];omega) (by omega) (by simp) ?_)
  intro v' w1 hown hgrow _;have HO:=η hown;have HG:=η hgrow;clear hown hgrow;go_wp2
  go_ret;have hO:w1.ownsRow w.heap.size 2 1 v' (aA l) (l.map (aG aF)):=by simpa using HO.o
  obtain⟨A1,c1,rfl⟩:=bL hO;exact⟨A1,c1,rfl,aW.cB hO,((aX _ w).alloc (aZ _) _).grown HG.o (by simp) (by grind [eF])⟩
theorem Yu(T:Int)(l:List Int)(A:Option ai)(c:Nat)(w:aJ)(hT:aL T)(hl:∀x∈l,aL x)(hs:aW w w.heap.size A (l.map (aG aF)))(hn:aA l<=bO):
 aQ aM 194 #[ν T,aH A (aA l) c] w (yA w (dN T l) (za T l)):=by
 have HC:=η (a2I T l A c w hl hs hn);by_cases h1:iP T l=0
 ·have F:=QJ h1;have hlen:=F.len;by_cases h2:sumI l<=T
  ·have e1:za T l=0:=by grind [za]
   have e2:dN T l=l:=by grind [dN]
   rw [e1,e2];rw [h1,F.val] at HC;have HD:Hid (∀W,β w W->aQ aM 158 #[aH A (aA l) c] W (T8 l W)):=λW hW=>aE2 l A c W (by omega) ((hs.below hW).mono hW.size)
   clear F e1 e2 h1 hl hs hT;generalize sumI l=S at*;go_enter a0f,a0z
   go_wp2_with fail
   refine HC.o.mono ?_;rintro e w1 ⟨rfl,hb1⟩;have HB:=η hb1;clear hb1;go_wp2_with fail
   refine(HD.o _ HB.o).mono ?_;rintro e w2 ⟨A2,c2,rfl,hs2,hb2⟩;have cO:=η hs2;have aV:=τ HB hb2;clear hs2 hb2;go_wp2_with fail
   go_ret2;exact⟨A2,c2,rfl,cO.o,aV.o⟩
  have e1:za T l=vU T l:=by grind [za]
  have e2:dN T l=uV T l:=by grind [dN]
  rw [e1,e2];rw [h1,F.val] at HC;have HD:Hid (∀W,β w W->aQ aM 228 #[ν T,aH A (aA l) c] W (yA W (uV T l) (vU T l))):=λW hW=>a8j T l A c W hT hl ((hs.below hW).mono hW.size) hn
  clear F e1 e2 h1 hl hs hT;generalize sumI l=S at*;generalize uV T l=zs at*;generalize vU T l=E at*;go_enter a0f,a0z
  go_wp2_with fail
  refine HC.o.mono ?_;rintro e w1 ⟨rfl,hb1⟩;have HB:=η hb1;clear hb1;go_wp2_with fail
  refine(HD.o _ HB.o).mono ?_;rintro e w2 ⟨A2,c2,rfl,hs2,hb2⟩;have cO:=η hs2;have aV:=τ HB hb2;clear hs2 hb2;go_wp2_with fail
  go_ret2;exact⟨A2,c2,rfl,cO.o,aV.o⟩
 have e1:za T l=iP T l:=by grind [za]
 have e2:dN T l= []:=by grind [dN]
 rw [e1,e2];have ub:(iP T l==0)=aP:=by simpa using h1
 have h1n:(iP T l !=0)=aO:=by simpa using h1
 clear e1 e2 h1 hl hs hT;generalize iP T l=E at*;generalize xL T l=V at*;go_enter a0f,a0z
 go_wp2_with fail
 refine HC.o.mono ?_;rintro e w1 ⟨rfl,hb1⟩;have HB:=η hb1;clear hb1;go_wp2_with fail
 go_ret2;exact yA.nil _ _ _ HB.o
def fitB:List Int->List Int->Bool
 | [],[]=>aO
 |c::cs,p::ps=>decide (0<=p)&&decide (p<=c)&&fitB cs ps
 |_,_=>aP
def oT(cs ps:List Int):List Int:=if fitB cs ps then kV (· - ·) cs ps else []
def AV(cs ps:List Int):Int:=if fitB cs ps then 0 else 1
theorem a3P:∀ {cs ps:List Int},fitB cs ps=aO->aA cs=aA ps
 | [],[],_=>rfl
 |c::cs,p::ps,h=>by simp only [fitB,ji] at h;simp [a3P h.2]
 | [],_::_,h=>by simp [fitB] at h
 |_::_,[],h=>by simp [fitB] at h
theorem QI:∀ {cs ps:List Int},aA cs=aA ps->(fitB cs ps=aO↔∀i (h:i<aA cs) (h':i<aA ps),0<=ps[i]/\ps[i]<=cs[i])
 | [],[],_=>by simp [fitB]
 |c::cs,p::ps,e=>by
  have ih:=QI (cs:=cs) (ps:=ps) (by simpa using e);simp only [fitB,ji,decide_eq_true_eq,ih];constructor
  ·rintro⟨h1,h2⟩ i h h';cases i with
   |zero=>exact h1
   |succ i=>grind
  intro h;exact⟨h 0 (by simp) (by simp),λi h1 h2=>h (i+1) (by simpa using h1) (by simpa using h2)⟩
 | [],_::_,e=>by simp at e
 |_::_,[],e=>by simp at e
theorem a3Q {cs ps:List Int} {i:Nat}(e:aA cs=aA ps)(h:i<aA cs)(h':i<aA ps)(hn:¬(0<=ps[i]/\ps[i]<=cs[i])):fitB cs ps=aP:=by grind [QI]
theorem aMH {cs ps:List Int} {k:Nat}(h:k<aA cs)(h':k<aA ps):kV (· - ·) (cs.take (k+1)) (ps.take (k+1))=kV (· - ·) (cs.take k) (ps.take k)++ [cs[k]-ps[k]]:=by rw [fH h,fH h',List.zipWith_append (by simp;omega)];rfl
theorem aAC(cs ps:List Int)(A A':Option ai)(c c':Nat)(w:aJ)(hcs:∀x∈cs,aL x)(hs:aW w w.heap.size A (cs.map (aG aF)))(hs':aW w w.heap.size A' (ps.map (aG aF)))(hn:aA cs<=1000000):
 aQ aM 195 #[aH A (aA cs) c,aH A' (aA ps) c'] w (yA w (oT cs ps) (AV cs ps)):=by
 by_cases hlen:aA cs=aA ps
 ·have inf:(aM.info? 2).map (λi=>(i.zero,i.size,i.bytes))=aC (aC (ν 0),1,8):=by kernel_rfl
  obtain⟨i0,bu,hz0,hz1,hz2⟩:=dP inf;have HS:=η hs;have U7:=η hs';have HI:=η hcs;have HLEN:=η hlen;rw [<-hlen];clear hs hs' hcs hlen;go_enter aAx,aBk
  go_wp2_with fail
  go_loopw [6,7,8,16] (λu _ _ i wr=>∃k:Nat,k<=aA cs/\i=ν k/\Hid (∀i (h:i<aA cs) (h':i<aA ps),i<k->0<=ps[i]/\ps[i]<=cs[i])/\Hid (wr.ownsRow w.heap.size 2 1 u (aA (kV (· - ·) (cs.take k) (ps.take k))) ((kV (· - ·) (cs.take k) (ps.take k)).map (aG aF)))/\Hid (β w wr)) (λ_ _ _ i _=>aA cs-(ag i).toNat)
  case atStart=>exact⟨0,bM _,rfl,λi _ _ h=>by omega,⟨by simp,aS ⟨rfl,rfl⟩⟩,aX _ _⟩
  case round=>
   obtain⟨k,hk,rfl,HP,HO,HB⟩:=hrel;have hsz:=HB.o.size;by_cases hlt:k<aA cs
   ·have yh:k<aA ps:=by have:=HLEN.o;omega
    obtain⟨b,o,rfl,hb,hc⟩:=(HS.o.below HB.o).at (k:=k) (by simpa using hlt);obtain⟨b',o',rfl,hb',hc'⟩:=(U7.o.below HB.o).at (k:=k) (by simpa using yh);rw [xC] at hc hc';have hI:=HI.o cs[k] (cK hlt);unfold aL at hI;obtain⟨Db,hI2⟩:=hI;by_cases hx:ps[k]<0
    ·have HF:=η (a3Q HLEN.o hlt yh (by omega));go_wp2_with fail
     go_ret2;have e1:oT cs ps= []:=by unfold oT;rw [HF.o];rfl
     have e2:AV cs ps=1:=by unfold AV;rw [HF.o];rfl
     rw [e1,e2];exact yA.nil _ _ _ HB.o
    by_cases hy:cs[k]<ps[k]
    ·have HF:=η (a3Q HLEN.o hlt yh (by omega));go_wp2_with fail
     go_ret2;have e1:oT cs ps= []:=by unfold oT;rw [HF.o];rfl
     have e2:AV cs ps=1:=by unfold AV;rw [HF.o];rfl
     rw [e1,e2];exact yA.nil _ _ _ HB.o
    have nA:Hid (∀i (h:i<aA cs) (h':i<aA ps),i<k+1->0<=ps[i]/\ps[i]<=cs[i]):=by
     intro i h h' hik;by_cases e:i=k
     ·subst e;omega
     exact HP.o i h h' (by omega)
    have HF:=η (aMH hlt yh);have hzl:aA (kV (· - ·) (cs.take k) (ps.take k))<=k:=by grind
    generalize kV (· - ·) (cs.take k) (ps.take k)=ys at*;go_wp2_with (at_builtin;refine jC _ rfl _ _ 53 rfl w.heap.size 2 i0 _ 1 8 mX bu hz0 hz1 hz2 rfl (by decide) _ (aA ys) (ys.map (aG aF)) rfl (HO.o.alloc _) ⟨wr.heap.size,0,aB⟩ 1 1 [ν (cs[k]-ps[k])] rfl rfl (dS _ _ #[_] (by simp)) xy (by simp only [bO];omega) (by omega) (by simp;omega) ?_)
    intro v' w4 hown1 dK _;have dY:Hid (w4.ownsRow w.heap.size 2 1 v' (aA (kV (· - ·) (cs.take (k+1)) (ps.take (k+1)))) ((kV (· - ·) (cs.take (k+1)) (ps.take (k+1))).map (aG aF))):=by show kF _ _ _ _ _ _ _;rw [HF.o,dh,cN,uT];exact hown1
    have py:Hid (β w w4):=(HB.o.alloc hsz _).grown dK (by simp;omega) (λj hj=>eU HO.o j hj);clear hown1 dK;go_wp2_with fail
    go_roundw
    case rel=>grind
    case measure=>simp [ag];omega
   obtain rfl:k=aA cs:=by omega
   have HF:=η ((QI HLEN.o).2 λi h h'=>HP.o i h h' h);have hO:=HO.o;have e9:ps.take (aA cs)=ps:=by rw [HLEN.o,cU]
   rw [cU,e9] at hO;have e1:oT cs ps=kV (· - ·) cs ps:=by unfold oT;rw [HF.o];rfl
   have e2:AV cs ps=0:=by unfold AV;rw [HF.o];rfl
   generalize kV (· - ·) cs ps=zs at hO e1;obtain⟨A1,c1,rfl⟩:=bL hO;have qh:=η (aW.cB hO);have yD:=η e1;have mr:=η e2;clear hO e1 e2 e9;go_wp2_with fail
   go_ret2;rw [yD.o,mr.o];exact⟨A1,c1,rfl,qh.o,HB.o⟩
 have e0:fitB cs ps=aP:=by grind [a3P]
 have e1:oT cs ps= []:=by grind [oT]
 have e2:AV cs ps=1:=by grind [AV]
 rw [e1,e2];clear e0 e1 e2 hs hs' hcs;have h9:((aA cs:Int) !=(aA ps:Int))=aO:=by simp;omega
 have h8:(aA cs==aA ps)=aP:=by simpa using hlen
 go_enter aAx,aBk
 go_wp2_with fail
 go_ret2;exact yA.nil _ _ _ (aX _ _)
end
def Ey(x:ak):Bool:=decide (aA x.ms<=20)&&(decide (aA x.ss<=20)&&decide (aA x.cy<=20))
theorem aFX(x:ak)(w:aJ)(hm:aA x.ms<=bO)(hs:aA x.ss<=bO)(hc:aA x.cy<=bO):
 aQ aM 22 #[x.val] w λe w'=>e=aT (bK (Ey x))/\β w w':=by
 have aY:=η (mY w x);have HF:=η (show Ey x=(decide (aA x.ms<=20)&&(decide (aA x.ss<=20)&&decide (aA x.cy<=20))) from rfl);unfold bO at hm hs hc;generalize Ey x=fb at*;unfold ak.val at*;by_cases h1:aA x.ms<=20
 ·by_cases h2:aA x.ss<=20
  ·by_cases h3:aA x.cy<=20
   ·have HG:Hid (aO=fb):=by grind
    go_enter Uk,Ur
    go_wp2
    go_ret;exact⟨fT (by rw [<-HG.o];simp;omega),aY⟩
   have HG:Hid (aP=fb):=by grind
   go_enter Uk,Ur
   go_wp2
   go_ret;exact⟨fT (by rw [<-HG.o];simp;omega),aY⟩
  have HG:Hid (aP=fb):=by grind
  go_enter Uk,Ur
  go_wp2
  go_ret;exact⟨fT HG,aY⟩
 have HG:Hid (aP=fb):=by grind
 go_enter Uk,Ur
 go_wp2
 go_ret;exact⟨fT HG,aY⟩
theorem Xg(n a b:Int)(w:aJ)(h:a<=n)(h':n<=b):aQ aM 45 #[aG aF n,aG aF a,aG aF b] w λe w'=>e=aT (aG aF n)/\w=w':=by
 go_enter func45,ntmps45
 go_wp2
 go_ret;refine⟨cW ?_,rfl⟩;omega
section
theorem lz {w:aJ} {g:Nat} {cs:Array aN} {t:bZ}(h:w.heap[g]? =aC (aK cs t (0,0)))(i:Nat)(u:aN):(w.setCell ⟨g,i,aB⟩ u).heap[g]? =aC (aK (cs.setIfInBounds i u) t (0,0)):=by simp [Em,Array.getElem?_modify,h]
theorem kP {w:aJ} {base:Nat} {e:bZ} {size n:Nat} {v:aN} {xs:List aN}(h:w.ownsRow base e size v n xs) {p:ai}(hp:v.ownBlock≠aC p.block)(u:aN):(w.setCell p u).ownsRow base e size v n xs:=by have hg:w.grownBy (w.setCell p u) (aC p.block):=⟨rfl,rfl,rfl,by simp [Em],λi _ hi=>nR _ _ _ _ (λe=>hi (by rw [e]))⟩;exact h.kept hg (Or.inr hp)
theorem J0 {w:aJ} {base base':Nat} {e e':bZ} {size size' n n':Nat} {v v':aN} {xs xs':List aN}(h:w.ownsRow base e size v n xs)(h':w.ownsRow base' e' size' v' n' xs')(hne:e≠e'):v.ownBlock=aB\/v.ownBlock≠v'.ownBlock:=by
 rcases h.2 with⟨rfl,_⟩|⟨g,cap,cur,rfl,_,hh,_⟩
 ·left;rfl
 right;rcases h'.2 with⟨rfl,_⟩|⟨g',cap',cur',rfl,_,IQ,_⟩
 ·simp [eF]
 intro he;have e2:g=g':=by simpa [eF] using he
 subst e2;rw [hh] at IQ;injection IQ with IQ;injection IQ with _ ht;exact hne ht
structure ik(w wr:aJ)(v0 v1 v2:aN)(ms ss:List Pr)(cy:List Cy):Prop where
 box:wr.heap[w.heap.size+1]? =aC (aK #[v0,v1,v2,ν 500,ν 200,ν 1,ν 64,ν 32] 26 (0,0))
 res:wr.heap[w.heap.size]? =aC (aK #[aH aB 0 0,aH aB 0 0,aH aB 0 0,ν 0,ν 0,ν 0,ν 0,ν 0] 26 (0,0))
 o0:wr.ownsRow (w.heap.size+2) 67 2 v0 (aA ms) (je ms)
 o1:wr.ownsRow (w.heap.size+2) 69 2 v1 (aA ss) (je ss)
 o2:wr.ownsRow (w.heap.size+2) 71 4 v2 (aA cy) (uZ cy)
 xK:β w wr
section
variable {w wr w4:aJ} {v0 v1 v2 v':aN} {ms ss:List Pr} {cy:List Cy} {o:Obj}
theorem ik.lt(h:ik w wr v0 v1 v2 ms ss cy):w.heap.size+1<wr.heap.size:=(fY.1 h.box).1
theorem ik.c(h:ik w wr v0 v1 v2 ms ss cy)(j:Nat):wr.cell? ⟨w.heap.size+1,j,aB⟩=(#[v0,v1,v2,aG aF 500,aG aF 200,aG aF 1,aG aF 64,aG aF 32]:Array aN)[j]? :=bH _ _ _ _ _ (0,0) h.box
theorem ik.f(h:ik w wr v0 v1 v2 ms ss cy)(j:Nat):wr.frozen? ⟨w.heap.size+1,j,aB⟩=aP:=KH _ _ _ _ _ h.box
theorem ik.r(h:ik w wr v0 v1 v2 ms ss cy)(j:Nat):wr.cell? ⟨w.heap.size,j,aB⟩=(#[aH aB 0 0,aH aB 0 0,aH aB 0 0,aG aF 0,aG aF 0,aG aF 0,aG aF 0,aG aF 0]:Array aN)[j]? :=bH _ _ _ _ _ (0,0) h.res
theorem ik.rf(h:ik w wr v0 v1 v2 ms ss cy)(j:Nat):wr.frozen? ⟨w.heap.size,j,aB⟩=aP:=KH _ _ _ _ _ h.res
theorem far {base:Nat} {e:bZ} {size n:Nat} {v:aN} {xs:List aN}(h:w.ownsRow base e size v n xs) {g:Nat}(hg:g<base):v.ownBlock≠aC g:=λe=>by have:=(h.lt _ e).1;omega
theorem Dx {base:Nat} {e:bZ} {size n:Nat} {v:aN} {xs:List aN}(h:wr.ownsRow base e size v n xs)(hg:(wr.alloc o).grownBy w4 v.ownBlock) {g:Nat}(hb:g<base)(hl:g<wr.heap.size):w4.heap[g]? =wr.heap[g]? :=
 (hg.block g (by simp;omega) (λe=>far h hb e.symm)).trans (fL _ _ hl)
theorem ik.m(h:ik w wr v0 v1 v2 ms ss cy) {y:Pr}(hown:w4.ownsRow (w.heap.size+2) 67 2 v' (aA ms+1) (je ms++y.cells))(hg:(wr.alloc o).grownBy w4 v0.ownBlock):ik w (w4.setCell ⟨w.heap.size+1,0,aB⟩ v') v' v1 v2 (ms++ [y]) ss cy:=by
 have hlt:=h.lt;have hsz:=h.xK.size;refine⟨?_, ?_,by rw [show aA (ms++ [y])=aA ms+1 by simp,show je (ms++ [y])=je ms++y.cells by simp [je]];exact kP hown (far hown (by simp)) _,kP ((h.o1.alloc o).kept hg (J0 h.o1 h.o0 (by decide))) (far h.o1 (by simp)) _,kP ((h.o2.alloc o).kept hg (J0 h.o2 h.o0 (by decide))) (far h.o2 (by simp)) _, ?_⟩
 ·rw [lz ((Dx h.o0 hg (by omega) hlt).trans h.box)];rfl
 ·rw [nR _ _ _ _ (by simp)];exact(Dx h.o0 hg (by omega) (by omega)).trans h.res
 exact((h.xK.alloc hsz o).grown hg (by simp;omega) (λj hj=>bz (by omega) (eU h.o0 j hj))).setCell (by simp) _
theorem ik.m0(h:ik w wr v0 v1 v2 ms ss cy)(hg:(wr.alloc o).grownBy w4 v0.ownBlock):w4.cell? ⟨w.heap.size+1,0,aB⟩=aC v0/\w4.frozen? ⟨w.heap.size+1,0,aB⟩=aP/\w.heap.size+1<w4.heap.size:=
 have hb:=(Dx h.o0 hg (by omega) h.lt).trans h.box
 ⟨ρ hb,KH _ _ _ _ _ hb,(fY.1 hb).1⟩
theorem ik.s(h:ik w wr v0 v1 v2 ms ss cy) {y:Pr}(hown:w4.ownsRow (w.heap.size+2) 69 2 v' (aA ss+1) (je ss++y.cells))(hg:(wr.alloc o).grownBy w4 v1.ownBlock):ik w (w4.setCell ⟨w.heap.size+1,1,aB⟩ v') v0 v' v2 ms (ss++ [y]) cy:=by
 have hlt:=h.lt;have hsz:=h.xK.size;refine⟨?_, ?_,kP ((h.o0.alloc o).kept hg (J0 h.o0 h.o1 (by decide))) (far h.o0 (by simp)) _,by rw [show aA (ss++ [y])=aA ss+1 by simp,show je (ss++ [y])=je ss++y.cells by simp [je]];exact kP hown (far hown (by simp)) _,kP ((h.o2.alloc o).kept hg (J0 h.o2 h.o1 (by decide))) (far h.o2 (by simp)) _, ?_⟩
 ·rw [lz ((Dx h.o1 hg (by omega) hlt).trans h.box)];rfl
 ·rw [nR _ _ _ _ (by simp)];exact(Dx h.o1 hg (by omega) (by omega)).trans h.res
 exact((h.xK.alloc hsz o).grown hg (by simp;omega) (λj hj=>bz (by omega) (eU h.o1 j hj))).setCell (by simp) _
theorem ik.s0(h:ik w wr v0 v1 v2 ms ss cy)(hg:(wr.alloc o).grownBy w4 v1.ownBlock):w4.cell? ⟨w.heap.size+1,1,aB⟩=aC v1/\w4.frozen? ⟨w.heap.size+1,1,aB⟩=aP/\w.heap.size+1<w4.heap.size:=
 have hb:=(Dx h.o1 hg (by omega) h.lt).trans h.box
 ⟨ρ hb,KH _ _ _ _ _ hb,(fY.1 hb).1⟩
theorem ik.y(h:ik w wr v0 v1 v2 ms ss cy) {y:Cy}(hown:w4.ownsRow (w.heap.size+2) 71 4 v' (aA cy+1) (uZ cy++y.cells))(hg:(wr.alloc o).grownBy w4 v2.ownBlock):ik w (w4.setCell ⟨w.heap.size+1,2,aB⟩ v') v0 v1 v' ms ss (cy++ [y]):=by
 have hlt:=h.lt;have hsz:=h.xK.size;refine⟨?_, ?_,kP ((h.o0.alloc o).kept hg (J0 h.o0 h.o2 (by decide))) (far h.o0 (by simp)) _,kP ((h.o1.alloc o).kept hg (J0 h.o1 h.o2 (by decide))) (far h.o1 (by simp)) _,by rw [show aA (cy++ [y])=aA cy+1 by simp,show uZ (cy++ [y])=uZ cy++y.cells by simp [uZ]];exact kP hown (far hown (by simp)) _, ?_⟩
 ·rw [lz ((Dx h.o2 hg (by omega) hlt).trans h.box)];rfl
 ·rw [nR _ _ _ _ (by simp)];exact(Dx h.o2 hg (by omega) (by omega)).trans h.res
 exact((h.xK.alloc hsz o).grown hg (by simp;omega) (λj hj=>bz (by omega) (eU h.o2 j hj))).setCell (by simp) _
theorem ik.y0(h:ik w wr v0 v1 v2 ms ss cy)(hg:(wr.alloc o).grownBy w4 v2.ownBlock):w4.cell? ⟨w.heap.size+1,2,aB⟩=aC v2/\w4.frozen? ⟨w.heap.size+1,2,aB⟩=aP/\w.heap.size+1<w4.heap.size:=
 have hb:=(Dx h.o2 hg (by omega) h.lt).trans h.box
 ⟨ρ hb,KH _ _ _ _ _ hb,(fY.1 hb).1⟩
structure PO(w W:aJ)(cs:Array aN)(v0 v1 v2:aN)(ms ss:List Pr)(cy:List Cy):Prop where
 res:W.heap[w.heap.size]? =aC (aK cs 26 (0,0))
 o0:W.ownsRow (w.heap.size+2) 67 2 v0 (aA ms) (je ms)
 o1:W.ownsRow (w.heap.size+2) 69 2 v1 (aA ss) (je ss)
 o2:W.ownsRow (w.heap.size+2) 71 4 v2 (aA cy) (uZ cy)
 xK:β w W
theorem ik.two(h:ik w wr v0 v1 v2 ms ss cy):PO w wr #[aH aB 0 0,aH aB 0 0,aH aB 0 0,aG aF 0,aG aF 0,aG aF 0,aG aF 0,aG aF 0] v0 v1 v2 ms ss cy:=⟨h.res,h.o0,h.o1,h.o2,h.xK⟩
theorem PO.set {cs:Array aN}(h:PO w wr cs v0 v1 v2 ms ss cy)(j:Nat)(u:aN):PO w (wr.setCell ⟨w.heap.size,j,aB⟩ u) (cs.setIfInBounds j u) v0 v1 v2 ms ss cy:=
 ⟨lz h.res j u,kP h.o0 (far h.o0 (by simp)) _,kP h.o1 (far h.o1 (by simp)) _,kP h.o2 (far h.o2 (by simp)) _,h.xK.setCell (aZ _) _⟩
end
theorem aKZ(z0 z1 z2 z3 z4 z5 z6 z7 a0 a1 a2 a3 a4 a5 a6 a7:aN):(((((((((#[z0,z1,z2,z3,z4,z5,z6,z7]:Array aN).setIfInBounds 0 a0).setIfInBounds 1 a1).setIfInBounds 2 a2).setIfInBounds 3 a3).setIfInBounds 4 a4).setIfInBounds 5 a5).setIfInBounds 6 a6).setIfInBounds 7 a7)= #[a0,a1,a2,a3,a4,a5,a6,a7]:=by simp
theorem aHs:(aM.info? 67).map (λi=>(i.zero,i.size,i.bytes))=aC (aC (bP #[aG aF 0,aG aF 0]),2,16):=by kernel_rfl
theorem aKP:(aM.info? 69).map (λi=>(i.zero,i.size,i.bytes))=aC (aC (bP #[aG aF 0,aG aF 0]),2,16):=by kernel_rfl
theorem aDT:(aM.info? 71).map (λi=>(i.zero,i.size,i.bytes))=aC (aC (bP #[aG aF 0,aG aF 0,aG aF 0,aG aF 0]),4,32):=by kernel_rfl
theorem a3R {a b c d:Int}:∀u∈ [aG aF a,aG aF b,aG aF c,aG aF d],u.oneCell'=aO:=by intro u hu;simp at hu;rcases hu with rfl|rfl|rfl|rfl<;>rfl
theorem a8Q {a b:Int}:∀u∈ [aG aF a,aG aF b],u.oneCell'=aO:=by intro u hu;simp at hu;rcases hu with rfl|rfl<;>rfl
theorem a6u {α:Type}(k:Nat)(y:α):gP (k+1) y=gP k y++ [y]:=by rw [List.replicate_succ']
theorem aJT(w:aJ):ik w ((w.alloc (aK #[aH aB 0 0,aH aB 0 0,aH aB 0 0,aG aF 0,aG aF 0,aG aF 0,aG aF 0,aG aF 0] 26)).alloc (aK #[aH aB 0 0,aH aB 0 0,aH aB 0 0,aG aF 500,aG aF 200,aG aF 1,aG aF 64,aG aF 32] 26)) (aH aB 0 0) (aH aB 0 0) (aH aB 0 0) [] [] []:=
 ⟨N2 _ _ (by simp),by rw [fL _ _ (by simp)];exact cQ w _,⟨by simp [je],aS ⟨rfl,rfl⟩⟩,⟨by simp [je],aS ⟨rfl,rfl⟩⟩,⟨by simp [uZ],aS ⟨rfl,rfl⟩⟩,σ.alloc (by simp) _⟩
end
section
section
variable {P:Program} {md:D9} {ops:Array Oper} {Q:Exit->Act->aJ->Prop} {S:aJ->Prop} {st:Nat}
def wpAnyL(P:Program)(md:D9)(ops:Array Oper)(Q:Exit->Act->aJ->Prop)(S:aJ->Prop)(st:Nat):Nat->Array Bool->Act->aJ->Prop
 |0,listed,a,w=>pI md ops listed= []/\Q .normal a w
 |fuel+1,listed,a,w=>
  (pI md ops listed= []->Q .normal a w)/\
  ∀i∈pI md ops listed,wpOp P ops Q i (λa' w'=>(i≠st->S w')/\wpAnyL P md ops Q S st fuel (listed.setIfInBounds i aO) a' w') a w
theorem a8a:∀(fuel:Nat) (listed:Array Bool) (a:Act) (w:aJ),wpAnyL P md ops Q S st fuel listed a w->wpAny P md ops Q fuel listed a w
 |0,_,_,_,h=>h
 |fuel+1,_,_,_,h=>⟨h.1,λi hi=>wpOp_mono (λ_ _ h'=>a8a fuel _ _ _ h'.2) (h.2 i hi)⟩
def Whole(md:D9)(ops:Array Oper)(listed:Array Bool):Prop:=∀(k:Nat) (o:Oper),ops[k]? =aC o->listed.getD k aO=aO->∀e∈o.after,zX md e=aO->listed.getD e.on aP=aO
def OD(md:D9)(ops:Array Oper)(listed:Array Bool):Bool:=(dQ ops.size).all λk=> !listed.getD k aO||((ops[k]?).map λo=>o.after.all λe=> !zX md e||listed.getD e.on aP).getD aO
theorem a8Z {listed:Array Bool}(h:OD md ops listed=aO):Whole md ops listed:=by intro k o ho hk e he hb;unfold OD at h;rw [List.all_eq_true] at h;have hlt:=(fY.1 ho).1;have h1:=h k (nV.2 hlt);rw [hk,ho] at h1;simp only [aAS,PM,Bool.not_true,Bool.false_or] at h1;rw [Array.all_eq_true_iff_forall_mem] at h1;have h2:=h1 e he;rw [hb] at h2;simpa using h2
theorem Whole.ready {listed:Array Bool} {j:Nat}(h:Whole md ops listed)(hj:j∈pI md ops listed):Whole md ops (listed.setIfInBounds j aO):=by
 obtain⟨_,oj,xY,hall⟩:=Bt.1 hj;intro k o ho hk e he hb;by_cases hjk:j=k
 ·subst hjk;rw [xY] at ho;cases ho;exact getD_set_true (hall e he hb)
 rw [getD_set_ne aO hjk] at hk;exact getD_set_true (h k o ho hk e he hb)
def waitsB(md:D9)(ops:Array Oper)(i:Nat):Nat->Nat->Bool
 |0,_=>aP
 |n+1,k=>((ops[k]?).map λo=>o.after.any λe=>zX md e&&(e.on==i||waitsB md ops i n e.on)).getD aP
theorem Ym {listed:Array Bool} {i:Nat}(hw:Whole md ops listed):∀(n k:Nat) (o:Oper),waitsB md ops i n k=aO->ops[k]? =aC o->(∀e∈o.after,zX md e=aO->listed.getD e.on aP=aO)->listed.getD i aP=aO
 |0,_,_,h,_,_=>by simp [waitsB] at h
 |n+1,k,o,h,ho,hall=>by
  unfold waitsB at h;rw [ho] at h;simp only [aAS,PM] at h;obtain⟨j,hj,h⟩:=Array.any_eq_true.1 h;have he:=Array.getElem_mem hj;generalize o.after[j]=e at*;simp only [ji,Bool.or_eq_true,beq_iff_eq] at h;obtain⟨hb,h⟩:=h;have hl:=hall e he hb;rcases h with h|h
  ·rw [<-h];exact hl
  ·match Ka:ops[e.on]? with
   |none=>
    cases n with
    |zero=>simp [waitsB] at h
    |succ n=>unfold waitsB at h;rw [Ka] at h;simp at h
   |some o'=>
    refine Ym hw n e.on o' h Ka (hw e.on o' Ka ?_);rcases rZ e.on listed.size with h'|h'
    ·simpa [h'] using hl
    simp [JE h'] at hl
theorem aLm {listed:Array Bool} {i n:Nat}(hw:Whole md ops listed)(h:waitsB md ops i n st=aO)(hi:listed.getD i aO=aP):st∉pI md ops listed:=by
 intro hj;obtain⟨_,o,ho,hall⟩:=Bt.1 hj;have h1:=Ym hw n st o h ho hall;rcases rZ i listed.size with h'|h'
 ·simp [h'] at hi h1;rw [hi] at h1;cases h1
 simp [JE h'] at h1
theorem wpAnyL_first {i:Nat} {oi:Oper} {v:aN} {n:Nat}(hi:ops[i]? =aC oi)(hst:waitsB md ops i n st=aO)(Fc:∀(j:Nat) (o:Oper) cs b,ops[j]? =aC o->o.op≠ .select cs b)
 (hQ:∀c a w,Q (.panic c) (a.put oi.dst v) w->Q (.panic c) a w):
 ∀(fuel:Nat) (listed:Array Bool) (a:Act) (w:aJ),Whole md ops listed->
  (∀j oj,ops[j]? =aC oj->j≠i->listed.getD j aO=aP->(∀e∈oj.after,zX md e=aO->e.on≠i)->oi.apart ops oj=aO)->
  i∈pI md ops listed->YieldsIf P ops S oi v a->S w->
  wpAnyL P md ops Q S st fuel (listed.setIfInBounds i aO) (a.put oi.dst v) w->wpAnyL P md ops Q S st (fuel+1) listed a w:=by
 intro fuel;induction fuel with
 |zero=>
  intro listed a w _ _ hr hy hS H;refine⟨λh=>(by rw [h] at hr;cases hr),λj hj=> ?_⟩;by_cases js:j=i
  ·subst js;exact hy.wpOp hi hS ⟨λ_=>hS,H⟩
  have:=Fu hj js;rw [H.1] at this;cases this
 |succ fuel ih=>
  intro listed a w Ds FI hr hy hS H;refine⟨λh=>(by rw [h] at hr;cases hr),λj hj=> ?_⟩;by_cases js:j=i
  ·subst js;exact hy.wpOp hi hS ⟨λ_=>hS,H⟩
  have IW:j≠st:=λe=>aLm Ds hst (Bt.1 hr).1 (e▸hj)
  have h1:=H.2 j (Fu hj js);obtain⟨FK,oj,xY,hall⟩:=Bt.1 hj;have NA:∀e∈oj.after,zX md e=aO->e.on≠i:=λe he hb heq=>by
   have h1:=hall e he hb;have h0:=(Bt.1 hr).1;rw [heq] at h1;rcases rZ i listed.size with h'|h'
   ·simp [h'] at h0 h1;rw [h0] at h1;cases h1
   simp [JE h'] at h1
  have h2:=wpOp_putIf xY (FI j oj xY js FK NA) (λcs b=>Fc i oi cs b hi) (λcs b=>Fc j oj cs b xY) hQ hy h1
  have N5:∀k ok,ops[k]? =aC ok->k≠i->(listed.setIfInBounds j aO).getD k aO=aP->
   (∀e∈ok.after,zX md e=aO->e.on≠i)->oi.apart ops ok=aO:=λk ok hk AH Fg hno=>by
   refine FI k ok hk AH ?_ hno;by_cases hjk:j=k
   ·subst hjk;exact FK
   rw [getD_set_ne aO hjk] at Fg;exact Fg
  refine wpOp_mono (λa' w' h3=>⟨h3.2.1,ih (listed.setIfInBounds j aO) a' w' (Ds.ready hj) N5 (Fu hr (Ne.symm js)) h3.1 (h3.2.1 IW) ?_⟩) h2;rw [Yv _ _ js];exact h3.2.2
theorem cP {i:Nat} {oi:Oper} {v:aN} {fuel:Nat} {listed:Array Bool} {a:Act} {w:aJ}(hi:ops[i]? =aC oi)(hst:waitsB md ops i 12 st=aO)(Ds:OD md ops listed=aO)
 (hs:Region.noSelect ops=aO) (hf:Region.free md ops listed i=aO) (hr:(pI md ops listed).contains i=aO)
 (hQ:∀c a w,Q (.panic c) (a.put oi.dst v) w->Q (.panic c) a w) (hy:YieldsIf P ops S oi v a) (hS:S w)
 (h:wpAnyL P md ops Q S st fuel (listed.setIfInBounds i aO) (a.put oi.dst v) w):wpAnyL P md ops Q S st (fuel+1) listed a w:=
 wpAnyL_first hi hst (a0S hs) hQ fuel listed a w (a8Z Ds) (a0R hi hf) (by simpa using hr) hy hS h
theorem CL {listed:Array Bool} {a:Act} {w:aJ}(hr:pI md ops listed= [])(h:Q .normal a w):∀fuel,wpAnyL P md ops Q S st fuel listed a w
 |0=>⟨hr,h⟩
 |_+1=>⟨λ_=>h,by rw [hr];simp⟩
def cX(P:Program)(md:D9)(ops:Array Oper)(Q:Exit->Act->aJ->Prop)(S:aJ->Prop)(st:Nat)(fuel:Nat)(listed:Array Bool)(a:Act)(w:aJ)(rs:List Nat):Prop:=
 ∀i∈rs,wpOp P ops Q i (λa' w'=>(i≠st->S w')/\wpAnyL P md ops Q S st fuel (listed.setIfInBounds i aO) a' w') a w
theorem cX.nil {fuel:Nat} {listed:Array Bool} {a:Act} {w:aJ}:cX P md ops Q S st fuel listed a w []:=λ_ h=>by cases h
theorem cX.cons {fuel:Nat} {listed:Array Bool} {a:Act} {w:aJ} {i:Nat} {o:Oper} {rs:List Nat}(ho:ops[i]? =aC o)
 (h:∀K':Act->aJ->Prop,Shut (∀a w,(i≠st->S w)->((i≠st->S w)->wpAnyL P md ops Q S st fuel (listed.setIfInBounds i aO) a w)->K' a w)->if Jz o (yielded ops a.tmps)=aO then Oper.wp P o a w K' Q else K' (a.put o.dst undef) w)
 (hs:cX P md ops Q S st fuel listed a w rs):cX P md ops Q S st fuel listed a w (i::rs):=λj hj=>by
 rcases fG.1 hj with rfl|hj
 ·exact wpOp_step ho (λK' hK=>h K' (λa w hS hW=>hK a w ⟨hS,hW hS⟩))
 exact hs j hj
theorem iv {rs:List Nat} {fuel:Nat} {listed:Array Bool} {a:Act} {w:aJ}(hr:pI md ops listed=rs)(hne:rs≠ [])
 (h:cX P md ops Q S st fuel listed a w rs):wpAnyL P md ops Q S st (fuel+1) listed a w:=⟨λh0=>absurd (hr▸h0) hne,hr▸h⟩
theorem CM {id:Nat} {a:Act} {w:aJ}(st:Nat)(hm:P.follows .mixedOrders=aO)(hS:S w.drew)
 (h:S w.drew->wpAnyL P .any ops Q S st ops.size (jh ops.size aP) a w.drew):(Code.region id ops aO).wp P Q a w:=
 wp_region_any hm (a8a _ _ _ _ (h hS))
end
end
section
section
variable {P:Program} {md:D9} {ops:Array Oper} {Q:Exit->Act->aJ->Prop} {S:aJ->Prop} {st:List Nat}
def uw(P:Program)(md:D9)(ops:Array Oper)(Q:Exit->Act->aJ->Prop)(S:aJ->Prop)(st:List Nat):Nat->Array Bool->Act->aJ->Prop
 |0,listed,a,w=>pI md ops listed= []/\Q .normal a w
 |fuel+1,listed,a,w=>
  (pI md ops listed= []->Q .normal a w)/\
  ∀i∈pI md ops listed,wpOp P ops Q i (λa' w'=>(i∉st->S w')/\uw P md ops Q S st fuel (listed.setIfInBounds i aO) a' w') a w
theorem a8b:∀(fuel:Nat) (listed:Array Bool) (a:Act) (w:aJ),uw P md ops Q S st fuel listed a w->wpAny P md ops Q fuel listed a w
 |0,_,_,_,h=>h
 |fuel+1,_,_,_,h=>⟨h.1,λi hi=>wpOp_mono (λ_ _ h'=>a8b fuel _ _ _ h'.2) (h.2 i hi)⟩
theorem aLn {listed:Array Bool} {i n:Nat}(hw:Whole md ops listed) {s:Nat}(h:waitsB md ops i n s=aO)(hi:listed.getD i aO=aP):s∉pI md ops listed:=by
 intro hj;obtain⟨_,o,ho,hall⟩:=Bt.1 hj;have h1:=Ym hw n s o h ho hall;rcases rZ i listed.size with h'|h'
 ·simp [h'] at hi h1;rw [hi] at h1;cases h1
 simp [JE h'] at h1
theorem aLu {i:Nat} {oi:Oper} {v:aN} {n:Nat}(hi:ops[i]? =aC oi)(hst:∀s∈st,waitsB md ops i n s=aO)(Ib:i∉st)(Fc:∀(j:Nat) (o:Oper) cs b,ops[j]? =aC o->o.op≠ .select cs b)
 (hQ:∀c a w,Q (.panic c) (a.put oi.dst v) w->Q (.panic c) a w):
 ∀(fuel:Nat) (listed:Array Bool) (a:Act) (w:aJ),Whole md ops listed->
  (∀j oj,ops[j]? =aC oj->j≠i->listed.getD j aO=aP->(∀e∈oj.after,zX md e=aO->e.on≠i)->oi.apart ops oj=aO)->
  i∈pI md ops listed->YieldsIf P ops S oi v a->S w->
  uw P md ops Q S st fuel (listed.setIfInBounds i aO) (a.put oi.dst v) w->uw P md ops Q S st (fuel+1) listed a w:=by
 intro fuel;induction fuel with
 |zero=>
  intro listed a w _ _ hr hy hS H;refine⟨λh=>(by rw [h] at hr;cases hr),λj hj=> ?_⟩;by_cases js:j=i
  ·subst js;exact hy.wpOp hi hS ⟨λ_=>hS,H⟩
  have:=Fu hj js;rw [H.1] at this;cases this
 |succ fuel ih=>
  intro listed a w Ds FI hr hy hS H;refine⟨λh=>(by rw [h] at hr;cases hr),λj hj=> ?_⟩;by_cases js:j=i
  ·subst js;exact hy.wpOp hi hS ⟨λ_=>hS,H⟩
  have IW:j∉st:=λe=>aLn Ds (hst j e) (Bt.1 hr).1 hj
  have h1:=H.2 j (Fu hj js);obtain⟨FK,oj,xY,hall⟩:=Bt.1 hj;have NA:∀e∈oj.after,zX md e=aO->e.on≠i:=λe he hb heq=>by
   have h1:=hall e he hb;have h0:=(Bt.1 hr).1;rw [heq] at h1;rcases rZ i listed.size with h'|h'
   ·simp [h'] at h0 h1;rw [h0] at h1;cases h1
   simp [JE h'] at h1
  have h2:=wpOp_putIf xY (FI j oj xY js FK NA) (λcs b=>Fc i oi cs b hi) (λcs b=>Fc j oj cs b xY) hQ hy h1
  have N5:∀k ok,ops[k]? =aC ok->k≠i->(listed.setIfInBounds j aO).getD k aO=aP->
   (∀e∈ok.after,zX md e=aO->e.on≠i)->oi.apart ops ok=aO:=λk ok hk AH Fg hno=>by
   refine FI k ok hk AH ?_ hno;by_cases hjk:j=k
   ·subst hjk;exact FK
   rw [getD_set_ne aO hjk] at Fg;exact Fg
  refine wpOp_mono (λa' w' h3=>⟨h3.2.1,ih (listed.setIfInBounds j aO) a' w' (Ds.ready hj) N5 (Fu hr (Ne.symm js)) h3.1 (h3.2.1 IW) ?_⟩) h2;rw [Yv _ _ js];exact h3.2.2
theorem lh {i:Nat} {oi:Oper} {v:aN} {fuel:Nat} {listed:Array Bool} {a:Act} {w:aJ}(hi:ops[i]? =aC oi)(hst:(st.all λs=>waitsB md ops i 12 s)=aO)(Ib:st.contains i=aP)(Ds:OD md ops listed=aO)
 (hs:Region.noSelect ops=aO) (hf:Region.free md ops listed i=aO) (hr:(pI md ops listed).contains i=aO)
 (hQ:∀c a w,Q (.panic c) (a.put oi.dst v) w->Q (.panic c) a w) (hy:YieldsIf P ops S oi v a) (hS:S w)
 (h:uw P md ops Q S st fuel (listed.setIfInBounds i aO) (a.put oi.dst v) w):uw P md ops Q S st (fuel+1) listed a w:=
 aLu hi (λs hs=>List.all_eq_true.1 hst s hs) (by simpa using Ib) (a0S hs) hQ fuel listed a w (a8Z Ds) (a0R hi hf) (by simpa using hr) hy hS h
theorem aLv {i:Nat} {oi:Oper} {v:aN}(hi:ops[i]? =aC oi)(Ib:i∈st)(Fc:∀(j:Nat) (o:Oper) cs b,ops[j]? =aC o->o.op≠ .select cs b)
 (hQ:∀c a w,Q (.panic c) (a.put oi.dst v) w->Q (.panic c) a w):
 ∀(fuel:Nat) (listed:Array Bool) (a:Act) (w:aJ),
  (∀j oj,ops[j]? =aC oj->j≠i->listed.getD j aO=aP->(∀e∈oj.after,zX md e=aO->e.on≠i)->oi.apart ops oj=aO)->
  i∈pI md ops listed->YieldsIf P ops (λ_=>True) oi v a->
  uw P md ops Q S st fuel (listed.setIfInBounds i aO) (a.put oi.dst v) w->uw P md ops Q S st (fuel+1) listed a w:=by
 intro fuel;induction fuel with
 |zero=>
  intro listed a w _ hr hy H;refine⟨λh=>(by rw [h] at hr;cases hr),λj hj=> ?_⟩;by_cases js:j=i
  ·subst js;exact hy.wpOp hi trivial ⟨λh=>absurd Ib h,H⟩
  have:=Fu hj js;rw [H.1] at this;cases this
 |succ fuel ih=>
  intro listed a w FI hr hy H;refine⟨λh=>(by rw [h] at hr;cases hr),λj hj=> ?_⟩;by_cases js:j=i
  ·subst js;exact hy.wpOp hi trivial ⟨λh=>absurd Ib h,H⟩
  have h1:=H.2 j (Fu hj js);obtain⟨FK,oj,xY,hall⟩:=Bt.1 hj;have NA:∀e∈oj.after,zX md e=aO->e.on≠i:=λe he hb heq=>by
   have h1:=hall e he hb;have h0:=(Bt.1 hr).1;rw [heq] at h1;rcases rZ i listed.size with h'|h'
   ·simp [h'] at h0 h1;rw [h0] at h1;cases h1
   simp [JE h'] at h1
  have h2:=wpOp_putIf xY (FI j oj xY js FK NA) (λcs b=>Fc i oi cs b hi) (λcs b=>Fc j oj cs b xY) hQ hy h1
  have N5:∀k ok,ops[k]? =aC ok->k≠i->(listed.setIfInBounds j aO).getD k aO=aP->
   (∀e∈ok.after,zX md e=aO->e.on≠i)->oi.apart ops ok=aO:=λk ok hk AH Fg hno=>by
   refine FI k ok hk AH ?_ hno;by_cases hjk:j=k
   ·subst hjk;exact FK
   rw [getD_set_ne aO hjk] at Fg;exact Fg
  refine wpOp_mono (λa' w' h3=>⟨h3.2.1,ih (listed.setIfInBounds j aO) a' w' N5 (Fu hr (Ne.symm js)) h3.1 ?_⟩) h2;rw [Yv _ _ js];exact h3.2.2
theorem G8 {i:Nat} {oi:Oper} {v:aN} {fuel:Nat} {listed:Array Bool} {a:Act} {w:aJ}(hi:ops[i]? =aC oi)(Ib:st.contains i=aO)
 (hs:Region.noSelect ops=aO) (hf:Region.free md ops listed i=aO) (hr:(pI md ops listed).contains i=aO)
 (hQ:∀c a w,Q (.panic c) (a.put oi.dst v) w->Q (.panic c) a w) (hy:YieldsIf P ops (λ_=>True) oi v a)
 (h:uw P md ops Q S st fuel (listed.setIfInBounds i aO) (a.put oi.dst v) w):uw P md ops Q S st (fuel+1) listed a w:=
 aLv hi (by simpa using Ib) (a0S hs) hQ fuel listed a w (a0R hi hf) (by simpa using hr) hy h
theorem Yp {listed:Array Bool} {a:Act} {w:aJ}(hr:pI md ops listed= [])(h:Q .normal a w):∀fuel,uw P md ops Q S st fuel listed a w
 |0=>⟨hr,h⟩
 |_+1=>⟨λ_=>h,by rw [hr];simp⟩
def gq(P:Program)(md:D9)(ops:Array Oper)(Q:Exit->Act->aJ->Prop)(S:aJ->Prop)(st:List Nat)(fuel:Nat)(listed:Array Bool)(a:Act)(w:aJ)(rs:List Nat):Prop:=
 ∀i∈rs,wpOp P ops Q i (λa' w'=>(i∉st->S w')/\uw P md ops Q S st fuel (listed.setIfInBounds i aO) a' w') a w
theorem gq.nil {fuel:Nat} {listed:Array Bool} {a:Act} {w:aJ}:gq P md ops Q S st fuel listed a w []:=λ_ h=>by cases h
theorem gq.cons {fuel:Nat} {listed:Array Bool} {a:Act} {w:aJ} {i:Nat} {o:Oper} {rs:List Nat}(ho:ops[i]? =aC o)
 (h:∀K':Act->aJ->Prop,Shut (∀a w,(i∉st->S w)->((i∉st->S w)->uw P md ops Q S st fuel (listed.setIfInBounds i aO) a w)->K' a w)->if Jz o (yielded ops a.tmps)=aO then Oper.wp P o a w K' Q else K' (a.put o.dst undef) w)
 (hs:gq P md ops Q S st fuel listed a w rs):gq P md ops Q S st fuel listed a w (i::rs):=λj hj=>by
 rcases fG.1 hj with rfl|hj
 ·exact wpOp_step ho (λK' hK=>h K' (λa w hS hW=>hK a w ⟨hS,hW hS⟩))
 exact hs j hj
theorem uC {rs:List Nat} {fuel:Nat} {listed:Array Bool} {a:Act} {w:aJ}(hr:pI md ops listed=rs)(hne:rs≠ [])
 (h:gq P md ops Q S st fuel listed a w rs):uw P md ops Q S st (fuel+1) listed a w:=⟨λh0=>absurd (hr▸h0) hne,hr▸h⟩
theorem Yr {id:Nat} {a:Act} {w:aJ}(st:List Nat)(hm:P.follows .mixedOrders=aO)(hS:S w.drew)
 (h:S w.drew->uw P .any ops Q S st ops.size (jh ops.size aP) a w.drew):(Code.region id ops aO).wp P Q a w:=
 wp_region_any hm (a8b _ _ _ _ (h hS))
end
end
section
section
variable {P:Program} {md:D9} {ops:Array Oper} {Q:Exit->Act->aJ->Prop} {S:aJ->Prop} {fuel:Nat} {listed:Array Bool} {a:Act} {w:aJ} {oi:Oper}
theorem tL {st:Nat}(i:Nat)(v:aN)(hi:ops[i]? =aC oi)(hb:(waitsB md ops i 12 st&&(OD md ops listed&&(Region.noSelect ops&&(Region.free md ops listed i&&(pI md ops listed).contains i))))=aO)(hQ:∀c a w,Q (.panic c) (a.put oi.dst v) w->Q (.panic c) a w)(hy:Jz oi (yielded ops a.tmps)=aO/\∀w,S w->(execOp a.eval oi).run P w= .ok (.value v) w)(hS:S w)(h:wpAnyL P md ops Q S st fuel (listed.setIfInBounds i aO) (a.put oi.dst v) w):wpAnyL P md ops Q S st (fuel+1) listed a w:=by simp only [ji] at hb;exact cP hi hb.1 hb.2.1 hb.2.2.1 hb.2.2.2.1 hb.2.2.2.2 hQ (aS hy) hS h
theorem nL {st:Nat}(i:Nat)(ho:ops[i]? =aC oi)(hr:pI md ops listed= [i])(h:∀K':Act->aJ->Prop,Shut (∀a w,(i≠st->S w)->((i≠st->S w)->wpAnyL P md ops Q S st fuel (listed.setIfInBounds i aO) a w)->K' a w)->if Jz oi (yielded ops a.tmps)=aO then Oper.wp P oi a w K' Q else K' (a.put oi.dst undef) w):wpAnyL P md ops Q S st (fuel+1) listed a w:=iv hr (by simp) (cX.cons ho h cX.nil)
end
end
theorem Rm(a:Int)(w:aJ)(ha:aL a):
 aQ aM 169 #[ν a] w λe w'=>
  e=aT (bC #[ν (gU (-a)),ν (dR (-a))])/\w=w':=by
 have HA:=η ha;go_enter func169,ntmps169
 go_wp2_with (go_at_call 148;refine(SP 0 a _ Jr HA).mono ?_;rintro e w' ⟨rfl,rfl⟩)
 go_ret2;exact⟨rfl,rfl⟩
structure Ob where
 c:Int
 m:Int
 a:Int
 az:Int
 done:Int
 st:Int
def Ob.cells(x:Ob):List aN:= [aG aF x.c,aG aF x.m,aG aF x.a,aG aF x.az,aG aF x.done,aG aF x.st]
def Ob.val(x:Ob):aN:=bP #[aG aF x.c,aG aF x.m,aG aF x.a,aG aF x.az,aG aF x.done,aG aF x.st]
def fN(l:List Ob):List aN:=l.flatMap Ob.cells
structure Lg where
 m:Int
 a:Int
 n:Int
def Lg.cells(x:Lg):List aN:= [aG aF x.m,aG aF x.a,aG aF x.n]
def Lg.val(x:Lg):aN:=bP #[aG aF x.m,aG aF x.a,aG aF x.n]
def bB(l:List Lg):List aN:=l.flatMap Lg.cells
theorem xw {w:aJ} {B:Nat} {A:Option ai} {l:List Ob}(h:aW w B A (fN l)) {k:Nat}(hk:k<aA l):
 ∃b o,A=aC ⟨b,o,aB⟩/\b<B/\w.cell? ⟨b,o+k*6,aB⟩=aC (ν l[k].c)/\w.cell? ⟨b,o+k*6+1,aB⟩=aC (ν l[k].m)/\w.cell? ⟨b,o+k*6+2,aB⟩=aC (ν l[k].a)/\
  w.cell? ⟨b,o+k*6+3,aB⟩=aC (ν l[k].az)/\w.cell? ⟨b,o+k*6+4,aB⟩=aC (ν l[k].done)/\w.cell? ⟨b,o+k*6+5,aB⟩=aC (ν l[k].st):=by
 obtain⟨b,o,e,hb,hc⟩:=h.run (i:=k*6) (y:=ν l[k].c) (t:= [ν l[k].m,ν l[k].a,ν l[k].az,ν l[k].done,ν l[k].st]) (λj u hu=>tT Ob.cells 6 (λ_=>rfl) l k hk j u hu);exact⟨b,o,e,hb,hc 0 _ rfl,hc 1 _ rfl,hc 2 _ rfl,hc 3 _ rfl,hc 4 _ rfl,hc 5 _ rfl⟩
theorem oQ {w:aJ} {B:Nat} {A:Option ai} {l:List Lg}(h:aW w B A (bB l)) {k:Nat}(hk:k<aA l):
 ∃b o,A=aC ⟨b,o,aB⟩/\b<B/\w.cell? ⟨b,o+k*3,aB⟩=aC (ν l[k].m)/\w.cell? ⟨b,o+k*3+1,aB⟩=aC (ν l[k].a)/\w.cell? ⟨b,o+k*3+2,aB⟩=aC (ν l[k].n):=by
 obtain⟨b,o,e,hb,hc⟩:=h.run (i:=k*3) (y:=ν l[k].m) (t:= [ν l[k].a,ν l[k].n]) (λj u hu=>tT Lg.cells 3 (λ_=>rfl) l k hk j u hu);exact⟨b,o,e,hb,hc 0 _ rfl,hc 1 _ rfl,hc 2 _ rfl⟩
def gA:Int:= -9223372036854775808
def Ob.size(x:Ob):Int:=if x.az<0 then-x.az else x.az
def ew(x:Ob):Bool:=x.st==1
def yq(m a:Int)(x:Ob):Bool:=x.st==1&&x.m==m&&x.a==a
def Kn(y:Lg)(x:Lg):Bool:=x.m==y.m&&x.a==y.a
def Su(y:Lg):Bool:=y.n==0||y.n==gA
def yz(bE:List Lg)(i:Nat)(h:i<aA bE):Bool:=Su bE[i]||(bE.take i).any (Kn bE[i])
def Ep(bE:List Lg):Bool:=(dQ (aA bE)).any λi=>if h:i<(aA bE) then yz bE i h else aP
def gB(cy:Int)(y:Lg):Ob:=⟨cy,y.m,y.a,y.n,0,1⟩
def rF(cy:Int)(bE:List Lg)(L:List Ob):Int:=
 if 1024-(aA L:Int)<(aA bE) then 6 else if L.any ew then 17 else if L.any (λx=>decide (cy<=x.c)) then 7 else if Ep bE then 1 else 0
def nz(cy:Int)(bE:List Lg)(L:List Ob):List Ob:=if rF cy bE L=0 then L++bE.map (gB cy) else L
def dV(m a:Int)(L:List Ob):Nat:=L.findIdx (yq m a)
def debtE(m a n:Int)(L:List Ob):Int:=match L[dV m a L]? with
 |none=>8
 |some x=>if x.az<0 then 8 else if n<1 then 1 else 0
def j9(m a n:Int)(L:List Ob):Int:=match L[dV m a L]? with
 |none=>8
 |some x=>if x.az<0 then 8 else if n<1 then 1 else if x.az-x.done<n then 12 else 0
def lK(m a n:Int)(L:List Ob):Int:=match L[dV m a L]? with
 |none=>8
 |some x=>if x.az<0 then 8 else if n<1 then 1 else if x.done<n then 12 else 0
def wF(m a s n:Int)(L:List Ob):Int:=match L[dV m a L]? with
 |none=>8
 |some x=>if s<2\/5<s\/n<0\/x.size<n\/(s=2/\n≠x.size) then 1 else 0
def kg(m a n:Int)(L:List Ob):List Ob:=if j9 m a n L=0 then L.modify (dV m a L) (λx=> {x with done:=x.done+n}) else L
def o7(m a n:Int)(L:List Ob):List Ob:=if lK m a n L=0 then L.modify (dV m a L) (λx=> {x with done:=x.done-n}) else L
def lY(m a s n:Int)(L:List Ob):List Ob:=if wF m a s n L=0 then L.modify (dV m a L) (λx=> {x with st:=s,done:=n}) else L
structure Ob.ok(x:Ob):Prop where
 lo:gA<x.az
 hi:x.az<=9223372036854775807
 ne:x.az≠0
 d0:0<=x.done
 d1:x.done<=x.size
structure sX(L:List Ob):Prop where
 each:∀x∈L,x.ok
 once:∀j k (hj:j<aA L) (hk:k<aA L),j<k->ew L[j]=aO->ew L[k]=aO->¬(L[j].m=L[k].m/\L[j].a=L[k].a)
 len:aA L<=1024
def PT(L L':List Ob):Prop:=aA L<=aA L'/\∀k (h:k<aA L),ew L[k]=aP->L'[k]? =aC L[k]
end Go.Proofs.YtdokipdchlcmeaaGreat
