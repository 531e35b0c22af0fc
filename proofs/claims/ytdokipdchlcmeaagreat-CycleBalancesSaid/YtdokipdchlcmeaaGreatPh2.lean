/-
  Several texts in one, for one claim (printed by pack.py).
-/
import Derived.Test.YtdokipdchlcmeaaGreatPh1
import Derived.Below
import Derived.Deep.Heap
import Derived.Laws.OwnMore
import Derived.OrdersHeld
set_option linter.all false
set_option maxRecDepth 100000
set_option maxHeartbeats 12800000
open Array renaming getElem?_eq_some_iff→fX,replicate→lH,getElem?_eq_none→Iy,setIfInBounds_comm→Yh
open Bool renaming true→aO,false→aP,and_eq_true→je
open Classical renaming skolem→Yq
open Go renaming World→aJ,Value→aN,Calls→aQ,Addr→aj,cell_of_row→bH,maxLen→bM,TypeId→bY,heap_alloc_new→cO,info_parts→dJ,Ending→dU,wpList_append_own→iZ,mem_ready→Bo,ready_mono→Fe,frozen_of_row→Jy
open Go.Calls renaming grown_of→Fq,quiet_of_same→J1
open Go.Deep renaming blk_setCell_other→Nz,nblk_setCell→Yu,blk_alloc_lt→a8f
open Go.Ending renaming returned→aT
open Go.Instr renaming makeSlice→Ox
open Go.IntKind renaming i64→aF,wrap_i64→fg
open Go.Obj renaming cells→aK
open Go.Proofs renaming intOf→af
open Go.Proofs.Tryz renaming prog→aM,underlying53→mP,underlying46→yN,func213→UT,func22→UU,func227→UW,func228→UX,ntmps213→Ub,ntmps22→Uc,ntmps227→Ud,ntmps228→Ue,func194→a0c,func265→a0k,ntmps194→a0w,ntmps265→a1E,func195→aAp,func281→aAz,ntmps195→aBc
open Go.Region renaming ready→pG,binds→zU,Mode→Cw,wanted→Ji,free_spec→a0O,noSelect_spec→a0P
open Go.RowKit renaming Below→aY
open Go.RowKit.Below renaming refl→aX,heap_setCell→nK
open Go.Value renaming int→aG,slice→aH,tuple→bB,bool→bJ,agg→bQ,ownBlock→dy
open Go.World renaming cell?_of_block→gu,ownsRow→kB,setCell→Ee
open Int renaming le_refl→dM,le_trans→jz,eq_ofNat_of_zero_le→a0B
open List renaming length→aA,getElem_mem→cH,length_append→cN,take_length→cT,range→dR,map_append→dZ,mem_map→df,mem_cons→fE,take_succ_eq_append_getElem→fF,replicate→gR,zipWith→kR,mem_range→nP,mem_iff_getElem→tB,length_singleton→uM,getElem_map→wk,length_replicate→Cs,map_congr_left→Je,ext_getElem→Lc
open Nat renaming le_refl→aa,zero_le→bK,le_trans→bz,lt_or_ge→rW,mul_le_mul→vG,div_lt_iff_lt_mul→GZ,mod_lt→Jf
open Option renaming none→aB,some→aC,getD_some→P7,map_some→aAJ
open Or renaming inl→aS,inr→aU
namespace Go.Proofs.YtdokipdchlcmeaaGreat
open Go.Proofs.Tryz Go.RowKit
section
open Go.Lib Go.Sort Go.Shelf Go.Proofs.YtdokipdchlcmeaaGreat.pH
def Ln(w0:aJ)(blk off n:Nat)(k:Int->Int)(ok:Int->Prop)(d:Array Int)(a b:Nat):dU->aJ->Prop:=λe w'=>e=aT (bB #[])/\∃d':Array Int,cZ (fn d) (fn d') a b/\cJ k (fn d') a b/\Rw w0 blk off n ok d' w'
theorem cJ.o {k:Int->Int} {f g:Nat->Int} {a b:Nat}(h:cJ k f a b)(e:∀p,a<=p->p<b->g p=f p):cJ k g a b:=λi j h1 h2 h3=>by rw [e i h1 (by omega),e j (by omega) h3];exact h i j h1 h2 h3
theorem sS.o {f g:Nat->Int} {a m b:Nat}(h:sS f a m b)(e:∀p,a<=p->p<b->g p=f p):sS g a m b:=λi j h1 h2 h3 h4=>by rw [e i h1 (by omega),e j (by omega) h4];exact h i j h1 h2 h3 h4
theorem aLD {w0:aJ} {blk off n:Nat} {g:Nat} {cb:Array aN} {cf:Int->Int->Int} {k:Int->Int} {ok:Int->Prop} {d0:Array Int}(T0:tD w0 blk off n g cb cf k ok d0)(cap a m b:Nat)(d:Array Int)(w:aJ)(h:Rw w0 blk off n ok d w)(h1:a<m)(h2:m<b)(h3:b<=n)(hs1:cJ k (fn d) a m)(hs2:cJ k (fn d) m b)(hx:sS (fn d) a m b)(hA:m=a+1):
 aQ aM 265 #[aH (aC ⟨blk,off,aB⟩) n cap,aG aF (a:Nat),aG aF (m:Nat),aG aF (b:Nat),.func (.func g) #[] cb] w (Ln w0 blk off n k ok d a b):=by
 have eg:=T0.enters;have hn:=T0.lt;have mixed:aM.follows .mixedOrders=aO:=by kernel_rfl
 have T:=η T0;have HH:=η h;have cX:=η hs1;have cM:=η hs2;have HX:=η hx;clear T0 h hs1 hs2 hx;have w1:aF.wrap ((m:Int)-(a:Int))=1:=by rw [fg];omega
 have HA:=η hA;have MR:m<=a+1:=by omega
 clear hA;go_enter a0k,a1E
 go_wp2_with fail
 go_loopg [10,11] (b-m) (λkx s t wr=>∃(i j:Nat),s=aG aF i/\t=aG aF j/\m<=i/\i<=j/\j<=b/\j-i<=kx/\Hid (Rw w0 blk off n ok d wr)/\Hid ((∀p,m<=p->p<i->L k (fn d p) (fn d a))/\∀p,j<=p->p<b->L k (fn d a) (fn d p)))
 case atStart=>exact⟨m,b,rfl,rfl,aa _,by omega,aa _,aa _,HH,λp _ _=>by omega,λp _ _=>by omega⟩
 case round=>
  clear HH;obtain⟨i,j,rfl,rfl,I9,qy,hjb,mA,S1,HP⟩:=hrel;by_cases hlt:i<j
  ·have ng:(i:Int)<(j:Int):=by omega
   obtain⟨c,hc0⟩:∃q,q=(i+j)/2:=⟨_,rfl⟩;have hcz:((i:Int)+(j:Int))/2=(c:Int):=by omega
   have Mh:i<=c:=by omega
   have QQ:c<j:=by omega
   clear hc0;by_cases hlv:k (fn d c)<k (fn d a)
   ·have mj:Hid ((∀p,m<=p->p<c+1->L k (fn d p) (fn d a))/\∀p,j<=p->p<b->L k (fn d a) (fn d p)):=by
     refine⟨λp q1 q2=> ?_,HP.o.2⟩;by_cases e:p=c
     ·rw [e];exact aS hlv
     exact(cM.o p c q1 (by omega) (by omega)).trans (aS hlv)
    have lQ:=η hlv;clear HP hlv;go_wp2_with fail
    obtain⟨iN,fH⟩:∃z9,z9=c:=⟨_,rfl⟩;obtain⟨jN,fJ⟩:∃z9,z9=a:=⟨_,rfl⟩;have ea:((c:Int)).toNat=iN:=by omega
    have pa:(0:Int)<=(c:Int):=by omega
    have ba:(c:Int)<(n:Int):=by omega
    have ra:aF.wrap ((c:Int))=(c:Int):=by rw [fg];omega
    have ec:((a:Int)).toNat=jN:=by omega
    have pc:(0:Int)<=(a:Int):=by omega
    have bc:(a:Int)<(n:Int):=by omega
    have rc:aF.wrap ((a:Int))=(a:Int):=by rw [fg];omega
    obtain⟨x,hx⟩:∃x,x=fn d (c):=⟨_,rfl⟩;obtain⟨y,hy⟩:∃x,x=fn d (a):=⟨_,rfl⟩;have la:=S1.o.cl T.o (c) (by omega);have lb:=S1.o.cl T.o (a) (by omega);rw [<-hx,<-fH] at la;rw [<-hy,<-fJ] at lb;have hc:=S1.o.cmp T.o (c) (a) (by omega) (by omega);rw [<-hx,<-hy] at hc;have hv:cf x y<0:=by rw [hx,hy];exact(T.o.neg _ _ (S1.o.ok _ (by omega)) (S1.o.ok _ (by omega))).2 lQ.o
    have hd:decide (cf x y<0)=aO:=decide_eq_true hv;clear hx hy fH fJ;go_wp2_with fail
    go_quiet_grown (first|(go_at_fn g;refine Fq (hc _ _)))
    have S2:=η (S1.o.grown nq osq);clear la lb hc S1;generalize grow (wr.drewN nq) osq=w2 at S2 ⊢;clear nq osq ea ec pa pc ba bc ra rc hv hd;go_wp2
    go_roundg (j-(c+1))
    case measure=>omega
    case rel=>exact⟨c+1,j,by go_num,rfl,by omega,by omega,hjb,aa _,S2,mj⟩
   have mj:Hid ((∀p,m<=p->p<i->L k (fn d p) (fn d a))/\∀p,c<=p->p<b->L k (fn d a) (fn d p)):=by
    refine⟨HP.o.1,λp q1 q2=> ?_⟩;have hl:L k (fn d a) (fn d c):=L.of_le hlv (HX.o a c (aa _) (by omega) (by omega) (by omega));by_cases e:p=c
    ·rw [e];exact hl
    exact hl.trans (cM.o c p (by omega) (by omega) q2)
   have lQ:=η hlv;clear HP hlv;go_wp2_with fail
   obtain⟨iN,fH⟩:∃z9,z9=c:=⟨_,rfl⟩;obtain⟨jN,fJ⟩:∃z9,z9=a:=⟨_,rfl⟩;have ea:((c:Int)).toNat=iN:=by omega
   have pa:(0:Int)<=(c:Int):=by omega
   have ba:(c:Int)<(n:Int):=by omega
   have ra:aF.wrap ((c:Int))=(c:Int):=by rw [fg];omega
   have ec:((a:Int)).toNat=jN:=by omega
   have pc:(0:Int)<=(a:Int):=by omega
   have bc:(a:Int)<(n:Int):=by omega
   have rc:aF.wrap ((a:Int))=(a:Int):=by rw [fg];omega
   obtain⟨x,hx⟩:∃x,x=fn d (c):=⟨_,rfl⟩;obtain⟨y,hy⟩:∃x,x=fn d (a):=⟨_,rfl⟩;have la:=S1.o.cl T.o (c) (by omega);have lb:=S1.o.cl T.o (a) (by omega);rw [<-hx,<-fH] at la;rw [<-hy,<-fJ] at lb;have hc:=S1.o.cmp T.o (c) (a) (by omega) (by omega);rw [<-hx,<-hy] at hc;have hv:¬cf x y<0:=by intro h9;rw [hx,hy] at h9;have h8:=(T.o.neg _ _ (S1.o.ok _ (by omega)) (S1.o.ok _ (by omega))).1 h9;have h7:=lQ.o;omega
   have hd:decide (cf x y<0)=aP:=decide_eq_false hv;clear hx hy fH fJ;go_wp2_with fail
   go_quiet_grown (first|(go_at_fn g;refine Fq (hc _ _)))
   have S2:=η (S1.o.grown nq osq);clear la lb hc S1;generalize grow (wr.drewN nq) osq=w2 at S2 ⊢;clear nq osq ea ec pa pc ba bc ra rc hv hd;go_wp2
   go_roundg (c-i)
   case measure=>omega
   case rel=>exact⟨i,c,rfl,rfl,I9,by omega,by omega,aa _,S2,mj⟩
  have ng:¬(i:Int)<(j:Int):=by omega
  have e:i=j:=by omega
  subst e;have HL:=η (aIf (k:=k) (f:=fn d) (a:=a) (b:=b) (i:=i) (HA.o▸cM.o) (by omega) (by omega) (λp q1 q2=>HP.o.1 p (by omega) q2) (λp q1 q2=>HP.o.2 p q1 q2));have wi:aF.wrap ((i:Int)-1)=(i:Int)-1:=by rw [fg];omega
  clear HP;go_wp2_with fail
  go_loopg [13] i (λkx s wr=>∃(q:Nat) (dk:Array Int),s=aG aF q/\a<=q/\q+1<=i/\i-q<=kx/\Hid (Rw w0 blk off n ok dk wr)/\Hid (fn dk=dH (fn d) a (a+1) (q+1)))
  case atStart=>exact⟨a,d,rfl,aa _,by omega,by omega,S1,(wB (fn d) (a:=a) (m:=a+1) (b:=a+1) (aU rfl)).symm⟩
  case round=>
   clear S1;obtain⟨q,dk,rfl,haq,hqi,mA,S1,HF⟩:=hrel;by_cases hlt:q+1<i
   ·have ng:(q:Int)<(i:Int)-1:=by omega
    have cK:Hid (fn (swp dk q (q+1))=dH (fn d) a (a+1) (q+1+1)):=by show _=_;rw [MM dk (by rw [S1.o.size];omega) (by rw [S1.o.size];omega),HF.o];exact aKC (fn d) (i:=q+1) (by omega)
    clear HF;go_wp2_with fail
    obtain⟨iN,fH⟩:∃z9,z9=q:=⟨_,rfl⟩;obtain⟨jN,fJ⟩:∃z9,z9=q+1:=⟨_,rfl⟩;have ea:((q:Int)).toNat=iN:=by omega
    have pa:(0:Int)<=(q:Int):=by omega
    have ba:(q:Int)<(n:Int):=by omega
    have ra:aF.wrap ((q:Int))=(q:Int):=by rw [fg];omega
    have ec:((q:Int)+1).toNat=jN:=by omega
    have pc:(0:Int)<=(q:Int)+1:=by omega
    have bc:(q:Int)+1<(n:Int):=by omega
    have rc:aF.wrap ((q:Int)+1)=(q:Int)+1:=by rw [fg];omega
    obtain⟨x,hx⟩:∃x,x=fn dk (q):=⟨_,rfl⟩;obtain⟨y,hy⟩:∃x,x=fn dk (q+1):=⟨_,rfl⟩;have S3:Hid (Rw w0 blk off n ok (swp dk (q) (q+1)) ((wr.setCell ⟨blk,off+iN,aB⟩ (aG aF y)).setCell ⟨blk,off+jN,aB⟩ (aG aF x)).drew):=by rw [fH,fJ,hx,hy];exact S1.o.swapped T.o (q) (q+1) (by omega) (by omega)
    have ca:=S1.o.c T.o (q) (by omega);have cb:=S1.o.c T.o (q+1) (by omega);have fa:=S1.o.f T.o (q) (by omega);have fb:=S1.o.f T.o (q+1) (by omega);obtain⟨u,cc⟩:=S1.o.c2 T.o (q) (q+1) (by omega) (by omega) (aG aF y);rw [<-fJ,<-fH] at cc;rw [<-hx,<-fH] at ca;rw [<-hy,<-fJ] at cb;rw [<-fH] at fa;rw [<-fJ] at fb;clear S1 hx hy fH fJ;go_wp2_with fail
    go_big_region
    clear ca cb cc fa fb;generalize ((wr.setCell ⟨blk,off+iN,aB⟩ (aG aF y)).setCell ⟨blk,off+jN,aB⟩ (aG aF x)).drew=w3 at S3 ⊢;clear ea ec pa pc ba bc ra rc;go_wp2
    go_roundg (i-(q+1))
    case measure=>omega
    case rel=>exact⟨q+1,swp dk q (q+1),by go_num,by omega,by omega,aa _,S3,cK⟩
   have ng:¬(q:Int)<(i:Int)-1:=by omega
   have e:q+1=i:=by omega
   go_wp2_with fail
   go_end0
   refine⟨rfl,dk, ?_, ?_,S1.o⟩
   ·rw [HF.o,e];exact HL.o.2
   rw [HF.o,e];exact HL.o.1
theorem aLE {w0:aJ} {blk off n:Nat} {g:Nat} {cb:Array aN} {cf:Int->Int->Int} {k:Int->Int} {ok:Int->Prop} {d0:Array Int}(T0:tD w0 blk off n g cb cf k ok d0)(cap a m b:Nat)(d:Array Int)(w:aJ)(h:Rw w0 blk off n ok d w)(h1:a<m)(h2:m<b)(h3:b<=n)(hs1:cJ k (fn d) a m)(hs2:cJ k (fn d) m b)(hx:sS (fn d) a m b)(hA:m≠a+1)(hB:b=m+1):
 aQ aM 265 #[aH (aC ⟨blk,off,aB⟩) n cap,aG aF (a:Nat),aG aF (m:Nat),aG aF (b:Nat),.func (.func g) #[] cb] w (Ln w0 blk off n k ok d a b):=by
 have eg:=T0.enters;have hn:=T0.lt;have mixed:aM.follows .mixedOrders=aO:=by kernel_rfl
 have T:=η T0;have HH:=η h;have cX:=η hs1;have cM:=η hs2;have HX:=η hx;clear T0 h hs1 hs2 hx;have w1:aF.wrap ((m:Int)-(a:Int))=(m:Int)-(a:Int):=by rw [fg];omega
 have n1:((m:Int)-(a:Int)==1)=aP:=by rw [beq_eq_false_iff_ne];omega
 have w2:aF.wrap ((b:Int)-(m:Int))=1:=by rw [fg];omega
 have HB:=η hB;have Va:b<=m+1:=by omega
 clear hB;go_enter a0k,a1E
 go_wp2_with fail
 go_loopg [14,15] (m-a) (λkx s t wr=>∃(i j:Nat),s=aG aF i/\t=aG aF j/\a<=i/\i<=j/\j<=m/\j-i<=kx/\Hid (Rw w0 blk off n ok d wr)/\Hid ((∀p,a<=p->p<i->L k (fn d p) (fn d m))/\∀p,j<=p->p<m->L k (fn d m) (fn d p)))
 case atStart=>exact⟨a,m,rfl,rfl,aa _,by omega,aa _,aa _,HH,λp _ _=>by omega,λp _ _=>by omega⟩
 case round=>
  clear HH;obtain⟨i,j,rfl,rfl,hai,qy,hjm,mA,S1,HP⟩:=hrel;by_cases hlt:i<j
  ·have ng:(i:Int)<(j:Int):=by omega
   obtain⟨c,hc0⟩:∃q,q=(i+j)/2:=⟨_,rfl⟩;have hcz:((i:Int)+(j:Int))/2=(c:Int):=by omega
   have Mh:i<=c:=by omega
   have QQ:c<j:=by omega
   clear hc0;by_cases hlv:k (fn d m)<k (fn d c)
   ·have mj:Hid ((∀p,a<=p->p<i->L k (fn d p) (fn d m))/\∀p,c<=p->p<m->L k (fn d m) (fn d p)):=by
     refine⟨HP.o.1,λp q1 q2=> ?_⟩;by_cases e:p=c
     ·rw [e];exact aS hlv
     exact L.trans (aS hlv) (cX.o c p (by omega) (by omega) q2)
    have lQ:=η hlv;clear HP hlv;go_wp2_with fail
    obtain⟨iN,fH⟩:∃z9,z9=m:=⟨_,rfl⟩;obtain⟨jN,fJ⟩:∃z9,z9=c:=⟨_,rfl⟩;have ea:((m:Int)).toNat=iN:=by omega
    have pa:(0:Int)<=(m:Int):=by omega
    have ba:(m:Int)<(n:Int):=by omega
    have ra:aF.wrap ((m:Int))=(m:Int):=by rw [fg];omega
    have ec:((c:Int)).toNat=jN:=by omega
    have pc:(0:Int)<=(c:Int):=by omega
    have bc:(c:Int)<(n:Int):=by omega
    have rc:aF.wrap ((c:Int))=(c:Int):=by rw [fg];omega
    obtain⟨x,hx⟩:∃x,x=fn d (m):=⟨_,rfl⟩;obtain⟨y,hy⟩:∃x,x=fn d (c):=⟨_,rfl⟩;have la:=S1.o.cl T.o (m) (by omega);have lb:=S1.o.cl T.o (c) (by omega);rw [<-hx,<-fH] at la;rw [<-hy,<-fJ] at lb;have hc:=S1.o.cmp T.o (m) (c) (by omega) (by omega);rw [<-hx,<-hy] at hc;have hv:cf x y<0:=by rw [hx,hy];exact(T.o.neg _ _ (S1.o.ok _ (by omega)) (S1.o.ok _ (by omega))).2 lQ.o
    have hd:decide (cf x y<0)=aO:=decide_eq_true hv;clear hx hy fH fJ;go_wp2_with fail
    go_quiet_grown (first|(go_at_fn g;refine Fq (hc _ _)))
    have S2:=η (S1.o.grown nq osq);clear la lb hc S1;generalize grow (wr.drewN nq) osq=w2 at S2 ⊢;clear nq osq ea ec pa pc ba bc ra rc hv hd;go_wp2
    go_roundg (c-i)
    case measure=>omega
    case rel=>exact⟨i,c,rfl,rfl,hai,by omega,by omega,aa _,S2,mj⟩
   have mj:Hid ((∀p,a<=p->p<c+1->L k (fn d p) (fn d m))/\∀p,j<=p->p<m->L k (fn d m) (fn d p)):=by
    refine⟨λp q1 q2=> ?_,HP.o.2⟩;have hl:L k (fn d c) (fn d m):=L.of_le hlv (HX.o c m (by omega) (by omega) (aa _) (by omega));by_cases e:p=c
    ·rw [e];exact hl
    exact(cX.o p c q1 (by omega) (by omega)).trans hl
   have lQ:=η hlv;clear HP hlv;go_wp2_with fail
   obtain⟨iN,fH⟩:∃z9,z9=m:=⟨_,rfl⟩;obtain⟨jN,fJ⟩:∃z9,z9=c:=⟨_,rfl⟩;have ea:((m:Int)).toNat=iN:=by omega
   have pa:(0:Int)<=(m:Int):=by omega
   have ba:(m:Int)<(n:Int):=by omega
   have ra:aF.wrap ((m:Int))=(m:Int):=by rw [fg];omega
   have ec:((c:Int)).toNat=jN:=by omega
   have pc:(0:Int)<=(c:Int):=by omega
   have bc:(c:Int)<(n:Int):=by omega
   have rc:aF.wrap ((c:Int))=(c:Int):=by rw [fg];omega
   obtain⟨x,hx⟩:∃x,x=fn d (m):=⟨_,rfl⟩;obtain⟨y,hy⟩:∃x,x=fn d (c):=⟨_,rfl⟩;have la:=S1.o.cl T.o (m) (by omega);have lb:=S1.o.cl T.o (c) (by omega);rw [<-hx,<-fH] at la;rw [<-hy,<-fJ] at lb;have hc:=S1.o.cmp T.o (m) (c) (by omega) (by omega);rw [<-hx,<-hy] at hc;have hv:¬cf x y<0:=by intro h9;rw [hx,hy] at h9;have h8:=(T.o.neg _ _ (S1.o.ok _ (by omega)) (S1.o.ok _ (by omega))).1 h9;have h7:=lQ.o;omega
   have hd:decide (cf x y<0)=aP:=decide_eq_false hv;clear hx hy fH fJ;go_wp2_with fail
   go_quiet_grown (first|(go_at_fn g;refine Fq (hc _ _)))
   have S2:=η (S1.o.grown nq osq);clear la lb hc S1;generalize grow (wr.drewN nq) osq=w2 at S2 ⊢;clear nq osq ea ec pa pc ba bc ra rc hv hd;go_wp2
   go_roundg (j-(c+1))
   case measure=>omega
   case rel=>exact⟨c+1,j,by go_num,rfl,by omega,by omega,hjm,aa _,S2,mj⟩
  have ng:¬(i:Int)<(j:Int):=by omega
  have e:i=j:=by omega
  subst e;have HL:=η (aIe (k:=k) (f:=fn d) (a:=a) (m:=m) (i:=i) cX.o hai (by omega) HP.o.1 HP.o.2);clear HP;go_wp2_with fail
  go_loopg [17] m (λkx s wr=>∃(q:Nat) (dk:Array Int),s=aG aF q/\i<=q/\q<=m/\q<=kx/\Hid (Rw w0 blk off n ok dk wr)/\Hid (fn dk=dH (fn d) q m (m+1)))
  case atStart=>exact⟨m,d,rfl,by omega,aa _,aa _,S1,(wB (fn d) (a:=m) (m:=m) (b:=m+1) (aS rfl)).symm⟩
  case round=>
   clear S1;obtain⟨q,dk,rfl,hiq,hqm,mA,S1,HF⟩:=hrel;by_cases hlt:i<q
   ·have ng:(i:Int)<(q:Int):=by omega
    obtain⟨jp,hjp⟩:∃t,t+1=q:=⟨q-1,by omega⟩;have zjp:(q:Int)=(jp:Int)+1:=by omega
    have aMr:(i:Int)<(jp:Int)+1:=by omega
    have cK:Hid (fn (swp dk q (q-1))=dH (fn d) (q-1) m (m+1)):=by show _=_;rw [MM dk (by rw [S1.o.size];omega) (by rw [S1.o.size];omega),HF.o,<-hjp];exact aK8 (fn d) (i:=jp) (by omega)
    clear HF;go_wp2_with fail
    obtain⟨iN,fH⟩:∃z9,z9=q:=⟨_,rfl⟩;obtain⟨jN,fJ⟩:∃z9,z9=q-1:=⟨_,rfl⟩;have ea:((jp:Int)+1).toNat=iN:=by omega
    have pa:(0:Int)<=(jp:Int)+1:=by omega
    have ba:(jp:Int)+1<(n:Int):=by omega
    have ra:aF.wrap ((jp:Int)+1)=(jp:Int)+1:=by rw [fg];omega
    have ec:((jp:Int)).toNat=jN:=by omega
    have pc:(0:Int)<=(jp:Int):=by omega
    have bc:(jp:Int)<(n:Int):=by omega
    have rc:aF.wrap ((jp:Int))=(jp:Int):=by rw [fg];omega
    obtain⟨x,hx⟩:∃x,x=fn dk (q):=⟨_,rfl⟩;obtain⟨y,hy⟩:∃x,x=fn dk (q-1):=⟨_,rfl⟩;have S3:Hid (Rw w0 blk off n ok (swp dk (q) (q-1)) ((wr.setCell ⟨blk,off+iN,aB⟩ (aG aF y)).setCell ⟨blk,off+jN,aB⟩ (aG aF x)).drew):=by rw [fH,fJ,hx,hy];exact S1.o.swapped T.o (q) (q-1) (by omega) (by omega)
    have ca:=S1.o.c T.o (q) (by omega);have cb:=S1.o.c T.o (q-1) (by omega);have fa:=S1.o.f T.o (q) (by omega);have fb:=S1.o.f T.o (q-1) (by omega);obtain⟨u,cc⟩:=S1.o.c2 T.o (q) (q-1) (by omega) (by omega) (aG aF y);rw [<-fJ,<-fH] at cc;rw [<-hx,<-fH] at ca;rw [<-hy,<-fJ] at cb;rw [<-fH] at fa;rw [<-fJ] at fb;clear S1 hx hy fH fJ;go_wp2_with fail
    go_big_region
    clear ca cb cc fa fb;generalize ((wr.setCell ⟨blk,off+iN,aB⟩ (aG aF y)).setCell ⟨blk,off+jN,aB⟩ (aG aF x)).drew=w3 at S3 ⊢;clear ea ec pa pc ba bc ra rc;go_wp2
    go_roundg (q-1)
    case measure=>omega
    case rel=>exact⟨q-1,swp dk q (q-1),by first|rfl|go_num|(congr 1;omega),by omega,by omega,aa _,S3,cK⟩
   have ng:¬(i:Int)<(q:Int):=by omega
   have e:q=i:=by omega
   go_wp2_with fail
   go_end0
   refine⟨rfl,dk, ?_, ?_,S1.o⟩
   ·rw [HF.o,e,HB.o];exact HL.o.2
   rw [HF.o,e,HB.o];exact HL.o.1
end
section
open Go.Lib Go.Sort Go.Shelf Go.Proofs.YtdokipdchlcmeaaGreat.pH
theorem aLF {w0:aJ} {blk off n:Nat} {g:Nat} {cb:Array aN} {cf:Int->Int->Int} {k:Int->Int} {ok:Int->Prop} {d0:Array Int}(T0:tD w0 blk off n g cb cf k ok d0)(cap a m b:Nat)(d:Array Int)(w:aJ)(h:Rw w0 blk off n ok d w)(h1:a<m)(h2:m<b)(h3:b<=n)(hs1:cJ k (fn d) a m)(hs2:cJ k (fn d) m b)(hx:sS (fn d) a m b)(_:m≠a+1)(hB:b≠m+1)(mid:Nat)(Wb:mid=(a+b)/2)
 (ih:∀(a' m' b':Nat) (d':Array Int) (w':aJ),b'-a'<b-a->a'<m'->m'<b'->b'<=n->Rw w0 blk off n ok d' w'->cJ k (fn d') a' m'->cJ k (fn d') m' b'->sS (fn d') a' m' b'->aQ aM 265 #[aH (aC ⟨blk,off,aB⟩) n cap,aG aF (a':Nat),aG aF (m':Nat),aG aF (b':Nat),.func (.func g) #[] cb] w' (Ln w0 blk off n k ok d' a' b')):
 aQ aM 265 #[aH (aC ⟨blk,off,aB⟩) n cap,aG aF (a:Nat),aG aF (m:Nat),aG aF (b:Nat),.func (.func g) #[] cb] w (Ln w0 blk off n k ok d a b):=by
 obtain⟨lo,hi,HC⟩:∃lo hi:Nat,((mid:Int)<(m:Int)/\lo=mid+m-b/\hi=mid)\/(¬(mid:Int)<(m:Int)/\lo=a/\hi=m):=by
  by_cases q:(mid:Int)<(m:Int)
  ·exact⟨_,_,aS ⟨q,rfl,rfl⟩⟩
  exact⟨_,_,aU ⟨q,rfl,rfl⟩⟩
 have eg:=T0.enters;have hn:=T0.lt;have mixed:aM.follows .mixedOrders=aO:=by kernel_rfl
 have T:=η T0;have HH:=η h;have cX:=η hs1;have cM:=η hs2;have HX:=η hx;clear T0 h hs1 hs2 hx;have IH:=η ih;clear ih;have w1:aF.wrap ((m:Int)-(a:Int))=(m:Int)-(a:Int):=by rw [fg];omega
 have n1:((m:Int)-(a:Int)==1)=aP:=by rw [beq_eq_false_iff_ne];omega
 have w2:aF.wrap ((b:Int)-(m:Int))=(b:Int)-(m:Int):=by rw [fg];omega
 have n2:((b:Int)-(m:Int)==1)=aP:=by rw [beq_eq_false_iff_ne];omega
 have hmz:((a:Int)+(b:Int))/2=(mid:Int):=by omega
 have s6:a+b<=2*mid+1:=by omega
 have vZ:2*mid<=a+b:=by omega
 clear Wb;rcases HC with⟨mR,nZ,Dc⟩|⟨mR,nZ,Dc⟩
 all_goals
  go_enter a0k,a1E
  go_wp2_with fail
  go_loopg [20,21] (b-a) (λkx s t wr=>∃(i j:Nat),s=aG aF i/\t=aG aF j/\lo<=i/\i<=j/\j<=hi/\j-i<=kx/\Hid (Rw w0 blk off n ok d wr)/\Hid (vK k (fn d) (mid+m) lo hi i j))
  case atStart=>exact⟨lo,hi,by congr 1;omega,by congr 1;omega,aa _,by omega,aa _,by omega,HH,vK.start _ _ (by omega)⟩
  case round=>
   clear HH;obtain⟨s,r,rfl,rfl,hs0,hsr,IG,mA,S1,HP⟩:=hrel;by_cases hlt:s<r
   ·have ng:(s:Int)<(r:Int):=by omega
    obtain⟨c,hc0⟩:∃q,q=(s+r)/2:=⟨_,rfl⟩;have hcz:((s:Int)+(r:Int))/2=(c:Int):=by omega
    have Mh:s<=c:=by omega
    have QQ:c<r:=by omega
    clear hc0;obtain⟨nG,Qi⟩:∃z9,z9=mid+m-1-c:=⟨_,rfl⟩;have hpz:(mid:Int)+(m:Int)-1-(c:Int)=(nG:Int):=by omega
    have mU:nG<b:=by omega
    have jZ:m<=nG:=by omega
    by_cases hlv:k (fn d nG)<k (fn d c)
    ·have mj:=η (HP.o.left Mh QQ (Qi▸ aS hlv));clear Qi;have lQ:=η hlv;clear HP hlv;go_wp2_with fail
     obtain⟨iN,fH⟩:∃z9,z9=nG:=⟨_,rfl⟩;obtain⟨jN,fJ⟩:∃z9,z9=c:=⟨_,rfl⟩;have ea:((nG:Int)).toNat=iN:=by omega
     have pa:(0:Int)<=(nG:Int):=by omega
     have ba:(nG:Int)<(n:Int):=by omega
     have ra:aF.wrap ((nG:Int))=(nG:Int):=by rw [fg];omega
     have ec:((c:Int)).toNat=jN:=by omega
     have pc:(0:Int)<=(c:Int):=by omega
     have bc:(c:Int)<(n:Int):=by omega
     have rc:aF.wrap ((c:Int))=(c:Int):=by rw [fg];omega
     obtain⟨x,hx⟩:∃x,x=fn d (nG):=⟨_,rfl⟩;obtain⟨y,hy⟩:∃x,x=fn d (c):=⟨_,rfl⟩;have la:=S1.o.cl T.o (nG) (by omega);have lb:=S1.o.cl T.o (c) (by omega);rw [<-hx,<-fH] at la;rw [<-hy,<-fJ] at lb;have hc:=S1.o.cmp T.o (nG) (c) (by omega) (by omega);rw [<-hx,<-hy] at hc;have hv:cf x y<0:=by rw [hx,hy];exact(T.o.neg _ _ (S1.o.ok _ (by omega)) (S1.o.ok _ (by omega))).2 lQ.o
     have hd:decide (cf x y<0)=aO:=decide_eq_true hv;clear hx hy fH fJ;go_wp2_with fail
     go_quiet_grown (first|(go_at_fn g;refine Fq (hc _ _)))
     have S2:=η (S1.o.grown nq osq);clear la lb hc S1;generalize grow (wr.drewN nq) osq=w2 at S2 ⊢;clear nq osq ea ec pa pc ba bc ra rc hv hd;go_wp2
     go_roundg (c-s)
     case measure=>omega
     case rel=>exact⟨s,c,rfl,rfl,hs0,by omega,by omega,aa _,S2,mj⟩
    have mj:=η (HP.o.right Mh QQ (Qi▸L.of_le hlv (HX.o c nG (by omega) (by omega) (by omega) (by omega))));clear Qi;have lQ:=η hlv;clear HP hlv;go_wp2_with fail
    obtain⟨iN,fH⟩:∃z9,z9=nG:=⟨_,rfl⟩;obtain⟨jN,fJ⟩:∃z9,z9=c:=⟨_,rfl⟩;have ea:((nG:Int)).toNat=iN:=by omega
    have pa:(0:Int)<=(nG:Int):=by omega
    have ba:(nG:Int)<(n:Int):=by omega
    have ra:aF.wrap ((nG:Int))=(nG:Int):=by rw [fg];omega
    have ec:((c:Int)).toNat=jN:=by omega
    have pc:(0:Int)<=(c:Int):=by omega
    have bc:(c:Int)<(n:Int):=by omega
    have rc:aF.wrap ((c:Int))=(c:Int):=by rw [fg];omega
    obtain⟨x,hx⟩:∃x,x=fn d (nG):=⟨_,rfl⟩;obtain⟨y,hy⟩:∃x,x=fn d (c):=⟨_,rfl⟩;have la:=S1.o.cl T.o (nG) (by omega);have lb:=S1.o.cl T.o (c) (by omega);rw [<-hx,<-fH] at la;rw [<-hy,<-fJ] at lb;have hc:=S1.o.cmp T.o (nG) (c) (by omega) (by omega);rw [<-hx,<-hy] at hc;have hv:¬cf x y<0:=by intro h9;rw [hx,hy] at h9;have h8:=(T.o.neg _ _ (S1.o.ok _ (by omega)) (S1.o.ok _ (by omega))).1 h9;have h7:=lQ.o;omega
    have hd:decide (cf x y<0)=aP:=decide_eq_false hv;clear hx hy fH fJ;go_wp2_with fail
    go_quiet_grown (first|(go_at_fn g;refine Fq (hc _ _)))
    have S2:=η (S1.o.grown nq osq);clear la lb hc S1;generalize grow (wr.drewN nq) osq=w2 at S2 ⊢;clear nq osq ea ec pa pc ba bc ra rc hv hd;go_wp2
    go_roundg (r-(c+1))
    case measure=>omega
    case rel=>exact⟨c+1,r,by go_num,rfl,by omega,by omega,IG,aa _,S2,mj⟩
   have ng:¬(s:Int)<(r:Int):=by omega
   have jB:Hid (Cut k (fn d) a m b mid s):=by
    subst nZ Dc
    first
     |exact HP.o.aEY hlt (by omega) (by omega) (by omega)
     |exact HP.o.aEZ hlt (by omega) (by omega)
   clear HP;obtain⟨en,hen⟩:∃q,q=mid+m-s:=⟨_,rfl⟩;have hez:(mid:Int)+(m:Int)-(s:Int)=(en:Int):=by omega
   have iw:=η hen;have Vx:en+s<=mid+m:=by omega
   have Vy:mid+m<=en+s:=by omega
   clear hen;by_cases q1:s<m
   ·have f1:(s:Int)<(m:Int):=by omega
    have f5:(mid:Int)<(en:Int):=by omega
    by_cases q2:s<mid
    ·have f2:(s:Int)<(mid:Int):=by omega
     have f6:(m:Int)<(en:Int):=by omega
     by_cases q3:a<s
     ·have f3:(a:Int)<(s:Int):=by omega
      by_cases q4:en<b
      ·have f4:(en:Int)<(b:Int):=by omega
       have HR:=η (Rs S1.o T.o (.func (.func g) #[] cb) cap s m en (by omega) (by omega) (by omega));go_wp2_with fail
       refine HR.o.mono ?_;rintro e w2 ⟨rfl,d2,hf2,R2⟩;have cK:=η hf2;have S2:=η R2;clear hf2 R2 HR;have cQ:=η (jB.o.halves cX.o cM.o HX.o);rw [<-iw.o,<-cK.o] at cQ;have HI:=η (IH.o a s mid d2 w2 (by omega) (by omega) (by omega) (by omega) S2.o cQ.o.1 cQ.o.2.1 cQ.o.2.2.1);go_wp2_with fail
       refine HI.o.mono ?_;rintro e w3 ⟨rfl,d3,AQ,s3,R3⟩;have dx:=η AQ;have jU:=η s3;have S3:=η R3;clear AQ s3 R3 HI;have fZ:=η (IH.o mid en b d3 w3 (by omega) (by omega) (by omega) (by omega) S3.o (cJ.o cQ.o.2.2.2.1 λp q1 q2=>dx.o.o p (aU q1)) (cJ.o cQ.o.2.2.2.2.1 λp q1 q2=>dx.o.o p (aU (by omega))) (sS.o cQ.o.2.2.2.2.2 λp q1 q2=>dx.o.o p (aU q1)));go_wp2_with fail
       refine fZ.o.mono ?_;rintro e w4 ⟨rfl,d4,AR,s4,R4⟩;have jT:=η AR;have jV:=η s4;have S4:=η R4;clear AR s4 R4 fZ;have HL:=η (jB.o.law cX.o cM.o (by rw [<-iw.o];exact cK.o) dx.o jU.o jT.o jV.o (by omega) (by omega));go_wp2_with fail
       all_goals go_end0
       all_goals exact⟨rfl,d4,HL.o.2,HL.o.1,S4.o⟩
      have f4:¬(en:Int)<(b:Int):=by omega
      have HR:=η (Rs S1.o T.o (.func (.func g) #[] cb) cap s m en (by omega) (by omega) (by omega));go_wp2_with fail
      refine HR.o.mono ?_;rintro e w2 ⟨rfl,d2,hf2,R2⟩;have cK:=η hf2;have S2:=η R2;clear hf2 R2 HR;have cQ:=η (jB.o.halves cX.o cM.o HX.o);rw [<-iw.o,<-cK.o] at cQ;have HI:=η (IH.o a s mid d2 w2 (by omega) (by omega) (by omega) (by omega) S2.o cQ.o.1 cQ.o.2.1 cQ.o.2.2.1);go_wp2_with fail
      refine HI.o.mono ?_;rintro e w3 ⟨rfl,d3,AQ,s3,R3⟩;have dx:=η AQ;have jU:=η s3;have S3:=η R3;clear AQ s3 R3 HI;have jT:=η (cZ.refl (fn d3) mid b);have jV:Hid (cJ k (fn d3) mid b):=cJ.o ((show en=b by omega)▸cQ.o.2.2.2.1) λp q1 q2=>dx.o.o p (aU (by omega))
      have HL:=η (jB.o.law cX.o cM.o (by rw [<-iw.o];exact cK.o) dx.o jU.o jT.o jV.o (by omega) (by omega));go_wp2_with fail
      all_goals go_end0
      all_goals exact⟨rfl,d3,HL.o.2,HL.o.1,S3.o⟩
     have f3:¬(a:Int)<(s:Int):=by omega
     by_cases q4:en<b
     ·have f4:(en:Int)<(b:Int):=by omega
      have HR:=η (Rs S1.o T.o (.func (.func g) #[] cb) cap s m en (by omega) (by omega) (by omega));go_wp2_with fail
      refine HR.o.mono ?_;rintro e w2 ⟨rfl,d2,hf2,R2⟩;have cK:=η hf2;have S2:=η R2;clear hf2 R2 HR;have cQ:=η (jB.o.halves cX.o cM.o HX.o);rw [<-iw.o,<-cK.o] at cQ;have dx:=η (cZ.refl (fn d2) a mid);have jU:Hid (cJ k (fn d2) a mid):=(show s=a by omega)▸cQ.o.2.1;have fZ:=η (IH.o mid en b d2 w2 (by omega) (by omega) (by omega) (by omega) S2.o (cJ.o cQ.o.2.2.2.1 λp q1 q2=>dx.o.o p (aU q1)) (cJ.o cQ.o.2.2.2.2.1 λp q1 q2=>dx.o.o p (aU (by omega))) (sS.o cQ.o.2.2.2.2.2 λp q1 q2=>dx.o.o p (aU q1)));go_wp2_with fail
      refine fZ.o.mono ?_;rintro e w4 ⟨rfl,d4,AR,s4,R4⟩;have jT:=η AR;have jV:=η s4;have S4:=η R4;clear AR s4 R4 fZ;have HL:=η (jB.o.law cX.o cM.o (by rw [<-iw.o];exact cK.o) dx.o jU.o jT.o jV.o (by omega) (by omega));go_wp2_with fail
      all_goals go_end0
      all_goals exact⟨rfl,d4,HL.o.2,HL.o.1,S4.o⟩
     have f4:¬(en:Int)<(b:Int):=by omega
     have HR:=η (Rs S1.o T.o (.func (.func g) #[] cb) cap s m en (by omega) (by omega) (by omega));go_wp2_with fail
     refine HR.o.mono ?_;rintro e w2 ⟨rfl,d2,hf2,R2⟩;have cK:=η hf2;have S2:=η R2;clear hf2 R2 HR;have cQ:=η (jB.o.halves cX.o cM.o HX.o);rw [<-iw.o,<-cK.o] at cQ;have dx:=η (cZ.refl (fn d2) a mid);have jU:Hid (cJ k (fn d2) a mid):=(show s=a by omega)▸cQ.o.2.1;have jT:=η (cZ.refl (fn d2) mid b);have jV:Hid (cJ k (fn d2) mid b):=cJ.o ((show en=b by omega)▸cQ.o.2.2.2.1) λp q1 q2=>dx.o.o p (aU (by omega))
     have HL:=η (jB.o.law cX.o cM.o (by rw [<-iw.o];exact cK.o) dx.o jU.o jT.o jV.o (by omega) (by omega));go_wp2_with fail
     all_goals go_end0
     all_goals exact⟨rfl,d2,HL.o.2,HL.o.1,S2.o⟩
    have f2:¬(s:Int)<(mid:Int):=by omega
    have f6:¬(m:Int)<(en:Int):=by omega
    by_cases q3:a<s
    ·have f3:(a:Int)<(s:Int):=by omega
     by_cases q4:en<b
     ·have f4:(en:Int)<(b:Int):=by omega
      have cK:Hid (fn d=dH (fn d) s m en):=(wB _ (aU (by omega))).symm;have cQ:=η (jB.o.halves cX.o cM.o HX.o);rw [<-iw.o,<-cK.o] at cQ;have dx:=η (cZ.refl (fn d) a mid);have jU:Hid (cJ k (fn d) a mid):=(show s=mid by omega)▸cQ.o.1;have fZ:=η (IH.o mid en b d wr (by omega) (by omega) (by omega) (by omega) S1.o (cJ.o cQ.o.2.2.2.1 λp q1 q2=>dx.o.o p (aU q1)) (cJ.o cQ.o.2.2.2.2.1 λp q1 q2=>dx.o.o p (aU (by omega))) (sS.o cQ.o.2.2.2.2.2 λp q1 q2=>dx.o.o p (aU q1)));go_wp2_with fail
      refine fZ.o.mono ?_;rintro e w4 ⟨rfl,d4,AR,s4,R4⟩;have jT:=η AR;have jV:=η s4;have S4:=η R4;clear AR s4 R4 fZ;have HL:=η (jB.o.law cX.o cM.o (by rw [<-iw.o];exact cK.o) dx.o jU.o jT.o jV.o (by omega) (by omega));go_wp2_with fail
      all_goals go_end0
      all_goals exact⟨rfl,d4,HL.o.2,HL.o.1,S4.o⟩
     have f4:¬(en:Int)<(b:Int):=by omega
     have cK:Hid (fn d=dH (fn d) s m en):=(wB _ (aU (by omega))).symm;have cQ:=η (jB.o.halves cX.o cM.o HX.o);rw [<-iw.o,<-cK.o] at cQ;have dx:=η (cZ.refl (fn d) a mid);have jU:Hid (cJ k (fn d) a mid):=(show s=mid by omega)▸cQ.o.1;have jT:=η (cZ.refl (fn d) mid b);have jV:Hid (cJ k (fn d) mid b):=cJ.o ((show en=b by omega)▸cQ.o.2.2.2.1) λp q1 q2=>dx.o.o p (aU (by omega))
     have HL:=η (jB.o.law cX.o cM.o (by rw [<-iw.o];exact cK.o) dx.o jU.o jT.o jV.o (by omega) (by omega));go_wp2_with fail
     all_goals go_end0
     all_goals exact⟨rfl,d,HL.o.2,HL.o.1,S1.o⟩
    have f3:¬(a:Int)<(s:Int):=by omega
    by_cases q4:en<b
    ·have f4:(en:Int)<(b:Int):=by omega
     have cK:Hid (fn d=dH (fn d) s m en):=(wB _ (aU (by omega))).symm;have cQ:=η (jB.o.halves cX.o cM.o HX.o);rw [<-iw.o,<-cK.o] at cQ;have dx:=η (cZ.refl (fn d) a mid);have jU:Hid (cJ k (fn d) a mid):=(show s=mid by omega)▸cQ.o.1;have fZ:=η (IH.o mid en b d wr (by omega) (by omega) (by omega) (by omega) S1.o (cJ.o cQ.o.2.2.2.1 λp q1 q2=>dx.o.o p (aU q1)) (cJ.o cQ.o.2.2.2.2.1 λp q1 q2=>dx.o.o p (aU (by omega))) (sS.o cQ.o.2.2.2.2.2 λp q1 q2=>dx.o.o p (aU q1)));go_wp2_with fail
     refine fZ.o.mono ?_;rintro e w4 ⟨rfl,d4,AR,s4,R4⟩;have jT:=η AR;have jV:=η s4;have S4:=η R4;clear AR s4 R4 fZ;have HL:=η (jB.o.law cX.o cM.o (by rw [<-iw.o];exact cK.o) dx.o jU.o jT.o jV.o (by omega) (by omega));go_wp2_with fail
     all_goals go_end0
     all_goals exact⟨rfl,d4,HL.o.2,HL.o.1,S4.o⟩
    have f4:¬(en:Int)<(b:Int):=by omega
    have cK:Hid (fn d=dH (fn d) s m en):=(wB _ (aU (by omega))).symm;have cQ:=η (jB.o.halves cX.o cM.o HX.o);rw [<-iw.o,<-cK.o] at cQ;have dx:=η (cZ.refl (fn d) a mid);have jU:Hid (cJ k (fn d) a mid):=(show s=mid by omega)▸cQ.o.1;have jT:=η (cZ.refl (fn d) mid b);have jV:Hid (cJ k (fn d) mid b):=cJ.o ((show en=b by omega)▸cQ.o.2.2.2.1) λp q1 q2=>dx.o.o p (aU (by omega))
    have HL:=η (jB.o.law cX.o cM.o (by rw [<-iw.o];exact cK.o) dx.o jU.o jT.o jV.o (by omega) (by omega));go_wp2_with fail
    all_goals go_end0
    all_goals exact⟨rfl,d,HL.o.2,HL.o.1,S1.o⟩
   have f1:¬(s:Int)<(m:Int):=by omega
   have f5:¬(mid:Int)<(en:Int):=by omega
   by_cases q2:s<mid
   ·have f2:(s:Int)<(mid:Int):=by omega
    have f6:(m:Int)<(en:Int):=by omega
    by_cases q3:a<s
    ·have f3:(a:Int)<(s:Int):=by omega
     by_cases q4:en<b
     ·have f4:(en:Int)<(b:Int):=by omega
      have cK:Hid (fn d=dH (fn d) s m en):=(wB _ (aS (by omega))).symm;have cQ:=η (jB.o.halves cX.o cM.o HX.o);rw [<-iw.o,<-cK.o] at cQ;have HI:=η (IH.o a s mid d wr (by omega) (by omega) (by omega) (by omega) S1.o cQ.o.1 cQ.o.2.1 cQ.o.2.2.1);go_wp2_with fail
      refine HI.o.mono ?_;rintro e w3 ⟨rfl,d3,AQ,s3,R3⟩;have dx:=η AQ;have jU:=η s3;have S3:=η R3;clear AQ s3 R3 HI;have jT:=η (cZ.refl (fn d3) mid b);have jV:Hid (cJ k (fn d3) mid b):=cJ.o ((show en=mid by omega)▸cQ.o.2.2.2.2.1) λp q1 q2=>dx.o.o p (aU (by omega))
      have HL:=η (jB.o.law cX.o cM.o (by rw [<-iw.o];exact cK.o) dx.o jU.o jT.o jV.o (by omega) (by omega));go_wp2_with fail
      all_goals go_end0
      all_goals exact⟨rfl,d3,HL.o.2,HL.o.1,S3.o⟩
     have f4:¬(en:Int)<(b:Int):=by omega
     have cK:Hid (fn d=dH (fn d) s m en):=(wB _ (aS (by omega))).symm;have cQ:=η (jB.o.halves cX.o cM.o HX.o);rw [<-iw.o,<-cK.o] at cQ;have HI:=η (IH.o a s mid d wr (by omega) (by omega) (by omega) (by omega) S1.o cQ.o.1 cQ.o.2.1 cQ.o.2.2.1);go_wp2_with fail
     refine HI.o.mono ?_;rintro e w3 ⟨rfl,d3,AQ,s3,R3⟩;have dx:=η AQ;have jU:=η s3;have S3:=η R3;clear AQ s3 R3 HI;have jT:=η (cZ.refl (fn d3) mid b);have jV:Hid (cJ k (fn d3) mid b):=cJ.o ((show en=mid by omega)▸cQ.o.2.2.2.2.1) λp q1 q2=>dx.o.o p (aU (by omega))
     have HL:=η (jB.o.law cX.o cM.o (by rw [<-iw.o];exact cK.o) dx.o jU.o jT.o jV.o (by omega) (by omega));go_wp2_with fail
     all_goals go_end0
     all_goals exact⟨rfl,d3,HL.o.2,HL.o.1,S3.o⟩
    have f3:¬(a:Int)<(s:Int):=by omega
    by_cases q4:en<b
    ·have f4:(en:Int)<(b:Int):=by omega
     have cK:Hid (fn d=dH (fn d) s m en):=(wB _ (aS (by omega))).symm;have cQ:=η (jB.o.halves cX.o cM.o HX.o);rw [<-iw.o,<-cK.o] at cQ;have dx:=η (cZ.refl (fn d) a mid);have jU:Hid (cJ k (fn d) a mid):=(show s=a by omega)▸cQ.o.2.1;have jT:=η (cZ.refl (fn d) mid b);have jV:Hid (cJ k (fn d) mid b):=cJ.o ((show en=mid by omega)▸cQ.o.2.2.2.2.1) λp q1 q2=>dx.o.o p (aU (by omega))
     have HL:=η (jB.o.law cX.o cM.o (by rw [<-iw.o];exact cK.o) dx.o jU.o jT.o jV.o (by omega) (by omega));go_wp2_with fail
     all_goals go_end0
     all_goals exact⟨rfl,d,HL.o.2,HL.o.1,S1.o⟩
    have f4:¬(en:Int)<(b:Int):=by omega
    have cK:Hid (fn d=dH (fn d) s m en):=(wB _ (aS (by omega))).symm;have cQ:=η (jB.o.halves cX.o cM.o HX.o);rw [<-iw.o,<-cK.o] at cQ;have dx:=η (cZ.refl (fn d) a mid);have jU:Hid (cJ k (fn d) a mid):=(show s=a by omega)▸cQ.o.2.1;have jT:=η (cZ.refl (fn d) mid b);have jV:Hid (cJ k (fn d) mid b):=cJ.o ((show en=mid by omega)▸cQ.o.2.2.2.2.1) λp q1 q2=>dx.o.o p (aU (by omega))
    have HL:=η (jB.o.law cX.o cM.o (by rw [<-iw.o];exact cK.o) dx.o jU.o jT.o jV.o (by omega) (by omega));go_wp2_with fail
    all_goals go_end0
    all_goals exact⟨rfl,d,HL.o.2,HL.o.1,S1.o⟩
   have f2:¬(s:Int)<(mid:Int):=by omega
   have f6:¬(m:Int)<(en:Int):=by omega
   by_cases q3:a<s
   ·have f3:(a:Int)<(s:Int):=by omega
    by_cases q4:en<b
    ·have f4:(en:Int)<(b:Int):=by omega
     have cK:Hid (fn d=dH (fn d) s m en):=(wB _ (aS (by omega))).symm;have cQ:=η (jB.o.halves cX.o cM.o HX.o);rw [<-iw.o,<-cK.o] at cQ;have dx:=η (cZ.refl (fn d) a mid);have jU:Hid (cJ k (fn d) a mid):=(show s=mid by omega)▸cQ.o.1;have jT:=η (cZ.refl (fn d) mid b);have jV:Hid (cJ k (fn d) mid b):=cJ.o ((show en=mid by omega)▸cQ.o.2.2.2.2.1) λp q1 q2=>dx.o.o p (aU (by omega))
     have HL:=η (jB.o.law cX.o cM.o (by rw [<-iw.o];exact cK.o) dx.o jU.o jT.o jV.o (by omega) (by omega));go_wp2_with fail
     all_goals go_end0
     all_goals exact⟨rfl,d,HL.o.2,HL.o.1,S1.o⟩
    have f4:¬(en:Int)<(b:Int):=by omega
    have cK:Hid (fn d=dH (fn d) s m en):=(wB _ (aS (by omega))).symm;have cQ:=η (jB.o.halves cX.o cM.o HX.o);rw [<-iw.o,<-cK.o] at cQ;have dx:=η (cZ.refl (fn d) a mid);have jU:Hid (cJ k (fn d) a mid):=(show s=mid by omega)▸cQ.o.1;have jT:=η (cZ.refl (fn d) mid b);have jV:Hid (cJ k (fn d) mid b):=cJ.o ((show en=mid by omega)▸cQ.o.2.2.2.2.1) λp q1 q2=>dx.o.o p (aU (by omega))
    have HL:=η (jB.o.law cX.o cM.o (by rw [<-iw.o];exact cK.o) dx.o jU.o jT.o jV.o (by omega) (by omega));go_wp2_with fail
    all_goals go_end0
    all_goals exact⟨rfl,d,HL.o.2,HL.o.1,S1.o⟩
   have f3:¬(a:Int)<(s:Int):=by omega
   by_cases q4:en<b
   ·have f4:(en:Int)<(b:Int):=by omega
    have cK:Hid (fn d=dH (fn d) s m en):=(wB _ (aS (by omega))).symm;have cQ:=η (jB.o.halves cX.o cM.o HX.o);rw [<-iw.o,<-cK.o] at cQ;have dx:=η (cZ.refl (fn d) a mid);have jU:Hid (cJ k (fn d) a mid):=(show s=mid by omega)▸cQ.o.1;have jT:=η (cZ.refl (fn d) mid b);have jV:Hid (cJ k (fn d) mid b):=cJ.o ((show en=mid by omega)▸cQ.o.2.2.2.2.1) λp q1 q2=>dx.o.o p (aU (by omega))
    have HL:=η (jB.o.law cX.o cM.o (by rw [<-iw.o];exact cK.o) dx.o jU.o jT.o jV.o (by omega) (by omega));go_wp2_with fail
    all_goals go_end0
    all_goals exact⟨rfl,d,HL.o.2,HL.o.1,S1.o⟩
   have f4:¬(en:Int)<(b:Int):=by omega
   have cK:Hid (fn d=dH (fn d) s m en):=(wB _ (aS (by omega))).symm;have cQ:=η (jB.o.halves cX.o cM.o HX.o);rw [<-iw.o,<-cK.o] at cQ;have dx:=η (cZ.refl (fn d) a mid);have jU:Hid (cJ k (fn d) a mid):=(show s=mid by omega)▸cQ.o.1;have jT:=η (cZ.refl (fn d) mid b);have jV:Hid (cJ k (fn d) mid b):=cJ.o ((show en=mid by omega)▸cQ.o.2.2.2.2.1) λp q1 q2=>dx.o.o p (aU (by omega))
   have HL:=η (jB.o.law cX.o cM.o (by rw [<-iw.o];exact cK.o) dx.o jU.o jT.o jV.o (by omega) (by omega));go_wp2_with fail
   all_goals go_end0
   all_goals exact⟨rfl,d,HL.o.2,HL.o.1,S1.o⟩
end
section
open Go.Lib Go.Sort Go.Shelf Go.Proofs.YtdokipdchlcmeaaGreat.pH
theorem YQ {w0:aJ} {blk off n:Nat} {g:Nat} {cb:Array aN} {cf:Int->Int->Int} {k:Int->Int} {ok:Int->Prop} {d0:Array Int}(T:tD w0 blk off n g cb cf k ok d0)(cap:Nat):∀(N a m b:Nat) (d:Array Int) (w:aJ),b-a<=N->a<m->m<b->b<=n->Rw w0 blk off n ok d w->cJ k (fn d) a m->cJ k (fn d) m b->sS (fn d) a m b->
 aQ aM 265 #[aH (aC ⟨blk,off,aB⟩) n cap,aG aF (a:Nat),aG aF (m:Nat),aG aF (b:Nat),.func (.func g) #[] cb] w (Ln w0 blk off n k ok d a b)
 |0,a,m,b,d,w,hN,h1,h2,_,_,_,_,_=>by omega
 |N+1,a,m,b,d,w,hN,h1,h2,h3,h,hs1,hs2,hx=>by
  by_cases hA:m=a+1
  ·exact aLD T cap a m b d w h h1 h2 h3 hs1 hs2 hx hA
  by_cases hB:b=m+1
  ·exact aLE T cap a m b d w h h1 h2 h3 hs1 hs2 hx hA hB
  exact aLF T cap a m b d w h h1 h2 h3 hs1 hs2 hx hA hB _ rfl λa' m' b' d' w' q1 q2 q3 q4 q5 q6 q7 q8=>YQ T cap N a' m' b' d' w' (by omega) q2 q3 q4 q5 q6 q7 q8
end
section
open Go.Lib Go.Sort Go.Shelf Go.Proofs.YtdokipdchlcmeaaGreat.pH
def a0S(w0:aJ)(blk off n:Nat)(k:Int->Int)(ok:Int->Prop)(d:Array Int):dU->aJ->Prop:=λe w'=>e=aT (bB #[])/\∃d':Array Int,cZ (fn d) (fn d') 0 n/\cJ k (fn d') 0 n/\Rw w0 blk off n ok d' w'
theorem aKy {w0:aJ} {blk off n:Nat} {g:Nat} {cb:Array aN} {cf:Int->Int->Int} {k:Int->Int} {ok:Int->Prop} {d0:Array Int}(T0:tD w0 blk off n g cb cf k ok d0)(cap:Nat)(d:Array Int)(w:aJ)(h:Rw w0 blk off n ok d w)(jJ:n<=1000000)(h0:∀p,p<n->fn d p=p):
 aQ aM 247 #[aH (aC ⟨blk,off,aB⟩) n cap,aG aF (n:Nat),.func (.func g) #[] cb] w (a0S w0 blk off n k ok d):=by
 have T:=η T0;have HH:=η h;have H0:=η h0;go_enter func247,ntmps247
 go_wp2_with fail
 go_loopg [7,8] (n+20) (λkx s t wr=>∃(a b:Nat) (dk:Array Int),s=aG aF a/\t=aG aF b/\b<=a+20/\a+20<=b/\a<=n/\n+20-a<=kx/\Hid (Rw w0 blk off n ok dk wr)/\Hid (cZ (fn d) (fn dk) 0 n/\vA k n (fn dk) a))
 case atStart=>exact⟨0,20,d,rfl,rfl,by omega,by omega,bK _,by omega,HH,cZ.refl _ _ _,vA.start H0.o⟩
 case round=>
  obtain⟨a,b,dk,rfl,rfl,hb1,hb2,han,mA,S1,HI⟩:=hrel;by_cases hlt:b<=n
  ·have ng:(b:Int)<=(n:Int):=by omega
   have HC:=η (a4m T.o cap a b dk wr S1.o (by omega) hlt (HI.o.2.rising hlt));go_wp2_with fail
   refine HC.o.mono ?_;rintro e w2 ⟨rfl,d2,gY,s2,R2⟩;have fZ:Hid (cZ (fn d) (fn d2) 0 n/\vA k n (fn d2) b):=by
    have e:b=a+20:=by omega
    subst e;exact⟨HI.o.1.trans (gY.mono (bK _) hlt),HI.o.2.next hlt gY s2⟩
   have S2:=η R2;go_wp2_with fail
   go_roundg (n+20-b)
   case measure=>omega
   case rel=>exact⟨b,b+20,d2,rfl,by go_num,aa _,aa _,hlt,aa _,S2,fZ⟩
  have ng:¬(b:Int)<=(n:Int):=by omega
  have HC:=η (a4m T.o cap a n dk wr S1.o han (aa _) (HI.o.2.rising (aa _)));go_wp2_with fail
  refine HC.o.mono ?_;rintro e w2 ⟨rfl,d2,gY,s2,R2⟩;have fZ:Hid (cZ (fn d) (fn d2) 0 n/\yw k n 20 (fn d2)):=⟨HI.o.1.trans (gY.mono (bK _) (aa _)),HI.o.2.last (by omega) gY s2⟩;have S2:=η R2;go_wp2_with fail
  go_loopg [6,7,8,9] n (λkx s _ _ _ wr=>∃(z:Nat) (dk:Array Int),s=aG aF z/\20<=z/\z<=2*n+20/\n-z<=kx/\Hid (Rw w0 blk off n ok dk wr)/\Hid (cZ (fn d) (fn dk) 0 n/\yw k n z (fn dk)))
  case atStart=>exact⟨20,d2,rfl,by omega,by omega,by omega,S2,fZ⟩
  case round=>
   obtain⟨z,dz,rfl,hz1,hz2,mA,S1,HB⟩:=hrel;by_cases hlt:z<n
   ·have ng:(z:Int)<(n:Int):=by omega
    obtain⟨wo,rfl⟩:∃wo:aJ,wo=wr:=⟨_,rfl⟩;have OP:Hid (cZ (fn d) (fn dz) 0 n/\rV k n z (fn dz) 0):=⟨HB.o.1,HB.o.2.start⟩;go_wp2_with fail
    go_loopg [7,8] (n+2*z) (λkx s t wr=>∃(a b:Nat) (dk:Array Int),s=aG aF a/\t=aG aF b/\b<=a+2*z/\a+2*z<=b/\a<=n/\n+2*z-a<=kx/\Hid (Rw w0 blk off n ok dk wr)/\Hid (cZ (fn d) (fn dk) 0 n/\rV k n z (fn dk) a))
    case atStart=>exact⟨0,2*z,dz,rfl,by first|rfl|go_num,by omega,by omega,bK _,by omega,S1,OP⟩
    case round=>
     obtain⟨a,b,dk,rfl,rfl,hb1,hb2,han,mA,S1,HI⟩:=hrel;by_cases rz:b<=n
     ·have WY:(b:Int)<=(n:Int):=by omega
      have HR:=η (HI.o.2.runs (b:=b) (by omega) rz hb1 (by omega));have HC:=η (YQ T.o cap (b-a) a (a+z) b dk wr (aa _) (by omega) (by omega) rz S1.o HR.o.1 HR.o.2.1 HR.o.2.2);go_wp2_with fail
      refine HC.o.mono ?_;rintro e w2 ⟨rfl,d2,gY,s2,R2⟩;have fZ:Hid (cZ (fn d) (fn d2) 0 n/\rV k n z (fn d2) b):=by
       have e:b=a+2*z:=by omega
       subst e;exact⟨HI.o.1.trans (gY.mono (bK _) rz),HI.o.2.next (by omega) rz gY s2⟩
      have S2:=η R2;go_wp2_with fail
      go_roundg (n+2*z-b)
      case measure=>omega
      case rel=>exact⟨b,b+2*z,d2,rfl,by go_num,aa _,aa _,rz,aa _,S2,fZ⟩
     have WY:¬(b:Int)<=(n:Int):=by omega
     by_cases hm:a+z<n
     ·have hmz:(a:Int)+(z:Int)<(n:Int):=by omega
      have HR:=η (HI.o.2.runs (b:=n) (by omega) (aa _) (by omega) (by omega));have HC:=η (YQ T.o cap (n-a) a (a+z) n dk wr (aa _) (by omega) hm (aa _) S1.o HR.o.1 HR.o.2.1 HR.o.2.2);go_wp2_with fail
      refine HC.o.mono ?_;rintro e w2 ⟨rfl,d2,gY,s2,R2⟩;have fZ:Hid (cZ (fn d) (fn d2) 0 n/\yw k n (2*z) (fn d2)):=⟨HI.o.1.trans (gY.mono (bK _) (aa _)),HI.o.2.last (by omega) (by omega) gY s2⟩;have S2:=η R2;go_wp2_with fail
      go_roundg (n-2*z)
      case measure=>omega
      case rel=>exact⟨2*z,d2,by first|rfl|go_num|(congr 1;omega),by omega,by omega,aa _,S2,fZ⟩
     have hmz:¬(a:Int)+(z:Int)<(n:Int):=by omega
     have fZ:Hid (cZ (fn d) (fn dk) 0 n/\yw k n (2*z) (fn dk)):=⟨HI.o.1,HI.o.2.none (by omega) (by omega)⟩;go_wp2_with fail
     go_roundg (n-2*z)
     case measure=>omega
     case rel=>exact⟨2*z,dk,by first|rfl|go_num|(congr 1;omega),by omega,by omega,aa _,S1,fZ⟩
   have ng:¬(z:Int)<(n:Int):=by omega
   go_wp2_with fail
   go_end0
   exact⟨rfl,dz,HB.o.1,HB.o.2.done (by omega),S1.o⟩
theorem a7U {w0:aJ} {blk off n:Nat} {g:Nat} {cb:Array aN} {cf:Int->Int->Int} {k:Int->Int} {ok:Int->Prop} {d0:Array Int}(T0:tD w0 blk off n g cb cf k ok d0)(cap:Nat)(d:Array Int)(w:aJ)(h:Rw w0 blk off n ok d w)(jJ:n<=1000000)(h0:∀p,p<n->fn d p=p):
 aQ aM 207 #[aH (aC ⟨blk,off,aB⟩) n cap,.func (.func g) #[] cb] w (a0S w0 blk off n k ok d):=by
 have HC:=η (aKy T0 cap d w h jJ h0);go_enter func207,ntmps207
 go_wp2_with fail
 refine HC.o.mono ?_;rintro e w2 ⟨rfl,hd⟩;have HD:=η hd;go_wp2_with fail
 go_end0
 exact⟨rfl,HD.o⟩
end
section
open Go.Lib Go.Proofs.YtdokipdchlcmeaaGreat.DivLaw
theorem aLo(a b:Nat)(w:aJ)(ha:a<18446744073709551616)(hb:b<18446744073709551616):
 aQ aM 294 #[aG .u64 a,aG .u64 b] w λe w'=>e=aT (bQ #[aG .u64 ((a*b/18446744073709551616:Nat):Int),aG .u64 ((a*b % 18446744073709551616:Nat):Int)])/\β w w':=by
 have HC:=λW=>η (bits_Mul64 a b ha hb W)
 clear ha hb;generalize a*b/18446744073709551616=H at*;generalize a*b % 18446744073709551616=L at*;go_enter func294,ntmps294
 go_wp2_with fail
 refine(HC _).o.mono ?_;rintro e w' ⟨rfl,rfl⟩;go_wp2_with fail
 exact bodyPost_ret (v:=bQ #[aG .u64 (H:Int),aG .u64 (L:Int)]) (by simp [results,results294,go_sem]) rfl ⟨rfl,(aX _ _).alloc (aa _) _⟩
theorem aLl(hi lo c D M:Nat)(w:aJ)(h2:hi<c)(h3:c<18446744073709551616)(nZ:lo<18446744073709551616)(hD:(hi*18446744073709551616+lo)/c=D)(hM:(hi*18446744073709551616+lo) % c=M):
 aQ aM 293 #[bQ #[aG .u64 hi,aG .u64 lo],aG .u64 c] w λe w'=>e=aT (bB #[aG .u64 (D:Int),aG .u64 (M:Int),ν 0])/\β w w':=by
 have HC:=λW=>η (aEy hi lo c W h2 h3 nZ)
 rw [hD,hM] at HC;clear h3 nZ hD hM;have z1:((c:Int)==0)=aP:=by grind
 have z3:¬(c:Int)<=(hi:Int):=by omega
 go_enter func293,ntmps293
 go_wp2_with fail
 refine(HC _).o.mono ?_;rintro e w' ⟨rfl,n,rfl⟩;go_wp2_with fail
 go_ret3;exact⟨rfl,below_drewN σ n⟩
theorem aI7(a b c:Nat)(w:aJ)(ha:a<18446744073709551616)(hb:b<18446744073709551616)(h2:a*b/18446744073709551616<c)(h3:c<18446744073709551616):
 aQ aM 290 #[aG .u64 a,aG .u64 b,aG .u64 c] w λe w'=>e=aT (bB #[aG .u64 ((a*b/c:Nat):Int),aG .u64 ((a*b % c:Nat):Int),ν 0])/\β w w':=by
 have HC:=λW=>η (aLo a b W ha hb)
 have e:a*b/18446744073709551616*18446744073709551616+a*b % 18446744073709551616=a*b:=by omega
 have HD:=λW=>η (aLl (a*b/18446744073709551616) (a*b % 18446744073709551616) c (a*b/c) (a*b % c) W h2 h3 (by omega) (by rw [e]) (by rw [e]))
 clear e ha hb h2 h3;generalize a*b/18446744073709551616=H at*;generalize a*b % 18446744073709551616=L at*;generalize a*b/c=D at*;generalize a*b % c=M at*;go_enter func290,ntmps290
 go_wp2_with fail
 refine(HC _).o.mono ?_;rintro e w1 ⟨rfl,hb1⟩;have HB:=η hb1;clear hb1;go_wp2_with fail
 refine(HD _).o.mono ?_;rintro e w2 ⟨rfl,hb2⟩;have aV:=τ HB hb2;clear hb2;go_wp2_with fail
 go_ret3;exact⟨rfl,aV.o⟩
theorem aJo(T wt S:Nat)(w:aJ)(hT:T<9223372036854775808)(hw:wt<=S)(h0:0<S)(hS:S<9223372036854775808):
 aQ aM 280 #[ν T,ν wt,ν S] w λe w'=>e=aT (bB #[ν ((T*wt/S:Nat):Int),ν ((T*wt % S:Nat):Int),ν 0])/\β w w':=by
 have hm:T*wt<=9223372036854775807*S:=vG (by omega) hw;have DY:T*wt/18446744073709551616<S:=(GZ (by omega)).2 (by omega);have hq:T*wt/S<=T:=by have:=Nat.div_le_div_right (c:=S) (Nat.mul_le_mul_left T hw);grind [Nat.mul_div_cancel]
 have hr:T*wt % S<S:=Jf _ h0;have HC:=λW=>η (aI7 T wt S W (by omega) (by omega) DY (by omega))
 clear hm DY;generalize T*wt/S=D at*;generalize T*wt % S=M at*;have z1:((S:Int)==0)=aP:=by grind
 have z2:¬(S:Int)<(wt:Int):=by omega
 have z3:¬(T:Int)<0:=by omega
 have z4:¬(wt:Int)<0:=by omega
 go_enter func280,ntmps280
 go_wp2_with fail
 refine(HC _).o.mono ?_;rintro e w1 ⟨rfl,hb1⟩;have HB:=η hb1;clear hb1;go_wp2_with fail
 go_ret3;exact⟨rfl,HB.o⟩
theorem aI9(x:Int)(w:aJ):aQ aM 249 #[aG aF x] w λe w'=>e=aT (bJ aP)/\w=w':=by
 go_enter func249,ntmps249
 go_wp2
 go_ret;simp
def DI(x y:Int):Int:=if x<y then-1 else if y<x then 1 else 0
theorem aEC(x y:Int):DI x y<0↔x<y:=by grind [DI]
theorem aEJ(x y:Int)(w:aJ):aQ aM 213 #[aG aF x,aG aF y] w λe w'=>e=aT (aG aF (DI x y))/\w=w':=by
 go_enter UT,Ub
 go_wp2_with (go_at_call 249;refine(aI9 _ _).mono ?_;rintro e w' ⟨rfl,rfl⟩)
 ·have h:x<y:=by assumption
  go_ret;exact⟨by rw [DI,ifP h];rfl,rfl⟩
 ·have h:¬x<y:=by omega
  have h2:y<x:=by assumption
  go_ret;exact⟨by rw [DI,ifN h,ifP h2];rfl,rfl⟩
 have h:¬x<y:=by omega
 have h2:¬y<x:=by omega
 go_ret;exact⟨by rw [DI,ifN h,ifN h2];rfl,rfl⟩
end
section
open Go.Lib
theorem a4r(x:Int)(w:aJ):aQ aM 256 #[aG aF x] w λe w'=>e=aT (bJ (decide (x<0)))/\w=w':=by
 go_enter func256,ntmps256
 go_wp2
 go_ret;exact⟨rfl,rfl⟩
def xZ(l:List Int):Bool:=l.any λx=>decide (x<0)
theorem aIE {l:List Int}(h:xZ l=aP):∀x∈l,0<=x:=by grind [xZ]
theorem a5l {l:List Int}(h:∀k (hk:k<aA l),¬l[k]<0):xZ l=aP:=by grind [xZ,tB]
theorem aIF {l:List Int} {k:Nat}(hk:k<aA l)(h:l[k]<0):xZ l=aO:=by grind [xZ,cH]
def a9g(l:List Int)(w:aJ):dU->aJ->Prop:=λe w'=>∃n:Int,e=aT (aG aF n)/\decide (0<=n)=xZ l/\w=w'
theorem aH5(l:List Int)(A:Option aj)(c:Nat)(w:aJ)(hs:aW w w.heap.size A (l.map (aG aF)))(hn:aA l<=4611686018427387904):
 aQ aM 279 #[aH A (aA l) c,.func (.func 256) #[] #[]] w (a9g l w):=by
 have HS:=η hs;clear hs;go_enter func279,ntmps279
 go_wp2_with fail
 go_loopw [5,8] (λ_ i wr=>∃k:Nat,k<=aA l/\i=ν k/\Hid (∀j (hj:j<aA l),j<k->0<=l[j])/\wr=w) (λ_ i _=>aA l-(af i).toNat)
 case atStart=>exact⟨0,bK _,rfl,λj _ h=>by omega,rfl⟩
 case round=>
  obtain⟨k,hk,rfl,HP,rfl⟩:=hrel;by_cases hlt:k<aA l
  ·obtain⟨b,o,rfl,hb,hc⟩:=HS.o.at (k:=k) (by simpa using hlt);rw [wk] at hc;by_cases hx:l[k]<0
   ·have HT:=η (aIF hlt hx);go_wp2_with (go_at_call 256;refine(a4r _ _).mono ?_;rintro e w' ⟨rfl,rfl⟩)
    go_ret;exact⟨_,rfl,by rw [HT.o];simp,rfl⟩
   have mj:Hid (∀j (hj:j<aA l),j<k+1->0<=l[j]):=by
    intro j hj hjk;by_cases e:j=k
    ·subst e;omega
    exact HP.o j hj (by omega)
   go_wp2_with (go_at_call 256;refine(a4r _ _).mono ?_;rintro e w' ⟨rfl,rfl⟩)
   go_roundw
   case rel=>exact⟨k+1,by omega,by go_num,mj,by first|rfl|trivial⟩
   case measure=>simp [af];omega
  go_wp2_with fail
  go_ret;exact⟨_,rfl,by rw [a5l λj hj=>by have:=HP.o j hj (by omega);omega];rfl,rfl⟩
theorem aCl(l:List Int)(A:Option aj)(c:Nat)(w:aJ)(hs:aW w w.heap.size A (l.map (aG aF)))(hn:aA l<=4611686018427387904):
 aQ aM 255 #[aH A (aA l) c,.func (.func 256) #[] #[]] w λe w'=>e=aT (bJ (xZ l))/\w=w':=by
 have HC:=η (aH5 l A c w hs hn);clear hs;go_enter func255,ntmps255
 go_wp2_with fail
 refine HC.o.mono ?_;rintro e w' ⟨n,rfl,hn,rfl⟩;have HN:=η hn;clear hn;go_wp2_with fail
 go_ret;exact⟨by rw [<-HN.o];rfl,rfl⟩
def iL(T:Int)(l:List Int):Int:=if 1024<(aA l) then 6 else if T<0\/xZ l=aO then 1 else dC (sumI l)
def xF(T:Int)(l:List Int):Int:=if 1024<(aA l) then 0 else if T<0\/xZ l=aO then 0 else fU (sumI l)
theorem a2E(T:Int)(l:List Int)(A:Option aj)(c:Nat)(w:aJ)(hl:∀x∈l,aL x)(hs:aW w w.heap.size A (l.map (aG aF)))(hn:aA l<=bM):
 aQ aM 227 #[ν T,aH A (aA l) c] w λe w'=>e=aT (bB #[ν (xF T l),ν (iL T l)])/\β w w':=by
 unfold bM at hn;by_cases h1:1024<aA l
 ·have e1:xF T l=0:=by grind [xF]
  have e2:iL T l=6:=by grind [iL]
  rw [e1,e2];clear hl hs e1 e2;go_enter UW,Ud
  go_wp2_with fail
  go_ret2;exact⟨rfl,aX _ _⟩
 have uW:aA l<=1024:=by omega
 by_cases h2:T<0
 ·have e1:xF T l=0:=by grind [xF]
  have e2:iL T l=1:=by grind [iL]
  rw [e1,e2];clear hl hs e1 e2;go_enter UW,Ud
  go_wp2_with fail
  go_ret2;exact⟨rfl,aX _ _⟩
 have HC:=η (aCl l A c w hs (by omega));have VY:decide (T<0)=aP:=decide_eq_false h2;cases h3:xZ l
 ·have e1:xF T l=fU (sumI l):=by grind [xF]
  have e2:iL T l=dC (sumI l):=by grind [iL]
  rw [e1,e2];have HD:=η (CF l A c w hl hs (by omega));rw [h3] at HC;clear hl hs e1 e2 h3;go_enter UW,Ud
  go_wp2_with fail
  refine HC.o.mono ?_;rintro e w' ⟨rfl,rfl⟩;go_wp2_with fail
  refine HD.o.mono ?_;rintro e w1 ⟨rfl,hb⟩;have HB:=η hb;clear hb;go_wp2_with fail
  go_ret2;exact⟨rfl,HB.o⟩
 have e1:xF T l=0:=by grind [xF]
 have e2:iL T l=1:=by grind [iL]
 rw [e1,e2];rw [h3] at HC;clear hl hs e1 e2 h3;go_enter UW,Ud
 go_wp2_with fail
 refine HC.o.mono ?_;rintro e w' ⟨rfl,rfl⟩;go_wp2_with fail
 go_ret2;exact⟨rfl,aX _ _⟩
end
section
open Go.Lib Go.Sort Go.Shelf Go.Proofs.YtdokipdchlcmeaaGreat.pH Go.Proofs.YtdokipdchlcmeaaGreat.ShareLaw
def fS(w:aJ)(b:Nat)(t:bY)(xs:List Int):Prop:=w.heap[b]? =aC (aK (xs.map (aG aF)).toArray t (0,0))
section
variable {w w':aJ} {b B:Nat} {t:bY} {xs:List Int}
theorem fS.cell(h:fS w b t xs) {i:Nat}(hi:i<aA xs):w.cell? ⟨b,i,aB⟩=aC (aG aF xs[i]):=by rw [bH w b i _ t (0,0) h];simp [hi]
theorem fS.free(h:fS w b t xs)(i:Nat):w.frozen? ⟨b,i,aB⟩=aP:=Jy w b i _ t h
theorem fS.of_block(h:fS w b t xs)(e:w'.heap[b]? =w.heap[b]?):fS w' b t xs:=e.trans h
theorem fS.below(h:fS w b t xs)(hb:b<B)(k:aY B w w'):fS w' b t xs:=h.of_block (k.block b hb)
theorem fS.other(h:fS w b t xs) {a:aj}(v:aN)(hne:b≠a.block):fS (w.setCell a v) b t xs:=h.of_block (Nz w a v b hne)
theorem fS.set(h:fS w b t xs)(i:Nat)(v:Int):fS (w.setCell ⟨b,i,aB⟩ (aG aF v)) b t (xs.set i v):=by unfold fS at*;rw [setCell_eq,mapBlock,Array.getElem?_modify,ifP rfl,h];simp [onCells,List.map_set]
theorem fS.new(w:aJ)(t:bY)(xs:List Int):fS (w.alloc (aK (xs.map (aG aF)).toArray t)) w.heap.size t xs:=cO w _
theorem fS.alloc(h:fS w b t xs)(hb:b<w.heap.size)(o:Obj):fS (w.alloc o) b t xs:=h.of_block (a8f w o b hb)
theorem fS.dt(h:fS w b t xs)(hb:b<B):aW w B (aC ⟨b,0,aB⟩) (xs.map (aG aF)):=by intro j u hu;refine⟨b,0,rfl,hb, ?_⟩;rw [bH w b (0+j) _ t (0,0) h,Nat.zero_add];simpa using hu
end
def eH(n:Nat)(f:Nat->Int):List Int:=(dR n).map f
theorem rD(n:Nat)(f:Nat->Int):aA (eH n f)=n:=by simp [eH]
theorem Dy {n:Nat} {f:Nat->Int} {i:Nat}(h:i<aA (eH n f)):(eH n f)[i]=f i:=by simp [eH]
theorem Xz {n:Nat} {f g:Nat->Int}(h:∀i,i<n->f i=g i):eH n f=eH n g:=by grind [eH,Je]
theorem a6v {n:Nat} {f:Nat->Int}(k:Nat)(v:Int):(eH n f).set k v=eH n (λi=>if i=k then v else f i):=by
 apply Lc
 ·simp [rD]
 grind [Dy]
theorem Ru {n k:Nat} {g:Nat->Int}:(eH n (λi=>if i<k then g i else 0)).set k (g k)=eH n (λi=>if i<k+1 then g i else 0):=by rw [a6v];grind
theorem Rt {n:Nat} {g:Nat->Int}:eH n (λi=>if i<n then g i else 0)=eH n g:=Xz λi h=>by rw [ifP h]
theorem a6w {n:Nat} {g:Nat->Int}:eH n (λi=>if i<0 then g i else 0)=gR n 0:=by
 apply Lc
 ·simp [rD]
 grind [Dy]
theorem a5S(n:Nat):madeCells (aG aF 0).cells n=lH n (aG aF 0):=by apply Array.toList_inj.1;have e:(aG aF 0).cells= #[aG aF 0]:=rfl;rw [e,toList_madeCells_one];simp
theorem XK(n:Nat)(hn:n<=1000000)(W:aJ):(Ox 53 (aG aF (n:Int)) (aG aF (n:Int))).run aM W= .ok (aH (aC ⟨W.heap.size,0,aB⟩) n n) (W.alloc (aK (lH n (aG aF 0)) 2)):=by
 have inf:(aM.info? 2).map (λi=>(i.zero,i.size,i.bytes))=aC (aC (ν 0),1,8):=by kernel_rfl
 obtain⟨i0,hi,hz0,hz1,hz2⟩:=dJ inf;have h:=run_makeSlice (P:=aM) W 53 2 i0 _ mP hi hz0 aF aF n n (by omega) (dM _) (by rw [hz1];simp;omega) (by rw [hz2];simp;omega) (by omega);grind [a5S]
theorem a5T(n:Nat)(hn:n<=1000000)(W:aJ):(Ox 46 (aG aF (n:Int)) (aG aF (n:Int))).run aM W= .ok (aH (aC ⟨W.heap.size,0,aB⟩) n n) (W.alloc (aK (lH n (aG aF 0)) 3)):=by
 have inf:(aM.info? 3).map (λi=>(i.zero,i.size,i.bytes))=aC (aC (ν 0),1,8):=by kernel_rfl
 obtain⟨i0,hi,hz0,hz1,hz2⟩:=dJ inf;have h:=run_makeSlice (P:=aM) W 46 3 i0 _ yN hi hz0 aF aF n n (by omega) (dM _) (by rw [hz1];simp;omega) (by rw [hz2];simp;omega) (by omega);grind [a5S]
theorem aEK(x y:Int)(w:aJ):aQ aM 213 #[aG aF x,aG aF y] w λe w'=>e=aT (aG aF (DI x y))/\w'=w:=(aEJ x y w).mono λ_ _ ⟨a,b⟩=>⟨a,b.symm⟩
theorem aIx(bc br n:Nat)(r:Nat->Int)(x y:Nat)(hx:x<n)(hy:y<n)(w:aJ)(hc:w.cell? ⟨bc,0,aB⟩=aC (aH (aC ⟨br,0,aB⟩) n n))(hr:∀i,i<n->w.cell? ⟨br,i,aB⟩=aC (aG aF (r i))):
 aQ aM 281 #[ν x,ν y,π bc] w λe w'=>e=aT (ν (DI (r y) (r x)))/\∃q,w'=w.drewN q:=by
 have c1:=hr x hx;have c2:=hr y hy;clear hr;have i1:(0:Int)<=(x:Int):=by omega
 have i2:(x:Int)<(n:Int):=by omega
 have i3:(0:Int)<=(y:Int):=by omega
 have i4:(y:Int)<(n:Int):=by omega
 go_enter aAz,ntmps281
 go_wp2_with fail
 go_quiet ((go_at_call 213;exact J1 (aEK _ _ _)))
 go_wp2_with fail
 go_ret;exact⟨rfl,_,rfl⟩
end
section
open Go.Lib Go.Sort Go.Shelf Go.Proofs.YtdokipdchlcmeaaGreat.pH Go.Proofs.YtdokipdchlcmeaaGreat.ShareLaw
def Ordered(r:Nat->Int)(n:Nat)(who:Nat->Nat):Prop:=∀t,t<n->who t<n/\rk r n (who t)=t
def aCG(r:Nat->Int)(n bw:Nat)(w:aJ):dU->aJ->Prop:=λe w'=>e=aT (bB #[])/\∃who:Nat->Nat,Ordered r n who/\(∀t,t<n->w'.cell? ⟨bw,t,aB⟩=aC (aG aF (who t:Int)))/\w.grownBy w' (aC bw)
theorem a9q {r:Nat->Int} {x y:Nat}(h:L (λz=> -(r z.toNat)) (x:Int) (y:Int)):ah r x y=aO:=by grind [L,PU]
theorem aIz {r:Nat->Int} {n:Nat} {g:Nat->Int}(hm:cZ (λp=>(p:Int)) g 0 n)(hs:cJ (λz=> -(r z.toNat)) g 0 n):∃who:Nat->Nat,Ordered r n who/\∀t,t<n->g t=(who t:Int):=by
 have hex:∀t,∃m:Nat,t<n->m<n/\g t=(m:Int):=by
  intro t;by_cases ht:t<n
  ·obtain⟨j,_,hj,e⟩:=hm.to t (bK _) ht;grind
  grind
 obtain⟨who,hw⟩:=Yq.1 hex;refine⟨who, ?_,λt ht=>(hw t ht).2⟩;have key:=aFz (n:=n) (f:=λt=>rk r n (who t)) (λt ht=>a6s (hw t ht).1) (λi j qy hj=>by have h1:=hs i j (bK _) qy hj;rw [(hw i (by omega)).2,(hw j hj).2] at h1;exact Xx (hw i (by omega)).1 (a9q h1));exact λt ht=>⟨(hw t ht).1,key t ht⟩
theorem Hj(n:Nat)(f:Nat->Int) {p:Nat}(hp:p<n):fn (eH n f).toArray p=f p:=by grind [fn,eH]
theorem aI5 {n:Nat} {f g:Nat->Int}(h:cZ f g 0 n)(hf:∀p,p<n->f p=p):∃g',cZ (λp=>(p:Int)) g' 0 n/\∀t,t<n->g' t=g t:=by
 refine⟨λp=>if p<n then g p else p,⟨λi _ hi=> ?_,λj _ hj=> ?_,λi hi=> ?_⟩,λt ht=>by simp [ht]⟩
 ·obtain⟨j,_,hj,e⟩:=h.to i (bK _) hi;grind
 ·obtain⟨i,_,hi,e⟩:=h.of j (bK _) hj;grind
 omega
theorem aKl(bc br bw n:Nat)(r:Nat->Int)(w:aJ)(hn:n<=1000000)(hc:w.heap[bc]? =aC (aK #[aH (aC ⟨br,0,aB⟩) n n] 53 (0,0)))(hr:fS w br 2 (eH n r))(hw:fS w bw 3 (eH n λi=>(i:Int)))(h1:bc≠bw)(h2:br≠bw)(h3:bc<w.heap.size)(h4:br<w.heap.size)(h5:bw<w.heap.size):
 aQ aM 207 #[aH (aC ⟨bw,0,aB⟩) n n,.func (.func 281) #[] #[π bc]] w (aCG r n bw w):=by
 have hlen:(eH n λi=>(i:Int)).toArray.size=n:=by simp [rD]
 have hH:Holds (aG aF) w bw 0 (eH n λi=>(i:Int)).toArray:=by
  intro j hj;rw [hlen] at hj;refine⟨?_,hw.free _⟩;have hl:0+j<aA (eH n λi=>(i:Int)):=by rw [rD];omega
  rw [hw.cell hl];grind
 have R:Row1 (aG aF) w bw 0 (eH n λi=>(i:Int)).toArray:=⟨a3D,hH,h5⟩;have T:tD w bw 0 n 281 #[π bc] (λx y=>DI (r y.toNat) (r x.toNat)) (λz=> -(r z.toNat)) (λx=>∃m:Nat,x=m/\m<n) (eH n λi=>(i:Int)).toArray:=by
  refine⟨R,hlen,by omega,enters_of aAz (by kernel_rfl) rfl, ?_, ?_⟩
  ·rintro m os dk hdk x y ⟨xn,rfl,hx⟩ ⟨yn,rfl,hy⟩;have hg:w.grownBy (sortWorld (aG aF) w bw 0 m dk os) (aC bw):=grownBy_sortedI dk;have e1:(sortWorld (aG aF) w bw 0 m dk os).heap[bc]? =_:=(hg.block bc h3 (λe=>h1 (by injection e))).trans hc;have e2:fS (sortWorld (aG aF) w bw 0 m dk os) br 2 (eH n r):=hr.of_block (hg.block br h4 (λe=>h2 (by injection e)));refine(aIx bc br n r xn yn hx hy _ ?_ ?_).mono ?_
   ·rw [bH _ bc 0 _ 53 (0,0) e1];rfl
   ·intro i hi;rw [e2.cell (by grind [rD]),Dy]
   rintro e w' ⟨rfl,q,rfl⟩;refine⟨by grind,q, #[], ?_⟩;rw [grow_empty]
  grind [aEC]
 have RW:Rw w bw 0 n (λx=>∃m:Nat,x=m/\m<n) (eH n λi=>(i:Int)).toArray w:=⟨hlen,SW.start hH,λp hp=>⟨p,Hj n _ hp,hp⟩⟩;refine(a7U T n _ w RW hn (λp hp=>Hj n _ hp)).mono ?_;rintro e w' ⟨rfl,d',mv,hs,hR⟩;obtain⟨g',mg,Bb⟩:=aI5 mv (λp hp=>Hj n _ hp);have sg:cJ (λz=> -(r z.toNat)) g' 0 n:=λi j a b c=>by rw [Bb i (by omega),Bb j c];exact hs i j a b c
 obtain⟨who,ho,aN4⟩:=aIz mg sg;refine⟨rfl,who,ho,λt ht=> ?_, ?_⟩
 ·have:=hR.c T t ht;grind
 obtain⟨m,os,e⟩:=hR.sw;rw [e];exact grownBy_sortedI d'
end
section
open Go.Lib Go.Sort Go.Shelf Go.Proofs.YtdokipdchlcmeaaGreat.pH Go.Proofs.YtdokipdchlcmeaaGreat.ShareLaw
def wf(l:List Int):Nat->Int:=λi=>l.getD i 0
theorem Kl {l:List Int} {i:Nat}(h:i<aA l):wf l i=l[i]:=by unfold wf;simp [h]
theorem a7r(l:List Int):∀k,k<=aA l->dY (wf l) k=sumI (l.take k)
 |0,_=>by simp [dY,sumI]
 |k+1,h=>by rw [dY,a7r l k (by omega),YH (by omega),Kl (by omega)]
theorem YO(l:List Int):dY (wf l) (aA l)=sumI l:=by grind [a7r]
theorem aHz {l:List Int}(h:∀x∈l,0<=x):∀x∈l,x<=sumI l:=by
 induction l with
 |nil=>intro x hx;cases hx
 |cons a l ih=>
  have hs:0<=sumI l:=by
   have:∀m:List Int,(∀x∈m,0<=x)->0<=sumI m:=by
    intro m;induction m with
    |nil=>intro _;simp [sumI]
    |cons b m ih2=>
     intro hm;have h1:=hm b (by simp);grind [sumI]
   grind
  have ha:=h a (by simp);grind [sumI]
theorem aJn(T S:Int)(W:Nat->Int)(i:Nat)(w:aJ)(Ht:0<=T)(hT:T<=9223372036854775807)(hw0:0<=W i)(hw:W i<=S)(h0:0<S)(hS:S<=9223372036854775807):
 aQ aM 280 #[ν T,ν (W i),ν S] w λe w'=>e=aT (bB #[ν (quo T S W i),ν (lD T S W i),ν 0])/\β w w':=by
 unfold quo lD;generalize W i=u at*;obtain⟨Tn,rfl⟩:=a0B Ht;obtain⟨un,rfl⟩:=a0B hw0;obtain⟨Sn,rfl⟩:=a0B (show 0<=S by omega);grind [aJo]
structure Ap(w:aJ)(bp br bc bo n:Nat)(ps rs os:List Int)(wr:aJ):Prop where
 p:fS wr bp 2 ps
 r:fS wr br 2 rs
 c:wr.heap[bc]? =aC (aK #[aH (aC ⟨br,0,aB⟩) n n] 53 (0,0))
 o:fS wr bo 3 os
 b:β w wr
 sz:bo<wr.heap.size
 d0:w.heap.size<=bp
 d1:bp<br
 d2:br<bc
 d3:bc<bo
section
variable {w wr w':aJ} {bp br bc bo n:Nat} {ps rs os:List Int}
theorem Ap.cc(h:Ap w bp br bc bo n ps rs os wr):wr.cell? ⟨bc,0,aB⟩=aC (aH (aC ⟨br,0,aB⟩) n n):=by rw [bH _ _ 0 _ 53 (0,0) h.c];rfl
theorem Ap.below(h:Ap w bp br bc bo n ps rs os wr)(hb:aY wr.heap.size wr w'):Ap w bp br bc bo n ps rs os w':=by have s:=h.sz;have d0:=h.d0;have d1:=h.d1;have d2:=h.d2;have d3:=h.d3;exact⟨h.p.below (by omega) hb,h.r.below (by omega) hb,(hb.block _ (by omega)).trans h.c,h.o.below (by omega) hb,h.b.trans (hb.mono (by omega)),by have:=hb.size;omega,d0,d1,d2,d3⟩
theorem Ap.eV(h:Ap w bp br bc bo n ps rs os wr)(i:Nat)(v:Int):Ap w bp br bc bo n (ps.set i v) rs os (wr.setCell ⟨bp,i,aB⟩ (aG aF v)):=by have d0:=h.d0;have d1:=h.d1;have d2:=h.d2;have d3:=h.d3;exact⟨h.p.set i v,h.r.other _ (by dsimp only;omega),(Nz _ _ _ _ (by dsimp only;omega)).trans h.c,h.o.other _ (by dsimp only;omega),h.b.setCell (by dsimp only;omega) _,by rw [Yu];exact h.sz,d0,d1,d2,d3⟩
theorem Ap.aKW(h:Ap w bp br bc bo n ps rs os wr)(i:Nat)(v:Int):Ap w bp br bc bo n ps (rs.set i v) os (wr.setCell ⟨br,i,aB⟩ (aG aF v)):=by have d0:=h.d0;have d1:=h.d1;have d2:=h.d2;have d3:=h.d3;exact⟨h.p.other _ (by dsimp only;omega),h.r.set i v,(Nz _ _ _ _ (by dsimp only;omega)).trans h.c,h.o.other _ (by dsimp only;omega),h.b.setCell (by dsimp only;omega) _,by rw [Yu];exact h.sz,d0,d1,d2,d3⟩
theorem Ap.aKV(h:Ap w bp br bc bo n ps rs os wr)(i:Nat)(v:Int):Ap w bp br bc bo n ps rs (os.set i v) (wr.setCell ⟨bo,i,aB⟩ (aG aF v)):=by have d0:=h.d0;have d1:=h.d1;have d2:=h.d2;have d3:=h.d3;exact⟨h.p.other _ (by dsimp only;omega),h.r.other _ (by dsimp only;omega),(Nz _ _ _ _ (by dsimp only;omega)).trans h.c,h.o.set i v,h.b.setCell (by dsimp only;omega) _,by rw [Yu];exact h.sz,d0,d1,d2,d3⟩
theorem a6l(n:Nat):((gR n (0:Int)).map (aG aF)).toArray=lH n (aG aF 0):=by simp
theorem Ap.start(w:aJ)(n:Nat):Ap w w.heap.size (w.heap.size+1) (w.heap.size+1+1) (w.heap.size+1+1+1) n (gR n 0) (gR n 0) (gR n 0) ((((w.alloc (aK (lH n (aG aF 0)) 2)).alloc (aK (lH n (aG aF 0)) 2)).alloc (aK #[aH (aC ⟨w.heap.size+1,0,aB⟩) n n] 53)).alloc (aK (lH n (aG aF 0)) 3)):=by
 have n1:=Deep.nblk_alloc;rw [<-a6l];generalize gR n (0:Int)=zs;refine⟨?_, ?_, ?_, ?_, ?_,by grind,by omega,by omega,by omega,by omega⟩
 ·exact(((fS.new w 2 zs).alloc (by rw [n1];omega) _).alloc (by rw [n1,n1];omega) _).alloc (by grind) _
 ·have h:=fS.new (w.alloc (aK (zs.map (aG aF)).toArray 2)) 2 zs;rw [n1] at h;exact(h.alloc (by rw [n1,n1];omega) _).alloc (by grind) _
 ·grind [a8f,Deep.blk_alloc_new]
 ·grind [fS.new]
 exact((σ.alloc (by simp) _).alloc (by simp;omega) _).alloc (by simp;omega) _
structure RC(bp br bc n k b o:Nat)(x:Int)(w:aJ):Prop where
 c:w.cell? ⟨bc,0,aB⟩=aC (aH (aC ⟨br,0,aB⟩) n n)
 l:w.cell? ⟨b,o+k,aB⟩=aC (ν x)
 p:∃u,w.cell? ⟨bp,k,aB⟩=aC u
 pf:w.frozen? ⟨bp,k,aB⟩=aP
 r:∃u,w.cell? ⟨br,k,aB⟩=aC u
 rf:w.frozen? ⟨br,k,aB⟩=aP
end
theorem aL4 {f:Nat->Int} {n:Nat}(h:∀i,i<n->0<=f i):∀k,k<=n->dY f k<=dY f n:=by
 induction n with
 |zero=>grind
 |succ n ih=>
  grind [dY]
theorem mk0(n k:Nat)(g:Nat->Int)(hk:k<n):k<aA (eH n (λi=>if i<k then g i else 0)):=by grind [rD]
theorem aCm(T:Int)(l:List Int)(A:Option aj)(c:Nat)(w:aJ)(Ht:0<=T)(hT:T<=9223372036854775807)(hl:∀x∈l,0<=x)(h0:0<sumI l)(hS:sumI l<=9223372036854775807)(hn:aA l<=1024)(hs:aW w w.heap.size A (l.map (aG aF))):
 aQ aM 257 #[ν T,aH A (aA l) c,ν (sumI l)] w λe w'=>e=aT (aH (aC ⟨w.heap.size,0,aB⟩) (aA l) (aA l))/\fS w' w.heap.size 2 (eH (aA l) (ShareLaw.part T (sumI l) (wf l) (aA l)))/\β w w'/\w.heap.size<w'.heap.size:=by
 have HS:=η hs;have HL:=η hl;have GC:=η (YO l);have zE:=η (aHz hl);clear hs hl;have mk1:=XK (aA l) (by omega);have mk2:=a5T (aA l) (by omega);have Kq:=η (Ap.start w (aA l));generalize hZ:sumI l=S at*;have HZ:=η hZ;clear hZ;obtain⟨W,hW⟩:∃W,W=wf l:=⟨_,rfl⟩;have HW:=η hW;rw [<-hW] at GC ⊢;clear hW;have mL:Hid (∀i,i<aA l->0<=W i/\W i<=S):=λi hi=>by rw [HW.o,Kl hi];exact⟨HL.o _ (cH hi),zE.o _ (cH hi)⟩
 have ED:Hid (∀k,k<aA l->0<=quo T S W k/\quo T S W k<=T):=λk hk=>⟨Xq h0 Ht (mL.o k hk).1,a6i h0 Ht (mL.o k hk).2⟩
 have iv:Hid (∀k,k<=aA l->0<=dY (quo T S W) k/\dY (quo T S W) k<=T):=λk hk=>by have h9:=(aJm h0 Ht (λi hi=>(mL.o i hi).1) GC.o).2;exact⟨SA λi hi=>(ED.o i (by omega)).1,jz (aL4 (λi hi=>(ED.o i hi).1) k hk) h9⟩
 have eJ:Hid (∀k,k<aA l->ShareLaw.part T S W (aA l) k<=T):=λk hk=>aJD h0 Ht GC.o (mL.o k hk).2
 go_enter func257,ntmps257
 go_wp2_with fail
 clear mk1 mk2;rw [<-a6w (g:=quo T S W)] at Kq;obtain⟨bp,Vo⟩:∃z,z=w.heap.size:=⟨_,rfl⟩;generalize w.heap.size+1+1+1=bo at Kq ⊢;generalize w.heap.size+1+1=bc at Kq ⊢;generalize w.heap.size+1=br at Kq ⊢;go_loopw [10,11,25] (λu _ i wr=>∃k:Nat,k<=aA l/\i=ν k/\u=ν (T-dY (quo T S W) k)/\Hid (Ap w w.heap.size br bc bo (aA l) (eH (aA l) (λi=>if i<k then quo T S W i else 0)) (eH (aA l) (λi=>if i<k then lD T S W i else 0)) (eH (aA l) (λi=>if i<k then (i:Int) else 0)) wr)) (λ_ _ i _=>aA l-(af i).toNat)
 case atStart=>grind [dY]
 case round=>
  clear Kq;obtain⟨k,hk,rfl,rfl,HA⟩:=hrel;by_cases hlt:k<aA l
  ·obtain⟨b,o,rfl,hb,hc0⟩:=HS.o.at (k:=k) (by simpa using hlt);have ex:l[k]=W k:=by rw [HW.o,Kl hlt]
   have a4b:0<=W k:=by rw [<-ex];exact HL.o _ (cH hlt)
   have a4c:W k<=S:=by rw [<-ex];exact zE.o _ (cH hlt)
   rw [wk,ex] at hc0;have HQ:=λW'=>η (aJn T S W k W' Ht hT a4b a4c h0 hS)
   have jP:=η hc0;clear ex a4b a4c hc0;have HK:Hid (∀W',β wr W'->RC w.heap.size br bc (aA l) k b o (W k) W'):=by intro W' hB;have h2:=HA.o.below hB;exact⟨h2.cc,(h2.b.cell (p:=⟨b,o+k,aB⟩) hb).trans jP.o,⟨_,h2.p.cell (by grind [rD])⟩,h2.p.free k,⟨_,h2.r.cell (by grind [rD])⟩,h2.r.free k⟩
   have sX:=η (HK.o _ ((aX _ _).drew));have d1:=HA.o.d1;have d2:=HA.o.d2;have i1:(0:Int)<=(k:Int):=by omega
   have i2:(k:Int)<(aA l:Int):=by omega
   have n1:¬bc=w.heap.size:=by omega
   have n2:¬b=w.heap.size:=by omega
   have n3:¬bc=br:=by omega
   have n4:¬b=br:=by omega
   have n5:¬br=w.heap.size:=by omega
   have n6:¬w.heap.size=br:=by omega
   have n7:¬w.heap.size=bc:=by omega
   have n8:¬w.heap.size=b:=by omega
   have n9:¬br=bc:=by omega
   have n10:¬br=b:=by omega
   go_wp2_with fail
   go_region_held3 (λw'=>w'.cell? ⟨bc,0,aB⟩=aC (aH (aC ⟨br,0,aB⟩) (aA l) (aA l))/\w'.cell? ⟨b,o+k,aB⟩=aC (ν (W k))) (first|exact⟨sX.o.c,sX.o.l⟩|exact⟨lT.o.c,lT.o.l⟩|go_keep) ((go_at_call 280;refine(HQ _).o.mono ?_;rintro e w1 ⟨rfl,hb1⟩;have aR:=η (((aX wr.heap.size wr).drew).trans hb1);have lT:=η (HK.o w1 aR.o);obtain⟨u1,c1⟩:=lT.o.p;have f1:=lT.o.pf;obtain⟨u2,c2⟩:=lT.o.r;have f2:=lT.o.rf;clear hb1))
   have wL:=η (((HA.o.below aR.o).eV k (quo T S W k)).aKW k (lD T S W k));rw [Ru,Ru] at wL;generalize (w1.setCell ⟨w.heap.size,k,aB⟩ (ν (quo T S W k))).setCell ⟨br,k,aB⟩ (ν (lD T S W k))=w2 at wL ⊢;clear c1 c2 f1 f2 lT aR HK sX HQ HA n1 n2 n3 n4 n5 n6 n7 n8 n9 n10 u1 u2 i1 i2;have c3:w2.cell? ⟨w.heap.size,k,aB⟩=aC (ν (quo T S W k)):=by rw [wL.o.p.cell (by rw [rD];exact hlt),Dy,ifP (by omega)]
   have c4:w2.cell? ⟨bo,k,aB⟩=aC (ν 0):=by rw [wL.o.o.cell (by rw [rD];exact hlt),Dy,ifN (by omega)]
   have f4:=wL.o.o.free k;have d3:=wL.o.d3;have n1:¬bo=w.heap.size:=by omega
   have n2:¬w.heap.size=bo:=by omega
   have lL:=η (wL.o.aKV k (k:Int));rw [Ru (g:=λi=>(i:Int))] at lL;have hb1:=iv.o k hk;have hb2:=ED.o k hlt;have es:T-dY (quo T S W) k-quo T S W k=T-dY (quo T S W) (k+1):=by rw [dY];omega
   have HES:=η es;clear es;obtain⟨g1,g2⟩:=hb1;obtain⟨g3,g4⟩:=hb2;go_wp2_with fail
   go_roundw
   case rel=>exact⟨k+1,by omega,by go_num,by rw [<-HES.o],lL⟩
   case measure=>simp [af];omega
  obtain rfl:k=aA l:=by omega
  rw [Rt,Rt,Rt] at HA;have d0:=HA.o.d0;have d1:=HA.o.d1;have d2:=HA.o.d2;have d3:=HA.o.d3;have sz:=HA.o.sz;have HC:=η (aKl bc br bo (aA l) (lD T S W) wr (by omega) HA.o.c HA.o.r HA.o.o (by omega) (by omega) (by omega) (by omega) (by omega));go_wp2_with fail
  refine HC.o.mono ?_;rintro e w2 ⟨rfl,who,ho,hcell,hg⟩;have HO:=η ho;have J9:=η hcell;have HP:Hid (fS w2 w.heap.size 2 (eH (aA l) (partT T S W (aA l) 0))/\β w w2):=by refine⟨?_,HA.o.b.grown hg (by omega) (λk hk=>by injection hk;omega)⟩;have h1:=HA.o.p.of_block (hg.block _ (by omega) (λe=>by injection e;omega));grind [partT,Xz]
  have IK:bo<w2.heap.size:=by have:=hg.size;omega
  clear ho hcell hg HC HA;obtain⟨L,hL⟩:∃L,L=left T S W (aA l):=⟨_,rfl⟩;have BA:=η (NK (T:=T) (S:=S) (W:=W) (n:=aA l) h0 GC.o);have TR:=η (a5J (T:=T) (S:=S) (W:=W) (n:=aA l) h0 GC.o);have eL:T-dY (quo T S W) (aA l)=L:=by rw [hL];rfl
  have hL0:0<=L:=by rw [hL];exact BA.o.1
  have hLn:L<=(aA l:Int):=by rw [hL];exact TR.o
  have CU:=η hL;rw [eL];clear hL eL;go_wp2_with fail
  go_loopw [12,60] (λ_ i wr=>∃t:Nat,(t:Int)<=L/\i=ν t/\bo<wr.heap.size/\Hid (∀t,t<aA l->wr.cell? ⟨bo,t,aB⟩=aC (ν (who t:Int)))/\Hid (fS wr w.heap.size 2 (eH (aA l) (partT T S W (aA l) t))/\β w wr)) (λ_ i _=>aA l-(af i).toNat)
  case atStart=>exact⟨0,hL0,rfl,IK,J9,HP⟩
  case round=>
   clear J9 HP IK;obtain⟨t,ht,rfl,IK,J9,HP⟩:=hrel;by_cases hlt:(t:Int)<L
   ·have N5:t<aA l:=by omega
    obtain⟨j,hj⟩:∃j,j=who t:=⟨_,rfl⟩;have WK:j<aA l:=by rw [hj];exact(HO.o t N5).1
    have WL:rk (lD T S W) (aA l) j=t:=by rw [hj];exact(HO.o t N5).2
    have cw:=J9.o t N5;rw [<-hj] at cw;have cp:=HP.o.1.cell (i:=j) (by rw [rD];exact WK);have fp:=HP.o.1.free j;have e0:partT T S W (aA l) t j=quo T S W j:=by grind [partT]
    rw [Dy,e0] at cp;have bP:0<=quo T S W j/\quo T S W j<=T-1:=by refine⟨(ED.o j WK).1, ?_⟩;have h7:=eJ.o j WK;unfold ShareLaw.part partT at h7;rw [ifP (by rw [WL,<-CU.o];omega)] at h7;omega
    obtain⟨g1,g2⟩:=bP;have mj:Hid (fS (wr.setCell ⟨w.heap.size,j,aB⟩ (ν (quo T S W j+1))) w.heap.size 2 (eH (aA l) (partT T S W (aA l) (t+1)))/\β w (wr.setCell ⟨w.heap.size,j,aB⟩ (ν (quo T S W j+1)))):=by
     refine⟨?_,HP.o.2.setCell (by simp) _⟩;have h7:=HP.o.1.set j (quo T S W j+1);have e1:(eH (aA l) (partT T S W (aA l) t)).set j (quo T S W j+1)=eH (aA l) (partT T S W (aA l) (t+1)):=by
      rw [a6v];refine Xz λi hi=> ?_
      grind [partT,Xw]
     rw [e1] at h7;exact h7
    have kN:Hid (∀t,t<aA l->(wr.setCell ⟨w.heap.size,j,aB⟩ (ν (quo T S W j+1))).cell? ⟨bo,t,aB⟩=aC (ν (who t:Int))):=by intro t' AH;rw [gu (w:=wr) (Nz wr _ _ bo (by dsimp only;omega))];exact J9.o t' AH
    have HJ:=η hj;have HJR:=η WL;clear hj WL e0 J9 HP;go_wp2_with fail
    go_roundw
    case rel=>exact⟨t+1,by omega,by go_num,by simpa using IK,kN,mj⟩
    case measure=>simp [af];omega
   have e:(L.toNat:Nat)=t:=by omega
   have ot:Hid (fS wr w.heap.size 2 (eH (aA l) (ShareLaw.part T S W (aA l)))/\β w wr):=by refine⟨?_,HP.o.2⟩;have h7:=HP.o.1;rw [<-e,CU.o] at h7;exact h7
   go_wp2_with fail
   go_ret;exact⟨rfl,ot.o.1,ot.o.2,by omega⟩
end
section
open Go.Lib Go.Sort Go.Shelf Go.Proofs.YtdokipdchlcmeaaGreat.pH Go.Proofs.YtdokipdchlcmeaaGreat.ShareLaw
def xw(w:aJ)(xs:List Int)(err:Int):dU->aJ->Prop:=λe w'=>∃A c,e=aT (bB #[aH A (aA xs) c,aG aF err])/\aW w' w'.heap.size A (xs.map (aG aF))/\aY w.heap.size w w'
theorem xw.nil(w:aJ)(err:Int)(w':aJ)(h:aY w.heap.size w w'):xw w [] err (aT (bB #[aH aB 0 0,aG aF err])) w':=⟨aB,0,rfl,aW.nil,h⟩
def vL(T:Int)(l:List Int):Int:=if iL T l≠0 then iL T l else if T=0 then 0 else if sumI l=0 then 17 else 0
def uO(T:Int)(l:List Int):List Int:=if iL T l≠0 then [] else if T=0 then gR (aA l) 0 else if sumI l=0 then [] else eH (aA l) (ShareLaw.part T (sumI l) (wf l) (aA l))
structure Fit(T:Int)(l:List Int):Prop where
 len:aA l<=1024
 pos:0<=T
 all:∀x∈l,0<=x
 amt:aL (sumI l)
 val:xF T l=sumI l
theorem a1d {x:Int}(h:dC x=0):aL x:=by grind [dC]
theorem Q4 {T:Int} {l:List Int}(h:iL T l=0):Fit T l:=by
 unfold iL at h;by_cases h1:1024<aA l
 ·omega
 rw [ifN h1] at h;by_cases h2:T<0\/xZ l=aO
 ·grind
 rw [ifN h2] at h;have hI:=a1d h;refine⟨by omega,by omega,aIE (by grind),hI, ?_⟩;grind [xF,eA]
theorem a7w {l:List Int}(h:∀x∈l,0<=x):0<=sumI l:=by
 rw [<-YO];refine SA λi hi=> ?_
 grind [Kl,cH]
theorem aKT(w:aJ)(n:Nat):aW (w.alloc (aK (lH n (aG aF 0)) 2)) (w.alloc (aK (lH n (aG aF 0)) 2)).heap.size (aC ⟨w.heap.size,0,aB⟩) ((gR n (0:Int)).map (aG aF)):=by have h:=fS.new w 2 (gR n 0);rw [a6l] at h;exact h.dt (by simp)
theorem a8a(T:Int)(l:List Int)(A:Option aj)(c:Nat)(w:aJ)(hT:aL T)(hl:∀x∈l,aL x)(hs:aW w w.heap.size A (l.map (aG aF)))(hn:aA l<=bM):
 aQ aM 228 #[ν T,aH A (aA l) c] w (xw w (uO T l) (vL T l)):=by
 have HC:=η (a2E T l A c w hl hs hn);by_cases h1:iL T l=0
 ·have F:=Q4 h1;by_cases h2:T=0
  ·have e1:vL T l=0:=by grind [vL]
   have e2:uO T l=gR (aA l) 0:=by grind [uO]
   rw [e1,e2];rw [h1,F.val] at HC;have mk:=XK (aA l) (by have:=F.len;omega);have uX:(T==0)=aO:=by simpa using h2
   have h2n:T=0:=h2;subst h2;clear F e1 e2 h1 uX h2n hl hs hT;generalize sumI l=S at*;go_enter UX,Ue
   go_wp2_with fail
   refine HC.o.mono ?_;rintro e w1 ⟨rfl,hb1⟩;have HB:=η hb1;clear hb1;go_wp2_with fail
   go_ret2;refine⟨aC ⟨w1.heap.size,0,aB⟩,aA l,by rw [Cs];rfl,aKT w1 (aA l),HB.o.alloc HB.o.size _⟩
  by_cases h3:sumI l=0
  ·have e1:vL T l=17:=by grind [vL]
   have e2:uO T l= []:=by grind [uO]
   rw [e1,e2];rw [h1,F.val,h3] at HC;have uX:(T==0)=aP:=by simpa using h2
   clear F e1 e2 h1 h2 h3 hl hs hT;go_enter UX,Ue
   go_wp2_with fail
   refine HC.o.mono ?_;rintro e w1 ⟨rfl,hb1⟩;have HB:=η hb1;clear hb1;go_wp2_with fail
   go_ret2;exact xw.nil _ _ _ HB.o
  have e1:vL T l=0:=by grind [vL]
  have e2:uO T l=eH (aA l) (ShareLaw.part T (sumI l) (wf l) (aA l)):=by grind [uO]
  rw [e1,e2];rw [h1,F.val] at HC;have h0:=a7w F.all;have hI:=F.amt;have hTT:=hT;unfold aL at hI hTT;have HD:Hid (∀W,β w W->aQ aM 257 #[ν T,aH A (aA l) c,ν (sumI l)] W λe w'=>e=aT (aH (aC ⟨W.heap.size,0,aB⟩) (aA l) (aA l))/\fS w' W.heap.size 2 (eH (aA l) (ShareLaw.part T (sumI l) (wf l) (aA l)))/\β W w'/\W.heap.size<w'.heap.size):=λW hW=>
   aCm T l A c W F.pos (by omega) F.all (by omega) (by omega) F.len ((hs.below hW).mono hW.size)
  have uX:(T==0)=aP:=by simpa using h2
  have Hm:(sumI l==0)=aP:=by simpa using h3
  clear F e1 e2 h1 h2 h3 hl hs hT h0 hI hTT;generalize sumI l=S at*;go_enter UX,Ue
  go_wp2_with fail
  refine HC.o.mono ?_;rintro e w1 ⟨rfl,hb1⟩;have HB:=η hb1;clear hb1;go_wp2_with fail
  refine(HD.o _ HB.o).mono ?_;rintro e w2 ⟨rfl,hr,hb2,hlt⟩;have HR:=η hr;have aV:=τ HB hb2;clear hr hb2;go_wp2_with fail
  go_ret2;exact⟨aC ⟨w1.heap.size,0,aB⟩,aA l,by rw [rD];rfl,HR.o.dt hlt,aV.o⟩
 have e1:vL T l=iL T l:=by grind [vL]
 have e2:uO T l= []:=by grind [uO]
 rw [e1,e2];have uW:(iL T l==0)=aP:=by simpa using h1
 have h1n:(iL T l !=0)=aO:=by simpa using h1
 clear e1 e2 h1 hl hs hT;generalize iL T l=E at*;generalize xF T l=V at*;go_enter UX,Ue
 go_wp2_with fail
 refine HC.o.mono ?_;rintro e w1 ⟨rfl,hb1⟩;have HB:=η hb1;clear hb1;go_wp2_with fail
 go_ret2;exact xw.nil _ _ _ HB.o
def zX(T:Int)(l:List Int):Int:=if iL T l≠0 then iL T l else if sumI l<=T then 0 else vL T l
def dN(T:Int)(l:List Int):List Int:=if iL T l≠0 then [] else if sumI l<=T then l else uO T l
def Sg(l:List Int)(w:aJ):dU->aJ->Prop:=λe w'=>∃A c,e=aT (aH A (aA l) c)/\aW w' w'.heap.size A (l.map (aG aF))/\aY w.heap.size w w'
theorem aDz(l:List Int)(A:Option aj)(c:Nat)(w:aJ)(hn:aA l<=1000000)(hs:aW w w.heap.size A (l.map (aG aF))):
 aQ aM 158 #[aH A (aA l) c] w (Sg l w):=by
 have inf:(aM.info? 2).map (λi=>(i.zero,i.size,i.bytes))=aC (aC (ν 0),1,8):=by kernel_rfl
 obtain⟨i0,hi,hz0,hz1,hz2⟩:=dJ inf;cases A with
 |none=>
  have e:l= []:=by
   cases l with
   |nil=>rfl
   |cons a l=>
    obtain⟨b,o,h,_⟩:=hs 0 (ν a) (by simp);cases h
  subst e;refine(by first|exact slices_Clone_int_nil 0 c w|exact slices_Clone_nil_f158 0 c w|exact slices_Clone_nil 0 c w:aQ aM 158 #[aH aB 0 c] w _).mono ?_;rintro e w' ⟨rfl,rfl⟩;exact⟨aB,0,rfl,aW.nil,aX _ _⟩
 |some a=>
  have hnews:∀(o:Obj) j u,(l.map (aG aF))[j]? =aC u->(w.alloc o).cell? (a.add j)=aC u:=λob j u hu=>by obtain⟨b,o,e,hb,hc⟩:=hs j u hu;grind [Addr.add,BQ]
  have KH:∀u∈l.map (aG aF),u.oneCell'=aO:=λu hu=>by obtain⟨y,_,rfl⟩:=df.1 hu;rfl
  have HN:=η hnews;have H1:=η KH;clear hnews KH hs;have q22:∀(w:aJ) (a:Option aj) (n c n' c':Nat),(binOp .eql 53 (aH a n c) (aH aB n' c')).run aM w= .ok (bJ a.isNone) w:=λw a n c n' c'=>Lib.run_eql_slice_nil w _ _ a n c n' c' mP
  go_enter func158,ntmps158
  go_wp2_with (at_builtin;refine iZ _ rfl _ _ 53 rfl w.heap.size 2 i0 (ν 0) 1 8 mP hi hz0 hz1 hz2 rfl (by decide) _ _ _ rfl (World.ownsRow_made w #[] 0 (aa _) (bK _) rfl) a (aA l) c (l.map (aG aF)) rfl (by simp) (HN.o _) H1.o (by simp only [bM];omega) (by omega) (by simp) ?_)
  intro v' w1 hown hgrow _;have HO:=η hown;have HG:=η hgrow;clear hown hgrow;go_wp2
  go_ret;have hO:w1.ownsRow w.heap.size 2 1 v' (aA l) (l.map (aG aF)):=by simpa using HO.o
  obtain⟨A1,c1,rfl⟩:=bL hO;exact⟨A1,c1,rfl,aW.cA hO,((aX _ w).alloc (aa _) _).grown HG.o (by simp) (by grind [dy])⟩
theorem Yg(T:Int)(l:List Int)(A:Option aj)(c:Nat)(w:aJ)(hT:aL T)(hl:∀x∈l,aL x)(hs:aW w w.heap.size A (l.map (aG aF)))(hn:aA l<=bM):
 aQ aM 194 #[ν T,aH A (aA l) c] w (xw w (dN T l) (zX T l)):=by
 have HC:=η (a2E T l A c w hl hs hn);by_cases h1:iL T l=0
 ·have F:=Q4 h1;have hlen:=F.len;by_cases h2:sumI l<=T
  ·have e1:zX T l=0:=by grind [zX]
   have e2:dN T l=l:=by grind [dN]
   rw [e1,e2];rw [h1,F.val] at HC;have HD:Hid (∀W,β w W->aQ aM 158 #[aH A (aA l) c] W (Sg l W)):=λW hW=>aDz l A c W (by omega) ((hs.below hW).mono hW.size)
   clear F e1 e2 h1 hl hs hT;generalize sumI l=S at*;go_enter a0c,a0w
   go_wp2_with fail
   refine HC.o.mono ?_;rintro e w1 ⟨rfl,hb1⟩;have HB:=η hb1;clear hb1;go_wp2_with fail
   refine(HD.o _ HB.o).mono ?_;rintro e w2 ⟨A2,c2,rfl,hs2,hb2⟩;have cM:=η hs2;have aV:=τ HB hb2;clear hs2 hb2;go_wp2_with fail
   go_ret2;exact⟨A2,c2,rfl,cM.o,aV.o⟩
  have e1:zX T l=vL T l:=by grind [zX]
  have e2:dN T l=uO T l:=by grind [dN]
  rw [e1,e2];rw [h1,F.val] at HC;have HD:Hid (∀W,β w W->aQ aM 228 #[ν T,aH A (aA l) c] W (xw W (uO T l) (vL T l))):=λW hW=>a8a T l A c W hT hl ((hs.below hW).mono hW.size) hn
  clear F e1 e2 h1 hl hs hT;generalize sumI l=S at*;generalize uO T l=zs at*;generalize vL T l=E at*;go_enter a0c,a0w
  go_wp2_with fail
  refine HC.o.mono ?_;rintro e w1 ⟨rfl,hb1⟩;have HB:=η hb1;clear hb1;go_wp2_with fail
  refine(HD.o _ HB.o).mono ?_;rintro e w2 ⟨A2,c2,rfl,hs2,hb2⟩;have cM:=η hs2;have aV:=τ HB hb2;clear hs2 hb2;go_wp2_with fail
  go_ret2;exact⟨A2,c2,rfl,cM.o,aV.o⟩
 have e1:zX T l=iL T l:=by grind [zX]
 have e2:dN T l= []:=by grind [dN]
 rw [e1,e2];have uW:(iL T l==0)=aP:=by simpa using h1
 have h1n:(iL T l !=0)=aO:=by simpa using h1
 clear e1 e2 h1 hl hs hT;generalize iL T l=E at*;generalize xF T l=V at*;go_enter a0c,a0w
 go_wp2_with fail
 refine HC.o.mono ?_;rintro e w1 ⟨rfl,hb1⟩;have HB:=η hb1;clear hb1;go_wp2_with fail
 go_ret2;exact xw.nil _ _ _ HB.o
def fitB:List Int->List Int->Bool
 | [],[]=>aO
 |c::cs,p::ps=>decide (0<=p)&&decide (p<=c)&&fitB cs ps
 |_,_=>aP
def oN(cs ps:List Int):List Int:=if fitB cs ps then kR (· - ·) cs ps else []
def AO(cs ps:List Int):Int:=if fitB cs ps then 0 else 1
theorem a3L:∀ {cs ps:List Int},fitB cs ps=aO->aA cs=aA ps
 | [],[],_=>rfl
 |c::cs,p::ps,h=>by simp only [fitB,je] at h;simp [a3L h.2]
 | [],_::_,h=>by simp [fitB] at h
 |_::_,[],h=>by simp [fitB] at h
theorem Q3:∀ {cs ps:List Int},aA cs=aA ps->(fitB cs ps=aO↔∀i (h:i<aA cs) (h':i<aA ps),0<=ps[i]/\ps[i]<=cs[i])
 | [],[],_=>by simp [fitB]
 |c::cs,p::ps,e=>by
  have ih:=Q3 (cs:=cs) (ps:=ps) (by simpa using e);simp only [fitB,je,decide_eq_true_eq,ih];constructor
  ·rintro⟨h1,h2⟩ i h h';cases i with
   |zero=>exact h1
   |succ i=>grind
  intro h;exact⟨h 0 (by simp) (by simp),λi h1 h2=>h (i+1) (by simpa using h1) (by simpa using h2)⟩
 | [],_::_,e=>by simp at e
 |_::_,[],e=>by simp at e
theorem a3M {cs ps:List Int} {i:Nat}(e:aA cs=aA ps)(h:i<aA cs)(h':i<aA ps)(hn:¬(0<=ps[i]/\ps[i]<=cs[i])):fitB cs ps=aP:=by grind [Q3]
theorem aME {cs ps:List Int} {k:Nat}(h:k<aA cs)(h':k<aA ps):kR (· - ·) (cs.take (k+1)) (ps.take (k+1))=kR (· - ·) (cs.take k) (ps.take k)++ [cs[k]-ps[k]]:=by rw [fF h,fF h',List.zipWith_append (by simp;omega)];rfl
theorem aA3(cs ps:List Int)(A A':Option aj)(c c':Nat)(w:aJ)(hcs:∀x∈cs,aL x)(hs:aW w w.heap.size A (cs.map (aG aF)))(hs':aW w w.heap.size A' (ps.map (aG aF)))(hn:aA cs<=1000000):
 aQ aM 195 #[aH A (aA cs) c,aH A' (aA ps) c'] w (xw w (oN cs ps) (AO cs ps)):=by
 by_cases hlen:aA cs=aA ps
 ·have inf:(aM.info? 2).map (λi=>(i.zero,i.size,i.bytes))=aC (aC (ν 0),1,8):=by kernel_rfl
  obtain⟨i0,bu,hz0,hz1,hz2⟩:=dJ inf;have HS:=η hs;have Tm:=η hs';have HI:=η hcs;have HLEN:=η hlen;rw [<-hlen];clear hs hs' hcs hlen;go_enter aAp,aBc
  go_wp2_with fail
  go_loopw [6,7,8,16] (λu _ _ i wr=>∃k:Nat,k<=aA cs/\i=ν k/\Hid (∀i (h:i<aA cs) (h':i<aA ps),i<k->0<=ps[i]/\ps[i]<=cs[i])/\Hid (wr.ownsRow w.heap.size 2 1 u (aA (kR (· - ·) (cs.take k) (ps.take k))) ((kR (· - ·) (cs.take k) (ps.take k)).map (aG aF)))/\Hid (β w wr)) (λ_ _ _ i _=>aA cs-(af i).toNat)
  case atStart=>exact⟨0,bK _,rfl,λi _ _ h=>by omega,⟨by simp,aS ⟨rfl,rfl⟩⟩,aX _ _⟩
  case round=>
   obtain⟨k,hk,rfl,HP,HO,HB⟩:=hrel;have hsz:=HB.o.size;by_cases hlt:k<aA cs
   ·have yc:k<aA ps:=by have:=HLEN.o;omega
    obtain⟨b,o,rfl,hb,hc⟩:=(HS.o.below HB.o).at (k:=k) (by simpa using hlt);obtain⟨b',o',rfl,hb',hc'⟩:=(Tm.o.below HB.o).at (k:=k) (by simpa using yc);rw [wk] at hc hc';have hI:=HI.o cs[k] (cH hlt);unfold aL at hI;obtain⟨DV,hI2⟩:=hI;by_cases hx:ps[k]<0
    ·have HF:=η (a3M HLEN.o hlt yc (by omega));go_wp2_with fail
     go_ret2;have e1:oN cs ps= []:=by unfold oN;rw [HF.o];rfl
     have e2:AO cs ps=1:=by unfold AO;rw [HF.o];rfl
     rw [e1,e2];exact xw.nil _ _ _ HB.o
    by_cases hy:cs[k]<ps[k]
    ·have HF:=η (a3M HLEN.o hlt yc (by omega));go_wp2_with fail
     go_ret2;have e1:oN cs ps= []:=by unfold oN;rw [HF.o];rfl
     have e2:AO cs ps=1:=by unfold AO;rw [HF.o];rfl
     rw [e1,e2];exact xw.nil _ _ _ HB.o
    have mj:Hid (∀i (h:i<aA cs) (h':i<aA ps),i<k+1->0<=ps[i]/\ps[i]<=cs[i]):=by
     intro i h h' hik;by_cases e:i=k
     ·subst e;omega
     exact HP.o i h h' (by omega)
    have HF:=η (aME hlt yc);have hzl:aA (kR (· - ·) (cs.take k) (ps.take k))<=k:=by grind
    generalize kR (· - ·) (cs.take k) (ps.take k)=ys at*;go_wp2_with (at_builtin;refine iZ _ rfl _ _ 53 rfl w.heap.size 2 i0 _ 1 8 mP bu hz0 hz1 hz2 rfl (by decide) _ (aA ys) (ys.map (aG aF)) rfl (HO.o.alloc _) ⟨wr.heap.size,0,aB⟩ 1 1 [ν (cs[k]-ps[k])] rfl rfl (dK _ _ #[_] (by simp)) xh (by simp only [bM];omega) (by omega) (by simp;omega) ?_)
    intro v' w4 hown1 dG _;have dP:Hid (w4.ownsRow w.heap.size 2 1 v' (aA (kR (· - ·) (cs.take (k+1)) (ps.take (k+1)))) ((kR (· - ·) (cs.take (k+1)) (ps.take (k+1))).map (aG aF))):=by show kB _ _ _ _ _ _ _;rw [HF.o,dZ,cN,uM];exact hown1
    have pg:Hid (β w w4):=(HB.o.alloc hsz _).grown dG (by simp;omega) (λj hj=>eF HO.o j hj);clear hown1 dG;go_wp2_with fail
    go_roundw
    case rel=>grind
    case measure=>simp [af];omega
   obtain rfl:k=aA cs:=by omega
   have HF:=η ((Q3 HLEN.o).2 λi h h'=>HP.o i h h' h);have hO:=HO.o;have e9:ps.take (aA cs)=ps:=by rw [HLEN.o,cT]
   rw [cT,e9] at hO;have e1:oN cs ps=kR (· - ·) cs ps:=by unfold oN;rw [HF.o];rfl
   have e2:AO cs ps=0:=by unfold AO;rw [HF.o];rfl
   generalize kR (· - ·) cs ps=zs at hO e1;obtain⟨A1,c1,rfl⟩:=bL hO;have qX:=η (aW.cA hO);have xz:=η e1;have mh:=η e2;clear hO e1 e2 e9;go_wp2_with fail
   go_ret2;rw [xz.o,mh.o];exact⟨A1,c1,rfl,qX.o,HB.o⟩
 have e0:fitB cs ps=aP:=by grind [a3L]
 have e1:oN cs ps= []:=by grind [oN]
 have e2:AO cs ps=1:=by grind [AO]
 rw [e1,e2];clear e0 e1 e2 hs hs' hcs;have h9:((aA cs:Int) !=(aA ps:Int))=aO:=by simp;omega
 have h8:(aA cs==aA ps)=aP:=by simpa using hlen
 go_enter aAp,aBc
 go_wp2_with fail
 go_ret2;exact xw.nil _ _ _ (aX _ _)
end
def Eo(x:ak):Bool:=decide (aA x.ms<=20)&&(decide (aA x.ss<=20)&&decide (aA x.cy<=20))
theorem aFU(x:ak)(w:aJ)(hm:aA x.ms<=bM)(hs:aA x.ss<=bM)(hc:aA x.cy<=bM):
 aQ aM 22 #[x.val] w λe w'=>e=aT (bJ (Eo x))/\β w w':=by
 have aZ:=η (mQ w x);have HF:=η (show Eo x=(decide (aA x.ms<=20)&&(decide (aA x.ss<=20)&&decide (aA x.cy<=20))) from rfl);unfold bM at hm hs hc;generalize Eo x=fb at*;unfold ak.val at*;by_cases h1:aA x.ms<=20
 ·by_cases h2:aA x.ss<=20
  ·by_cases h3:aA x.cy<=20
   ·have HG:Hid (aO=fb):=by grind
    go_enter UU,Uc
    go_wp2
    go_ret;exact⟨fQ (by rw [<-HG.o];simp;omega),aZ⟩
   have HG:Hid (aP=fb):=by grind
   go_enter UU,Uc
   go_wp2
   go_ret;exact⟨fQ (by rw [<-HG.o];simp;omega),aZ⟩
  have HG:Hid (aP=fb):=by grind
  go_enter UU,Uc
  go_wp2
  go_ret;exact⟨fQ HG,aZ⟩
 have HG:Hid (aP=fb):=by grind
 go_enter UU,Uc
 go_wp2
 go_ret;exact⟨fQ HG,aZ⟩
theorem XS(n a b:Int)(w:aJ)(h:a<=n)(h':n<=b):aQ aM 45 #[aG aF n,aG aF a,aG aF b] w λe w'=>e=aT (aG aF n)/\w=w':=by
 go_enter func45,ntmps45
 go_wp2
 go_ret;refine⟨cj ?_,rfl⟩;omega
section
theorem lu {w:aJ} {g:Nat} {cs:Array aN} {t:bY}(h:w.heap[g]? =aC (aK cs t (0,0)))(i:Nat)(u:aN):(w.setCell ⟨g,i,aB⟩ u).heap[g]? =aC (aK (cs.setIfInBounds i u) t (0,0)):=by simp [Ee,Array.getElem?_modify,h]
theorem kK {w:aJ} {base:Nat} {e:bY} {size n:Nat} {v:aN} {xs:List aN}(h:w.ownsRow base e size v n xs) {p:aj}(hp:v.ownBlock≠aC p.block)(u:aN):(w.setCell p u).ownsRow base e size v n xs:=by have hg:w.grownBy (w.setCell p u) (aC p.block):=⟨rfl,rfl,rfl,by simp [Ee],λi _ hi=>nK _ _ _ _ (λe=>hi (by rw [e]))⟩;exact h.kept hg (Or.inr hp)
theorem Ib {w:aJ} {base base':Nat} {e e':bY} {size size' n n':Nat} {v v':aN} {xs xs':List aN}(h:w.ownsRow base e size v n xs)(h':w.ownsRow base' e' size' v' n' xs')(hne:e≠e'):v.ownBlock=aB\/v.ownBlock≠v'.ownBlock:=by
 rcases h.2 with⟨rfl,_⟩|⟨g,cap,cur,rfl,_,hh,_⟩
 ·left;rfl
 right;rcases h'.2 with⟨rfl,_⟩|⟨g',cap',cur',rfl,_,Hz,_⟩
 ·simp [dy]
 intro he;have e2:g=g':=by simpa [dy] using he
 subst e2;rw [hh] at Hz;injection Hz with Hz;injection Hz with _ ht;exact hne ht
structure ik(w wr:aJ)(v0 v1 v2:aN)(ms ss:List Pr)(cy:List Cy):Prop where
 box:wr.heap[w.heap.size+1]? =aC (aK #[v0,v1,v2,ν 500,ν 200,ν 1,ν 64,ν 32] 26 (0,0))
 res:wr.heap[w.heap.size]? =aC (aK #[aH aB 0 0,aH aB 0 0,aH aB 0 0,ν 0,ν 0,ν 0,ν 0,ν 0] 26 (0,0))
 o0:wr.ownsRow (w.heap.size+2) 67 2 v0 (aA ms) (gp ms)
 o1:wr.ownsRow (w.heap.size+2) 69 2 v1 (aA ss) (gp ss)
 o2:wr.ownsRow (w.heap.size+2) 71 4 v2 (aA cy) (uS cy)
 xE:β w wr
section
variable {w wr w4:aJ} {v0 v1 v2 v':aN} {ms ss:List Pr} {cy:List Cy} {o:Obj}
theorem ik.lt(h:ik w wr v0 v1 v2 ms ss cy):w.heap.size+1<wr.heap.size:=(fX.1 h.box).1
theorem ik.c(h:ik w wr v0 v1 v2 ms ss cy)(j:Nat):wr.cell? ⟨w.heap.size+1,j,aB⟩=(#[v0,v1,v2,aG aF 500,aG aF 200,aG aF 1,aG aF 64,aG aF 32]:Array aN)[j]? :=bH _ _ _ _ _ (0,0) h.box
theorem ik.f(h:ik w wr v0 v1 v2 ms ss cy)(j:Nat):wr.frozen? ⟨w.heap.size+1,j,aB⟩=aP:=Jy _ _ _ _ _ h.box
theorem ik.r(h:ik w wr v0 v1 v2 ms ss cy)(j:Nat):wr.cell? ⟨w.heap.size,j,aB⟩=(#[aH aB 0 0,aH aB 0 0,aH aB 0 0,aG aF 0,aG aF 0,aG aF 0,aG aF 0,aG aF 0]:Array aN)[j]? :=bH _ _ _ _ _ (0,0) h.res
theorem ik.rf(h:ik w wr v0 v1 v2 ms ss cy)(j:Nat):wr.frozen? ⟨w.heap.size,j,aB⟩=aP:=Jy _ _ _ _ _ h.res
theorem far {base:Nat} {e:bY} {size n:Nat} {v:aN} {xs:List aN}(h:w.ownsRow base e size v n xs) {g:Nat}(hg:g<base):v.ownBlock≠aC g:=λe=>by have:=(h.lt _ e).1;omega
theorem Dq {base:Nat} {e:bY} {size n:Nat} {v:aN} {xs:List aN}(h:wr.ownsRow base e size v n xs)(hg:(wr.alloc o).grownBy w4 v.ownBlock) {g:Nat}(hb:g<base)(hl:g<wr.heap.size):w4.heap[g]? =wr.heap[g]? :=
 (hg.block g (by simp;omega) (λe=>far h hb e.symm)).trans (fG _ _ hl)
theorem ik.m(h:ik w wr v0 v1 v2 ms ss cy) {y:Pr}(hown:w4.ownsRow (w.heap.size+2) 67 2 v' (aA ms+1) (gp ms++y.cells))(hg:(wr.alloc o).grownBy w4 v0.ownBlock):ik w (w4.setCell ⟨w.heap.size+1,0,aB⟩ v') v' v1 v2 (ms++ [y]) ss cy:=by
 have hlt:=h.lt;have hsz:=h.xE.size;refine⟨?_, ?_,by rw [show aA (ms++ [y])=aA ms+1 by simp,show gp (ms++ [y])=gp ms++y.cells by simp [gp]];exact kK hown (far hown (by simp)) _,kK ((h.o1.alloc o).kept hg (Ib h.o1 h.o0 (by decide))) (far h.o1 (by simp)) _,kK ((h.o2.alloc o).kept hg (Ib h.o2 h.o0 (by decide))) (far h.o2 (by simp)) _, ?_⟩
 ·rw [lu ((Dq h.o0 hg (by omega) hlt).trans h.box)];rfl
 ·rw [nK _ _ _ _ (by simp)];exact(Dq h.o0 hg (by omega) (by omega)).trans h.res
 exact((h.xE.alloc hsz o).grown hg (by simp;omega) (λj hj=>bz (by omega) (eF h.o0 j hj))).setCell (by simp) _
theorem ik.m0(h:ik w wr v0 v1 v2 ms ss cy)(hg:(wr.alloc o).grownBy w4 v0.ownBlock):w4.cell? ⟨w.heap.size+1,0,aB⟩=aC v0/\w4.frozen? ⟨w.heap.size+1,0,aB⟩=aP/\w.heap.size+1<w4.heap.size:=
 have hb:=(Dq h.o0 hg (by omega) h.lt).trans h.box
 ⟨ρ hb,Jy _ _ _ _ _ hb,(fX.1 hb).1⟩
theorem ik.s(h:ik w wr v0 v1 v2 ms ss cy) {y:Pr}(hown:w4.ownsRow (w.heap.size+2) 69 2 v' (aA ss+1) (gp ss++y.cells))(hg:(wr.alloc o).grownBy w4 v1.ownBlock):ik w (w4.setCell ⟨w.heap.size+1,1,aB⟩ v') v0 v' v2 ms (ss++ [y]) cy:=by
 have hlt:=h.lt;have hsz:=h.xE.size;refine⟨?_, ?_,kK ((h.o0.alloc o).kept hg (Ib h.o0 h.o1 (by decide))) (far h.o0 (by simp)) _,by rw [show aA (ss++ [y])=aA ss+1 by simp,show gp (ss++ [y])=gp ss++y.cells by simp [gp]];exact kK hown (far hown (by simp)) _,kK ((h.o2.alloc o).kept hg (Ib h.o2 h.o1 (by decide))) (far h.o2 (by simp)) _, ?_⟩
 ·rw [lu ((Dq h.o1 hg (by omega) hlt).trans h.box)];rfl
 ·rw [nK _ _ _ _ (by simp)];exact(Dq h.o1 hg (by omega) (by omega)).trans h.res
 exact((h.xE.alloc hsz o).grown hg (by simp;omega) (λj hj=>bz (by omega) (eF h.o1 j hj))).setCell (by simp) _
theorem ik.s0(h:ik w wr v0 v1 v2 ms ss cy)(hg:(wr.alloc o).grownBy w4 v1.ownBlock):w4.cell? ⟨w.heap.size+1,1,aB⟩=aC v1/\w4.frozen? ⟨w.heap.size+1,1,aB⟩=aP/\w.heap.size+1<w4.heap.size:=
 have hb:=(Dq h.o1 hg (by omega) h.lt).trans h.box
 ⟨ρ hb,Jy _ _ _ _ _ hb,(fX.1 hb).1⟩
theorem ik.y(h:ik w wr v0 v1 v2 ms ss cy) {y:Cy}(hown:w4.ownsRow (w.heap.size+2) 71 4 v' (aA cy+1) (uS cy++y.cells))(hg:(wr.alloc o).grownBy w4 v2.ownBlock):ik w (w4.setCell ⟨w.heap.size+1,2,aB⟩ v') v0 v1 v' ms ss (cy++ [y]):=by
 have hlt:=h.lt;have hsz:=h.xE.size;refine⟨?_, ?_,kK ((h.o0.alloc o).kept hg (Ib h.o0 h.o2 (by decide))) (far h.o0 (by simp)) _,kK ((h.o1.alloc o).kept hg (Ib h.o1 h.o2 (by decide))) (far h.o1 (by simp)) _,by rw [show aA (cy++ [y])=aA cy+1 by simp,show uS (cy++ [y])=uS cy++y.cells by simp [uS]];exact kK hown (far hown (by simp)) _, ?_⟩
 ·rw [lu ((Dq h.o2 hg (by omega) hlt).trans h.box)];rfl
 ·rw [nK _ _ _ _ (by simp)];exact(Dq h.o2 hg (by omega) (by omega)).trans h.res
 exact((h.xE.alloc hsz o).grown hg (by simp;omega) (λj hj=>bz (by omega) (eF h.o2 j hj))).setCell (by simp) _
theorem ik.y0(h:ik w wr v0 v1 v2 ms ss cy)(hg:(wr.alloc o).grownBy w4 v2.ownBlock):w4.cell? ⟨w.heap.size+1,2,aB⟩=aC v2/\w4.frozen? ⟨w.heap.size+1,2,aB⟩=aP/\w.heap.size+1<w4.heap.size:=
 have hb:=(Dq h.o2 hg (by omega) h.lt).trans h.box
 ⟨ρ hb,Jy _ _ _ _ _ hb,(fX.1 hb).1⟩
structure P9(w W:aJ)(cs:Array aN)(v0 v1 v2:aN)(ms ss:List Pr)(cy:List Cy):Prop where
 res:W.heap[w.heap.size]? =aC (aK cs 26 (0,0))
 o0:W.ownsRow (w.heap.size+2) 67 2 v0 (aA ms) (gp ms)
 o1:W.ownsRow (w.heap.size+2) 69 2 v1 (aA ss) (gp ss)
 o2:W.ownsRow (w.heap.size+2) 71 4 v2 (aA cy) (uS cy)
 xE:β w W
theorem ik.two(h:ik w wr v0 v1 v2 ms ss cy):P9 w wr #[aH aB 0 0,aH aB 0 0,aH aB 0 0,aG aF 0,aG aF 0,aG aF 0,aG aF 0,aG aF 0] v0 v1 v2 ms ss cy:=⟨h.res,h.o0,h.o1,h.o2,h.xE⟩
theorem P9.set {cs:Array aN}(h:P9 w wr cs v0 v1 v2 ms ss cy)(j:Nat)(u:aN):P9 w (wr.setCell ⟨w.heap.size,j,aB⟩ u) (cs.setIfInBounds j u) v0 v1 v2 ms ss cy:=
 ⟨lu h.res j u,kK h.o0 (far h.o0 (by simp)) _,kK h.o1 (far h.o1 (by simp)) _,kK h.o2 (far h.o2 (by simp)) _,h.xE.setCell (aa _) _⟩
end
theorem aKU(z0 z1 z2 z3 z4 z5 z6 z7 a0 a1 a2 a3 a4 a5 a6 a7:aN):(((((((((#[z0,z1,z2,z3,z4,z5,z6,z7]:Array aN).setIfInBounds 0 a0).setIfInBounds 1 a1).setIfInBounds 2 a2).setIfInBounds 3 a3).setIfInBounds 4 a4).setIfInBounds 5 a5).setIfInBounds 6 a6).setIfInBounds 7 a7)= #[a0,a1,a2,a3,a4,a5,a6,a7]:=by simp
theorem aHm:(aM.info? 67).map (λi=>(i.zero,i.size,i.bytes))=aC (aC (bQ #[aG aF 0,aG aF 0]),2,16):=by kernel_rfl
theorem aKK:(aM.info? 69).map (λi=>(i.zero,i.size,i.bytes))=aC (aC (bQ #[aG aF 0,aG aF 0]),2,16):=by kernel_rfl
theorem aDQ:(aM.info? 71).map (λi=>(i.zero,i.size,i.bytes))=aC (aC (bQ #[aG aF 0,aG aF 0,aG aF 0,aG aF 0]),4,32):=by kernel_rfl
theorem a3N {a b c d:Int}:∀u∈ [aG aF a,aG aF b,aG aF c,aG aF d],u.oneCell'=aO:=by intro u hu;simp at hu;rcases hu with rfl|rfl|rfl|rfl<;>rfl
theorem SQ {a b:Int}:∀u∈ [aG aF a,aG aF b],u.oneCell'=aO:=by intro u hu;simp at hu;rcases hu with rfl|rfl<;>rfl
theorem a6m {α:Type}(k:Nat)(y:α):gR (k+1) y=gR k y++ [y]:=by rw [List.replicate_succ']
theorem aJO(w:aJ):ik w ((w.alloc (aK #[aH aB 0 0,aH aB 0 0,aH aB 0 0,aG aF 0,aG aF 0,aG aF 0,aG aF 0,aG aF 0] 26)).alloc (aK #[aH aB 0 0,aH aB 0 0,aH aB 0 0,aG aF 500,aG aF 200,aG aF 1,aG aF 64,aG aF 32] 26)) (aH aB 0 0) (aH aB 0 0) (aH aB 0 0) [] [] []:=
 ⟨Mj _ _ (by simp),by rw [fG _ _ (by simp)];exact cO w _,⟨by simp [gp],aS ⟨rfl,rfl⟩⟩,⟨by simp [gp],aS ⟨rfl,rfl⟩⟩,⟨by simp [uS],aS ⟨rfl,rfl⟩⟩,σ.alloc (by simp) _⟩
end
section
section
variable {P:Program} {md:Cw} {ops:Array Oper} {Q:Exit->Act->aJ->Prop} {S:aJ->Prop} {st:Nat}
def wpAnyL(P:Program)(md:Cw)(ops:Array Oper)(Q:Exit->Act->aJ->Prop)(S:aJ->Prop)(st:Nat):Nat->Array Bool->Act->aJ->Prop
 |0,listed,a,w=>pG md ops listed= []/\Q .normal a w
 |fuel+1,listed,a,w=>
  (pG md ops listed= []->Q .normal a w)/\
  ∀i∈pG md ops listed,wpOp P ops Q i (λa' w'=>(i≠st->S w')/\wpAnyL P md ops Q S st fuel (listed.setIfInBounds i aO) a' w') a w
theorem a8R:∀(fuel:Nat) (listed:Array Bool) (a:Act) (w:aJ),wpAnyL P md ops Q S st fuel listed a w->wpAny P md ops Q fuel listed a w
 |0,_,_,_,h=>h
 |fuel+1,_,_,_,h=>⟨h.1,λi hi=>wpOp_mono (λ_ _ h'=>a8R fuel _ _ _ h'.2) (h.2 i hi)⟩
def Whole(md:Cw)(ops:Array Oper)(listed:Array Bool):Prop:=∀(k:Nat) (o:Oper),ops[k]? =aC o->listed.getD k aO=aO->∀e∈o.after,zU md e=aO->listed.getD e.on aP=aO
def Nw(md:Cw)(ops:Array Oper)(listed:Array Bool):Bool:=(dR ops.size).all λk=> !listed.getD k aO||((ops[k]?).map λo=>o.after.all λe=> !zU md e||listed.getD e.on aP).getD aO
theorem a8Q {listed:Array Bool}(h:Nw md ops listed=aO):Whole md ops listed:=by intro k o ho hk e he hb;unfold Nw at h;rw [List.all_eq_true] at h;have hlt:=(fX.1 ho).1;have h1:=h k (nP.2 hlt);rw [hk,ho] at h1;simp only [aAJ,P7,Bool.not_true,Bool.false_or] at h1;rw [Array.all_eq_true_iff_forall_mem] at h1;have h2:=h1 e he;rw [hb] at h2;simpa using h2
theorem Whole.ready {listed:Array Bool} {j:Nat}(h:Whole md ops listed)(hj:j∈pG md ops listed):Whole md ops (listed.setIfInBounds j aO):=by
 obtain⟨_,oj,xT,hall⟩:=Bo.1 hj;intro k o ho hk e he hb;by_cases hjk:j=k
 ·subst hjk;rw [xT] at ho;cases ho;exact getD_set_true (hall e he hb)
 rw [getD_set_ne aO hjk] at hk;exact getD_set_true (h k o ho hk e he hb)
def waitsB(md:Cw)(ops:Array Oper)(i:Nat):Nat->Nat->Bool
 |0,_=>aP
 |n+1,k=>((ops[k]?).map λo=>o.after.any λe=>zU md e&&(e.on==i||waitsB md ops i n e.on)).getD aP
theorem YY {listed:Array Bool} {i:Nat}(hw:Whole md ops listed):∀(n k:Nat) (o:Oper),waitsB md ops i n k=aO->ops[k]? =aC o->(∀e∈o.after,zU md e=aO->listed.getD e.on aP=aO)->listed.getD i aP=aO
 |0,_,_,h,_,_=>by simp [waitsB] at h
 |n+1,k,o,h,ho,hall=>by
  unfold waitsB at h;rw [ho] at h;simp only [aAJ,P7] at h;obtain⟨j,hj,h⟩:=Array.any_eq_true.1 h;have he:=Array.getElem_mem hj;generalize o.after[j]=e at*;simp only [je,Bool.or_eq_true,beq_iff_eq] at h;obtain⟨hb,h⟩:=h;have hl:=hall e he hb;rcases h with h|h
  ·rw [<-h];exact hl
  ·match KG:ops[e.on]? with
   |none=>
    cases n with
    |zero=>simp [waitsB] at h
    |succ n=>unfold waitsB at h;rw [KG] at h;simp at h
   |some o'=>
    refine YY hw n e.on o' h KG (hw e.on o' KG ?_);rcases rW e.on listed.size with h'|h'
    ·simpa [h'] using hl
    simp [Iy h'] at hl
theorem aLj {listed:Array Bool} {i n:Nat}(hw:Whole md ops listed)(h:waitsB md ops i n st=aO)(hi:listed.getD i aO=aP):st∉pG md ops listed:=by
 intro hj;obtain⟨_,o,ho,hall⟩:=Bo.1 hj;have h1:=YY hw n st o h ho hall;rcases rW i listed.size with h'|h'
 ·simp [h'] at hi h1;rw [hi] at h1;cases h1
 simp [Iy h'] at h1
theorem wpAnyL_first {i:Nat} {oi:Oper} {v:aN} {n:Nat}(hi:ops[i]? =aC oi)(hst:waitsB md ops i n st=aO)(FP:∀(j:Nat) (o:Oper) cs b,ops[j]? =aC o->o.op≠ .select cs b)
 (hQ:∀c a w,Q (.panic c) (a.put oi.dst v) w->Q (.panic c) a w):
 ∀(fuel:Nat) (listed:Array Bool) (a:Act) (w:aJ),Whole md ops listed->
  (∀j oj,ops[j]? =aC oj->j≠i->listed.getD j aO=aP->(∀e∈oj.after,zU md e=aO->e.on≠i)->oi.apart ops oj=aO)->
  i∈pG md ops listed->YieldsIf P ops S oi v a->S w->
  wpAnyL P md ops Q S st fuel (listed.setIfInBounds i aO) (a.put oi.dst v) w->wpAnyL P md ops Q S st (fuel+1) listed a w:=by
 intro fuel;induction fuel with
 |zero=>
  intro listed a w _ _ hr hy hS H;refine⟨λh=>(by rw [h] at hr;cases hr),λj hj=> ?_⟩;by_cases jq:j=i
  ·subst jq;exact hy.wpOp hi hS ⟨λ_=>hS,H⟩
  have:=Fe hj jq;rw [H.1] at this;cases this
 |succ fuel ih=>
  intro listed a w Dj F6 hr hy hS H;refine⟨λh=>(by rw [h] at hr;cases hr),λj hj=> ?_⟩;by_cases jq:j=i
  ·subst jq;exact hy.wpOp hi hS ⟨λ_=>hS,H⟩
  have I6:j≠st:=λe=>aLj Dj hst (Bo.1 hr).1 (e▸hj)
  have h1:=H.2 j (Fe hj jq);obtain⟨F8,oj,xT,hall⟩:=Bo.1 hj;have Mr:∀e∈oj.after,zU md e=aO->e.on≠i:=λe he hb heq=>by
   have h1:=hall e he hb;have h0:=(Bo.1 hr).1;rw [heq] at h1;rcases rW i listed.size with h'|h'
   ·simp [h'] at h0 h1;rw [h0] at h1;cases h1
   simp [Iy h'] at h1
  have h2:=wpOp_putIf xT (F6 j oj xT jq F8 Mr) (λcs b=>FP i oi cs b hi) (λcs b=>FP j oj cs b xT) hQ hy h1
  have Mm:∀k ok,ops[k]? =aC ok->k≠i->(listed.setIfInBounds j aO).getD k aO=aP->
   (∀e∈ok.after,zU md e=aO->e.on≠i)->oi.apart ops ok=aO:=λk ok hk zy FU hno=>by
   refine F6 k ok hk zy ?_ hno;by_cases hjk:j=k
   ·subst hjk;exact F8
   rw [getD_set_ne aO hjk] at FU;exact FU
  refine wpOp_mono (λa' w' h3=>⟨h3.2.1,ih (listed.setIfInBounds j aO) a' w' (Dj.ready hj) Mm (Fe hr (Ne.symm jq)) h3.1 (h3.2.1 I6) ?_⟩) h2;rw [Yh _ _ jq];exact h3.2.2
theorem eC {i:Nat} {oi:Oper} {v:aN} {fuel:Nat} {listed:Array Bool} {a:Act} {w:aJ}(hi:ops[i]? =aC oi)(hst:waitsB md ops i 12 st=aO)(Dj:Nw md ops listed=aO)
 (hs:Region.noSelect ops=aO) (hf:Region.free md ops listed i=aO) (hr:(pG md ops listed).contains i=aO)
 (hQ:∀c a w,Q (.panic c) (a.put oi.dst v) w->Q (.panic c) a w) (hy:YieldsIf P ops S oi v a) (hS:S w)
 (h:wpAnyL P md ops Q S st fuel (listed.setIfInBounds i aO) (a.put oi.dst v) w):wpAnyL P md ops Q S st (fuel+1) listed a w:=
 wpAnyL_first hi hst (a0P hs) hQ fuel listed a w (a8Q Dj) (a0O hi hf) (by simpa using hr) hy hS h
theorem Iu {listed:Array Bool} {a:Act} {w:aJ}(hr:pG md ops listed= [])(h:Q .normal a w):∀fuel,wpAnyL P md ops Q S st fuel listed a w
 |0=>⟨hr,h⟩
 |_+1=>⟨λ_=>h,by rw [hr];simp⟩
def ei(P:Program)(md:Cw)(ops:Array Oper)(Q:Exit->Act->aJ->Prop)(S:aJ->Prop)(st:Nat)(fuel:Nat)(listed:Array Bool)(a:Act)(w:aJ)(rs:List Nat):Prop:=
 ∀i∈rs,wpOp P ops Q i (λa' w'=>(i≠st->S w')/\wpAnyL P md ops Q S st fuel (listed.setIfInBounds i aO) a' w') a w
theorem ei.nil {fuel:Nat} {listed:Array Bool} {a:Act} {w:aJ}:ei P md ops Q S st fuel listed a w []:=λ_ h=>by cases h
theorem ei.cons {fuel:Nat} {listed:Array Bool} {a:Act} {w:aJ} {i:Nat} {o:Oper} {rs:List Nat}(ho:ops[i]? =aC o)
 (h:∀K':Act->aJ->Prop,Shut (∀a w,(i≠st->S w)->((i≠st->S w)->wpAnyL P md ops Q S st fuel (listed.setIfInBounds i aO) a w)->K' a w)->if Ji o (yielded ops a.tmps)=aO then Oper.wp P o a w K' Q else K' (a.put o.dst undef) w)
 (hs:ei P md ops Q S st fuel listed a w rs):ei P md ops Q S st fuel listed a w (i::rs):=λj hj=>by
 rcases fE.1 hj with rfl|hj
 ·exact wpOp_step ho (λK' hK=>h K' (λa w hS hW=>hK a w ⟨hS,hW hS⟩))
 exact hs j hj
theorem nx {rs:List Nat} {fuel:Nat} {listed:Array Bool} {a:Act} {w:aJ}(hr:pG md ops listed=rs)(hne:rs≠ [])
 (h:ei P md ops Q S st fuel listed a w rs):wpAnyL P md ops Q S st (fuel+1) listed a w:=⟨λh0=>absurd (hr▸h0) hne,hr▸h⟩
theorem Iw {id:Nat} {a:Act} {w:aJ}(st:Nat)(hm:P.follows .mixedOrders=aO)(hS:S w.drew)
 (h:S w.drew->wpAnyL P .any ops Q S st ops.size (lH ops.size aP) a w.drew):(Code.region id ops aO).wp P Q a w:=
 wp_region_any hm (a8R _ _ _ _ (h hS))
end
end
section
section
variable {P:Program} {md:Cw} {ops:Array Oper} {Q:Exit->Act->aJ->Prop} {S:aJ->Prop} {st:List Nat}
def uk(P:Program)(md:Cw)(ops:Array Oper)(Q:Exit->Act->aJ->Prop)(S:aJ->Prop)(st:List Nat):Nat->Array Bool->Act->aJ->Prop
 |0,listed,a,w=>pG md ops listed= []/\Q .normal a w
 |fuel+1,listed,a,w=>
  (pG md ops listed= []->Q .normal a w)/\
  ∀i∈pG md ops listed,wpOp P ops Q i (λa' w'=>(i∉st->S w')/\uk P md ops Q S st fuel (listed.setIfInBounds i aO) a' w') a w
theorem a8S:∀(fuel:Nat) (listed:Array Bool) (a:Act) (w:aJ),uk P md ops Q S st fuel listed a w->wpAny P md ops Q fuel listed a w
 |0,_,_,_,h=>h
 |fuel+1,_,_,_,h=>⟨h.1,λi hi=>wpOp_mono (λ_ _ h'=>a8S fuel _ _ _ h'.2) (h.2 i hi)⟩
theorem aLk {listed:Array Bool} {i n:Nat}(hw:Whole md ops listed) {s:Nat}(h:waitsB md ops i n s=aO)(hi:listed.getD i aO=aP):s∉pG md ops listed:=by
 intro hj;obtain⟨_,o,ho,hall⟩:=Bo.1 hj;have h1:=YY hw n s o h ho hall;rcases rW i listed.size with h'|h'
 ·simp [h'] at hi h1;rw [hi] at h1;cases h1
 simp [Iy h'] at h1
theorem aLr {i:Nat} {oi:Oper} {v:aN} {n:Nat}(hi:ops[i]? =aC oi)(hst:∀s∈st,waitsB md ops i n s=aO)(IB:i∉st)(FP:∀(j:Nat) (o:Oper) cs b,ops[j]? =aC o->o.op≠ .select cs b)
 (hQ:∀c a w,Q (.panic c) (a.put oi.dst v) w->Q (.panic c) a w):
 ∀(fuel:Nat) (listed:Array Bool) (a:Act) (w:aJ),Whole md ops listed->
  (∀j oj,ops[j]? =aC oj->j≠i->listed.getD j aO=aP->(∀e∈oj.after,zU md e=aO->e.on≠i)->oi.apart ops oj=aO)->
  i∈pG md ops listed->YieldsIf P ops S oi v a->S w->
  uk P md ops Q S st fuel (listed.setIfInBounds i aO) (a.put oi.dst v) w->uk P md ops Q S st (fuel+1) listed a w:=by
 intro fuel;induction fuel with
 |zero=>
  intro listed a w _ _ hr hy hS H;refine⟨λh=>(by rw [h] at hr;cases hr),λj hj=> ?_⟩;by_cases jq:j=i
  ·subst jq;exact hy.wpOp hi hS ⟨λ_=>hS,H⟩
  have:=Fe hj jq;rw [H.1] at this;cases this
 |succ fuel ih=>
  intro listed a w Dj F6 hr hy hS H;refine⟨λh=>(by rw [h] at hr;cases hr),λj hj=> ?_⟩;by_cases jq:j=i
  ·subst jq;exact hy.wpOp hi hS ⟨λ_=>hS,H⟩
  have I6:j∉st:=λe=>aLk Dj (hst j e) (Bo.1 hr).1 hj
  have h1:=H.2 j (Fe hj jq);obtain⟨F8,oj,xT,hall⟩:=Bo.1 hj;have Mr:∀e∈oj.after,zU md e=aO->e.on≠i:=λe he hb heq=>by
   have h1:=hall e he hb;have h0:=(Bo.1 hr).1;rw [heq] at h1;rcases rW i listed.size with h'|h'
   ·simp [h'] at h0 h1;rw [h0] at h1;cases h1
   simp [Iy h'] at h1
  have h2:=wpOp_putIf xT (F6 j oj xT jq F8 Mr) (λcs b=>FP i oi cs b hi) (λcs b=>FP j oj cs b xT) hQ hy h1
  have Mm:∀k ok,ops[k]? =aC ok->k≠i->(listed.setIfInBounds j aO).getD k aO=aP->
   (∀e∈ok.after,zU md e=aO->e.on≠i)->oi.apart ops ok=aO:=λk ok hk zy FU hno=>by
   refine F6 k ok hk zy ?_ hno;by_cases hjk:j=k
   ·subst hjk;exact F8
   rw [getD_set_ne aO hjk] at FU;exact FU
  refine wpOp_mono (λa' w' h3=>⟨h3.2.1,ih (listed.setIfInBounds j aO) a' w' (Dj.ready hj) Mm (Fe hr (Ne.symm jq)) h3.1 (h3.2.1 I6) ?_⟩) h2;rw [Yh _ _ jq];exact h3.2.2
theorem ld {i:Nat} {oi:Oper} {v:aN} {fuel:Nat} {listed:Array Bool} {a:Act} {w:aJ}(hi:ops[i]? =aC oi)(hst:(st.all λs=>waitsB md ops i 12 s)=aO)(IB:st.contains i=aP)(Dj:Nw md ops listed=aO)
 (hs:Region.noSelect ops=aO) (hf:Region.free md ops listed i=aO) (hr:(pG md ops listed).contains i=aO)
 (hQ:∀c a w,Q (.panic c) (a.put oi.dst v) w->Q (.panic c) a w) (hy:YieldsIf P ops S oi v a) (hS:S w)
 (h:uk P md ops Q S st fuel (listed.setIfInBounds i aO) (a.put oi.dst v) w):uk P md ops Q S st (fuel+1) listed a w:=
 aLr hi (λs hs=>List.all_eq_true.1 hst s hs) (by simpa using IB) (a0P hs) hQ fuel listed a w (a8Q Dj) (a0O hi hf) (by simpa using hr) hy hS h
theorem aLs {i:Nat} {oi:Oper} {v:aN}(hi:ops[i]? =aC oi)(IB:i∈st)(FP:∀(j:Nat) (o:Oper) cs b,ops[j]? =aC o->o.op≠ .select cs b)
 (hQ:∀c a w,Q (.panic c) (a.put oi.dst v) w->Q (.panic c) a w):
 ∀(fuel:Nat) (listed:Array Bool) (a:Act) (w:aJ),
  (∀j oj,ops[j]? =aC oj->j≠i->listed.getD j aO=aP->(∀e∈oj.after,zU md e=aO->e.on≠i)->oi.apart ops oj=aO)->
  i∈pG md ops listed->YieldsIf P ops (λ_=>True) oi v a->
  uk P md ops Q S st fuel (listed.setIfInBounds i aO) (a.put oi.dst v) w->uk P md ops Q S st (fuel+1) listed a w:=by
 intro fuel;induction fuel with
 |zero=>
  intro listed a w _ hr hy H;refine⟨λh=>(by rw [h] at hr;cases hr),λj hj=> ?_⟩;by_cases jq:j=i
  ·subst jq;exact hy.wpOp hi trivial ⟨λh=>absurd IB h,H⟩
  have:=Fe hj jq;rw [H.1] at this;cases this
 |succ fuel ih=>
  intro listed a w F6 hr hy H;refine⟨λh=>(by rw [h] at hr;cases hr),λj hj=> ?_⟩;by_cases jq:j=i
  ·subst jq;exact hy.wpOp hi trivial ⟨λh=>absurd IB h,H⟩
  have h1:=H.2 j (Fe hj jq);obtain⟨F8,oj,xT,hall⟩:=Bo.1 hj;have Mr:∀e∈oj.after,zU md e=aO->e.on≠i:=λe he hb heq=>by
   have h1:=hall e he hb;have h0:=(Bo.1 hr).1;rw [heq] at h1;rcases rW i listed.size with h'|h'
   ·simp [h'] at h0 h1;rw [h0] at h1;cases h1
   simp [Iy h'] at h1
  have h2:=wpOp_putIf xT (F6 j oj xT jq F8 Mr) (λcs b=>FP i oi cs b hi) (λcs b=>FP j oj cs b xT) hQ hy h1
  have Mm:∀k ok,ops[k]? =aC ok->k≠i->(listed.setIfInBounds j aO).getD k aO=aP->
   (∀e∈ok.after,zU md e=aO->e.on≠i)->oi.apart ops ok=aO:=λk ok hk zy FU hno=>by
   refine F6 k ok hk zy ?_ hno;by_cases hjk:j=k
   ·subst hjk;exact F8
   rw [getD_set_ne aO hjk] at FU;exact FU
  refine wpOp_mono (λa' w' h3=>⟨h3.2.1,ih (listed.setIfInBounds j aO) a' w' Mm (Fe hr (Ne.symm jq)) h3.1 ?_⟩) h2;rw [Yh _ _ jq];exact h3.2.2
theorem Fl {i:Nat} {oi:Oper} {v:aN} {fuel:Nat} {listed:Array Bool} {a:Act} {w:aJ}(hi:ops[i]? =aC oi)(IB:st.contains i=aO)
 (hs:Region.noSelect ops=aO) (hf:Region.free md ops listed i=aO) (hr:(pG md ops listed).contains i=aO)
 (hQ:∀c a w,Q (.panic c) (a.put oi.dst v) w->Q (.panic c) a w) (hy:YieldsIf P ops (λ_=>True) oi v a)
 (h:uk P md ops Q S st fuel (listed.setIfInBounds i aO) (a.put oi.dst v) w):uk P md ops Q S st (fuel+1) listed a w:=
 aLs hi (by simpa using IB) (a0P hs) hQ fuel listed a w (a0O hi hf) (by simpa using hr) hy h
theorem Yb {listed:Array Bool} {a:Act} {w:aJ}(hr:pG md ops listed= [])(h:Q .normal a w):∀fuel,uk P md ops Q S st fuel listed a w
 |0=>⟨hr,h⟩
 |_+1=>⟨λ_=>h,by rw [hr];simp⟩
def gq(P:Program)(md:Cw)(ops:Array Oper)(Q:Exit->Act->aJ->Prop)(S:aJ->Prop)(st:List Nat)(fuel:Nat)(listed:Array Bool)(a:Act)(w:aJ)(rs:List Nat):Prop:=
 ∀i∈rs,wpOp P ops Q i (λa' w'=>(i∉st->S w')/\uk P md ops Q S st fuel (listed.setIfInBounds i aO) a' w') a w
theorem gq.nil {fuel:Nat} {listed:Array Bool} {a:Act} {w:aJ}:gq P md ops Q S st fuel listed a w []:=λ_ h=>by cases h
theorem gq.cons {fuel:Nat} {listed:Array Bool} {a:Act} {w:aJ} {i:Nat} {o:Oper} {rs:List Nat}(ho:ops[i]? =aC o)
 (h:∀K':Act->aJ->Prop,Shut (∀a w,(i∉st->S w)->((i∉st->S w)->uk P md ops Q S st fuel (listed.setIfInBounds i aO) a w)->K' a w)->if Ji o (yielded ops a.tmps)=aO then Oper.wp P o a w K' Q else K' (a.put o.dst undef) w)
 (hs:gq P md ops Q S st fuel listed a w rs):gq P md ops Q S st fuel listed a w (i::rs):=λj hj=>by
 rcases fE.1 hj with rfl|hj
 ·exact wpOp_step ho (λK' hK=>h K' (λa w hS hW=>hK a w ⟨hS,hW hS⟩))
 exact hs j hj
theorem tx {rs:List Nat} {fuel:Nat} {listed:Array Bool} {a:Act} {w:aJ}(hr:pG md ops listed=rs)(hne:rs≠ [])
 (h:gq P md ops Q S st fuel listed a w rs):uk P md ops Q S st (fuel+1) listed a w:=⟨λh0=>absurd (hr▸h0) hne,hr▸h⟩
theorem Yd {id:Nat} {a:Act} {w:aJ}(st:List Nat)(hm:P.follows .mixedOrders=aO)(hS:S w.drew)
 (h:S w.drew->uk P .any ops Q S st ops.size (lH ops.size aP) a w.drew):(Code.region id ops aO).wp P Q a w:=
 wp_region_any hm (a8S _ _ _ _ (h hS))
end
end
section
section
variable {P:Program} {md:Cw} {ops:Array Oper} {Q:Exit->Act->aJ->Prop} {S:aJ->Prop} {fuel:Nat} {listed:Array Bool} {a:Act} {w:aJ} {oi:Oper}
theorem tL {st:Nat}(i:Nat)(v:aN)(hi:ops[i]? =aC oi)(hb:(waitsB md ops i 12 st&&(Nw md ops listed&&(Region.noSelect ops&&(Region.free md ops listed i&&(pG md ops listed).contains i))))=aO)(hQ:∀c a w,Q (.panic c) (a.put oi.dst v) w->Q (.panic c) a w)(hy:Ji oi (yielded ops a.tmps)=aO/\∀w,S w->(execOp a.eval oi).run P w= .ok (.value v) w)(hS:S w)(h:wpAnyL P md ops Q S st fuel (listed.setIfInBounds i aO) (a.put oi.dst v) w):wpAnyL P md ops Q S st (fuel+1) listed a w:=by simp only [je] at hb;exact eC hi hb.1 hb.2.1 hb.2.2.1 hb.2.2.2.1 hb.2.2.2.2 hQ (aS hy) hS h
theorem nL {st:Nat}(i:Nat)(ho:ops[i]? =aC oi)(hr:pG md ops listed= [i])(h:∀K':Act->aJ->Prop,Shut (∀a w,(i≠st->S w)->((i≠st->S w)->wpAnyL P md ops Q S st fuel (listed.setIfInBounds i aO) a w)->K' a w)->if Ji oi (yielded ops a.tmps)=aO then Oper.wp P oi a w K' Q else K' (a.put oi.dst undef) w):wpAnyL P md ops Q S st (fuel+1) listed a w:=nx hr (by simp) (ei.cons ho h ei.nil)
end
end
theorem RU(a:Int)(w:aJ)(ha:aL a):
 aQ aM 169 #[ν a] w λe w'=>
  e=aT (bB #[ν (fU (-a)),ν (dC (-a))])/\w=w':=by
 have HA:=η ha;go_enter func169,ntmps169
 go_wp2_with (go_at_call 148;refine(S7 0 a _ Ja HA).mono ?_;rintro e w' ⟨rfl,rfl⟩)
 go_ret2;exact⟨rfl,rfl⟩
structure Ob where
 c:Int
 m:Int
 a:Int
 az:Int
 done:Int
 st:Int
def Ob.cells(x:Ob):List aN:= [aG aF x.c,aG aF x.m,aG aF x.a,aG aF x.az,aG aF x.done,aG aF x.st]
def Ob.val(x:Ob):aN:=bQ #[aG aF x.c,aG aF x.m,aG aF x.a,aG aF x.az,aG aF x.done,aG aF x.st]
def fK(l:List Ob):List aN:=l.flatMap Ob.cells
structure Lg where
 m:Int
 a:Int
 n:Int
def Lg.cells(x:Lg):List aN:= [aG aF x.m,aG aF x.a,aG aF x.n]
def Lg.val(x:Lg):aN:=bQ #[aG aF x.m,aG aF x.a,aG aF x.n]
def bA(l:List Lg):List aN:=l.flatMap Lg.cells
theorem vx {w:aJ} {B:Nat} {A:Option aj} {l:List Ob}(h:aW w B A (fK l)) {k:Nat}(hk:k<aA l):
 ∃b o,A=aC ⟨b,o,aB⟩/\b<B/\w.cell? ⟨b,o+k*6,aB⟩=aC (ν l[k].c)/\w.cell? ⟨b,o+k*6+1,aB⟩=aC (ν l[k].m)/\w.cell? ⟨b,o+k*6+2,aB⟩=aC (ν l[k].a)/\
  w.cell? ⟨b,o+k*6+3,aB⟩=aC (ν l[k].az)/\w.cell? ⟨b,o+k*6+4,aB⟩=aC (ν l[k].done)/\w.cell? ⟨b,o+k*6+5,aB⟩=aC (ν l[k].st):=by
 obtain⟨b,o,e,hb,hc⟩:=h.run (i:=k*6) (y:=ν l[k].c) (t:= [ν l[k].m,ν l[k].a,ν l[k].az,ν l[k].done,ν l[k].st]) (λj u hu=>uV Ob.cells 6 (λ_=>rfl) l k hk j u hu);exact⟨b,o,e,hb,hc 0 _ rfl,hc 1 _ rfl,hc 2 _ rfl,hc 3 _ rfl,hc 4 _ rfl,hc 5 _ rfl⟩
theorem oM {w:aJ} {B:Nat} {A:Option aj} {l:List Lg}(h:aW w B A (bA l)) {k:Nat}(hk:k<aA l):
 ∃b o,A=aC ⟨b,o,aB⟩/\b<B/\w.cell? ⟨b,o+k*3,aB⟩=aC (ν l[k].m)/\w.cell? ⟨b,o+k*3+1,aB⟩=aC (ν l[k].a)/\w.cell? ⟨b,o+k*3+2,aB⟩=aC (ν l[k].n):=by
 obtain⟨b,o,e,hb,hc⟩:=h.run (i:=k*3) (y:=ν l[k].m) (t:= [ν l[k].a,ν l[k].n]) (λj u hu=>uV Lg.cells 3 (λ_=>rfl) l k hk j u hu);exact⟨b,o,e,hb,hc 0 _ rfl,hc 1 _ rfl,hc 2 _ rfl⟩
def fw:Int:= -9223372036854775808
def Ob.size(x:Ob):Int:=if x.az<0 then-x.az else x.az
def eZ(x:Ob):Bool:=x.st==1
def yi(m a:Int)(x:Ob):Bool:=x.st==1&&x.m==m&&x.a==a
def KS(y:Lg)(x:Lg):Bool:=x.m==y.m&&x.a==y.a
def SY(y:Lg):Bool:=y.n==0||y.n==fw
def yu(bE:List Lg)(i:Nat)(h:i<aA bE):Bool:=SY bE[i]||(bE.take i).any (KS bE[i])
def Eg(bE:List Lg):Bool:=(dR (aA bE)).any λi=>if h:i<(aA bE) then yu bE i h else aP
def gA(cy:Int)(y:Lg):Ob:=⟨cy,y.m,y.a,y.n,0,1⟩
def rA(cy:Int)(bE:List Lg)(L:List Ob):Int:=
 if 1024-(aA L:Int)<(aA bE) then 6 else if L.any eZ then 17 else if L.any (λx=>decide (cy<=x.c)) then 7 else if Eg bE then 1 else 0
def nr(cy:Int)(bE:List Lg)(L:List Ob):List Ob:=if rA cy bE L=0 then L++bE.map (gA cy) else L
def dT(m a:Int)(L:List Ob):Nat:=L.findIdx (yi m a)
def debtE(m a n:Int)(L:List Ob):Int:=match L[dT m a L]? with
 |none=>8
 |some x=>if x.az<0 then 8 else if n<1 then 1 else 0
def j7(m a n:Int)(L:List Ob):Int:=match L[dT m a L]? with
 |none=>8
 |some x=>if x.az<0 then 8 else if n<1 then 1 else if x.az-x.done<n then 12 else 0
def lG(m a n:Int)(L:List Ob):Int:=match L[dT m a L]? with
 |none=>8
 |some x=>if x.az<0 then 8 else if n<1 then 1 else if x.done<n then 12 else 0
def vw(m a s n:Int)(L:List Ob):Int:=match L[dT m a L]? with
 |none=>8
 |some x=>if s<2\/5<s\/n<0\/x.size<n\/(s=2/\n≠x.size) then 1 else 0
def kV(m a n:Int)(L:List Ob):List Ob:=if j7 m a n L=0 then L.modify (dT m a L) (λx=> {x with done:=x.done+n}) else L
def nw(m a n:Int)(L:List Ob):List Ob:=if lG m a n L=0 then L.modify (dT m a L) (λx=> {x with done:=x.done-n}) else L
def lW(m a s n:Int)(L:List Ob):List Ob:=if vw m a s n L=0 then L.modify (dT m a L) (λx=> {x with st:=s,done:=n}) else L
structure Ob.ok(x:Ob):Prop where
 lo:fw<x.az
 hi:x.az<=9223372036854775807
 ne:x.az≠0
 d0:0<=x.done
 d1:x.done<=x.size
structure sT(L:List Ob):Prop where
 each:∀x∈L,x.ok
 once:∀j k (hj:j<aA L) (hk:k<aA L),j<k->eZ L[j]=aO->eZ L[k]=aO->¬(L[j].m=L[k].m/\L[j].a=L[k].a)
 len:aA L<=1024
def PD(L L':List Ob):Prop:=aA L<=aA L'/\∀k (h:k<aA L),eZ L[k]=aP->L'[k]? =aC L[k]
end Go.Proofs.YtdokipdchlcmeaaGreat
