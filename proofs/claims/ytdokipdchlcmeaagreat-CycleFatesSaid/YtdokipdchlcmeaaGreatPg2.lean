/-
  Several texts in one, for one claim (printed by pack.py).
-/
import Derived.Test.YtdokipdchlcmeaaGreatPg1
import Derived.Below
import Derived.Deep.Heap
import Derived.Laws.OwnMore
import Derived.OrdersHeld
set_option linter.all false
set_option maxRecDepth 100000
set_option maxHeartbeats 12800000
open Array renaming getElem?_eq_some_iff→fW,replicate→lB,getElem?_eq_none→Iu,setIfInBounds_comm→Yg
open Bool renaming true→aO,false→aP,and_eq_true→jb
open Classical renaming skolem→Yn
open Go renaming World→aJ,Value→aN,Calls→aQ,Addr→aj,cell_of_row→bH,maxLen→bM,TypeId→bY,heap_alloc_new→cO,info_parts→dL,Ending→dU,wpList_append_own→j9,mem_ready→Bi,ready_mono→FY,frozen_of_row→Jw
open Go.Calls renaming grown_of→Fk,quiet_of_same→Iz
open Go.Deep renaming blk_setCell_other→Ny,nblk_setCell→Yr,blk_alloc_lt→a8g
open Go.Ending renaming returned→aT
open Go.Instr renaming makeSlice→Ou
open Go.IntKind renaming i64→aF,wrap_i64→fZ
open Go.Obj renaming cells→aK
open Go.Proofs renaming intOf→ag
open Go.Proofs.Tryz renaming prog→aM,underlying53→mP,underlying46→yO,func213→UQ,func22→UR,func227→UT,func228→UU,ntmps213→UZ,ntmps22→Ua,ntmps227→Ub,ntmps228→Uc,func194→a0c,func265→a0k,ntmps194→a0w,ntmps265→a1E,func195→aAp,func281→aAz,ntmps195→aBc
open Go.Region renaming ready→pF,binds→zS,Mode→Cp,wanted→Jf,free_spec→a0O,noSelect_spec→a0P
open Go.RowKit renaming Below→aa
open Go.RowKit.Below renaming refl→aX,heap_setCell→nK
open Go.Value renaming int→aG,slice→aH,tuple→bB,bool→bJ,agg→bU,ownBlock→dy
open Go.World renaming cell?_of_block→gh,ownsRow→jw,setCell→EY
open Int renaming le_refl→dJ,le_trans→ju,eq_ofNat_of_zero_le→a0B
open List renaming length→aA,getElem_mem→cK,length_append→cN,take_length→cT,range→dQ,mem_map→dW,map_append→df,mem_cons→fC,take_succ_eq_append_getElem→fE,replicate→gP,zipWith→kN,mem_range→nP,mem_iff_getElem→sW,length_singleton→uG,getElem_map→wk,length_replicate→Cl,map_congr_left→Jb,ext_getElem→Lb
open Nat renaming le_refl→aZ,zero_le→bL,le_trans→bz,lt_or_ge→rQ,mul_le_mul→yN,div_lt_iff_lt_mul→GV,mod_lt→Jc
open Option renaming none→aB,some→aC,getD_some→P4,map_some→aAK
open Or renaming inl→aS,inr→aU
namespace Go.Proofs.YtdokipdchlcmeaaGreat
open Go.Proofs.Tryz Go.RowKit
section
open Go.Lib Go.Sort Go.Shelf Go.Proofs.YtdokipdchlcmeaaGreat.pG
def Lm(w0:aJ)(blk off n:Nat)(k:Int->Int)(ok:Int->Prop)(d:Array Int)(a b:Nat):dU->aJ->Prop:=λe w'=>e=aT (bB #[])/\∃d':Array Int,cd (fn d) (fn d') a b/\cH k (fn d') a b/\Rw w0 blk off n ok d' w'
theorem cH.o {k:Int->Int} {f g:Nat->Int} {a b:Nat}(h:cH k f a b)(e:∀p,a<=p->p<b->g p=f p):cH k g a b:=λi j h1 h2 h3=>by rw [e i h1 (by omega),e j (by omega) h3];exact h i j h1 h2 h3
theorem sL.o {f g:Nat->Int} {a m b:Nat}(h:sL f a m b)(e:∀p,a<=p->p<b->g p=f p):sL g a m b:=λi j h1 h2 h3 h4=>by rw [e i h1 (by omega),e j (by omega) h4];exact h i j h1 h2 h3 h4
theorem aL7 {w0:aJ} {blk off n:Nat} {g:Nat} {cb:Array aN} {cf:Int->Int->Int} {k:Int->Int} {ok:Int->Prop} {d0:Array Int}(T0:sY w0 blk off n g cb cf k ok d0)(cap a m b:Nat)(d:Array Int)(w:aJ)(h:Rw w0 blk off n ok d w)(h1:a<m)(h2:m<b)(h3:b<=n)(hs1:cH k (fn d) a m)(hs2:cH k (fn d) m b)(hx:sL (fn d) a m b)(hA:m=a+1):
 aQ aM 265 #[aH (aC ⟨blk,off,aB⟩) n cap,aG aF (a:Nat),aG aF (m:Nat),aG aF (b:Nat),.func (.func g) #[] cb] w (Lm w0 blk off n k ok d a b):=by
 have eg:=T0.enters;have hn:=T0.lt;have mixed:aM.follows .mixedOrders=aO:=by kernel_rfl
 have T:=η T0;have HH:=η h;have cY:=η hs1;have cM:=η hs2;have HX:=η hx;clear T0 h hs1 hs2 hx;have w1:aF.wrap ((m:Int)-(a:Int))=1:=by rw [fZ];omega
 have HA:=η hA;have MP:m<=a+1:=by omega
 clear hA;go_enter a0k,a1E
 go_wp2_with fail
 go_loopg [10,11] (b-m) (λkx s t wr=>∃(i j:Nat),s=aG aF i/\t=aG aF j/\m<=i/\i<=j/\j<=b/\j-i<=kx/\Hid (Rw w0 blk off n ok d wr)/\Hid ((∀p,m<=p->p<i->L k (fn d p) (fn d a))/\∀p,j<=p->p<b->L k (fn d a) (fn d p)))
 case atStart=>exact⟨m,b,rfl,rfl,aZ _,by omega,aZ _,aZ _,HH,λp _ _=>by omega,λp _ _=>by omega⟩
 case round=>
  clear HH;obtain⟨i,j,rfl,rfl,I7,rh,hjb,lx,S1,HP⟩:=hrel;by_cases hlt:i<j
  ·have ng:(i:Int)<(j:Int):=by omega
   obtain⟨c,hc0⟩:∃q,q=(i+j)/2:=⟨_,rfl⟩;have hcz:((i:Int)+(j:Int))/2=(c:Int):=by omega
   have Me:i<=c:=by omega
   have QN:c<j:=by omega
   clear hc0;by_cases hlv:k (fn d c)<k (fn d a)
   ·have mi:Hid ((∀p,m<=p->p<c+1->L k (fn d p) (fn d a))/\∀p,j<=p->p<b->L k (fn d a) (fn d p)):=by
     refine⟨λp q1 q2=> ?_,HP.o.2⟩;by_cases e:p=c
     ·rw [e];exact aS hlv
     exact(cM.o p c q1 (by omega) (by omega)).trans (aS hlv)
    have lJ:=η hlv;clear HP hlv;go_wp2_with fail
    obtain⟨iN,fG⟩:∃z9,z9=c:=⟨_,rfl⟩;obtain⟨jN,fH⟩:∃z9,z9=a:=⟨_,rfl⟩;have ea:((c:Int)).toNat=iN:=by omega
    have pa:(0:Int)<=(c:Int):=by omega
    have ba:(c:Int)<(n:Int):=by omega
    have ra:aF.wrap ((c:Int))=(c:Int):=by rw [fZ];omega
    have ec:((a:Int)).toNat=jN:=by omega
    have pc:(0:Int)<=(a:Int):=by omega
    have bc:(a:Int)<(n:Int):=by omega
    have rc:aF.wrap ((a:Int))=(a:Int):=by rw [fZ];omega
    obtain⟨x,hx⟩:∃x,x=fn d (c):=⟨_,rfl⟩;obtain⟨y,hy⟩:∃x,x=fn d (a):=⟨_,rfl⟩;have la:=S1.o.cl T.o (c) (by omega);have lb:=S1.o.cl T.o (a) (by omega);rw [<-hx,<-fG] at la;rw [<-hy,<-fH] at lb;have hc:=S1.o.cmp T.o (c) (a) (by omega) (by omega);rw [<-hx,<-hy] at hc;have hv:cf x y<0:=by rw [hx,hy];exact(T.o.neg _ _ (S1.o.ok _ (by omega)) (S1.o.ok _ (by omega))).2 lJ.o
    have hd:decide (cf x y<0)=aO:=decide_eq_true hv;clear hx hy fG fH;go_wp2_with fail
    go_quiet_grown (first|(go_at_fn g;refine Fk (hc _ _)))
    have S2:=η (S1.o.grown nq osq);clear la lb hc S1;generalize grow (wr.drewN nq) osq=w2 at S2 ⊢;clear nq osq ea ec pa pc ba bc ra rc hv hd;go_wp2
    go_roundg (j-(c+1))
    case measure=>omega
    case rel=>exact⟨c+1,j,by go_num,rfl,by omega,by omega,hjb,aZ _,S2,mi⟩
   have mi:Hid ((∀p,m<=p->p<i->L k (fn d p) (fn d a))/\∀p,c<=p->p<b->L k (fn d a) (fn d p)):=by
    refine⟨HP.o.1,λp q1 q2=> ?_⟩;have hl:L k (fn d a) (fn d c):=L.of_le hlv (HX.o a c (aZ _) (by omega) (by omega) (by omega));by_cases e:p=c
    ·rw [e];exact hl
    exact hl.trans (cM.o c p (by omega) (by omega) q2)
   have lJ:=η hlv;clear HP hlv;go_wp2_with fail
   obtain⟨iN,fG⟩:∃z9,z9=c:=⟨_,rfl⟩;obtain⟨jN,fH⟩:∃z9,z9=a:=⟨_,rfl⟩;have ea:((c:Int)).toNat=iN:=by omega
   have pa:(0:Int)<=(c:Int):=by omega
   have ba:(c:Int)<(n:Int):=by omega
   have ra:aF.wrap ((c:Int))=(c:Int):=by rw [fZ];omega
   have ec:((a:Int)).toNat=jN:=by omega
   have pc:(0:Int)<=(a:Int):=by omega
   have bc:(a:Int)<(n:Int):=by omega
   have rc:aF.wrap ((a:Int))=(a:Int):=by rw [fZ];omega
   obtain⟨x,hx⟩:∃x,x=fn d (c):=⟨_,rfl⟩;obtain⟨y,hy⟩:∃x,x=fn d (a):=⟨_,rfl⟩;have la:=S1.o.cl T.o (c) (by omega);have lb:=S1.o.cl T.o (a) (by omega);rw [<-hx,<-fG] at la;rw [<-hy,<-fH] at lb;have hc:=S1.o.cmp T.o (c) (a) (by omega) (by omega);rw [<-hx,<-hy] at hc;have hv:¬cf x y<0:=by intro h9;rw [hx,hy] at h9;have h8:=(T.o.neg _ _ (S1.o.ok _ (by omega)) (S1.o.ok _ (by omega))).1 h9;have h7:=lJ.o;omega
   have hd:decide (cf x y<0)=aP:=decide_eq_false hv;clear hx hy fG fH;go_wp2_with fail
   go_quiet_grown (first|(go_at_fn g;refine Fk (hc _ _)))
   have S2:=η (S1.o.grown nq osq);clear la lb hc S1;generalize grow (wr.drewN nq) osq=w2 at S2 ⊢;clear nq osq ea ec pa pc ba bc ra rc hv hd;go_wp2
   go_roundg (c-i)
   case measure=>omega
   case rel=>exact⟨i,c,rfl,rfl,I7,by omega,by omega,aZ _,S2,mi⟩
  have ng:¬(i:Int)<(j:Int):=by omega
  have e:i=j:=by omega
  subst e;have HL:=η (aIb (k:=k) (f:=fn d) (a:=a) (b:=b) (i:=i) (HA.o▸cM.o) (by omega) (by omega) (λp q1 q2=>HP.o.1 p (by omega) q2) (λp q1 q2=>HP.o.2 p q1 q2));have wi:aF.wrap ((i:Int)-1)=(i:Int)-1:=by rw [fZ];omega
  clear HP;go_wp2_with fail
  go_loopg [13] i (λkx s wr=>∃(q:Nat) (dk:Array Int),s=aG aF q/\a<=q/\q+1<=i/\i-q<=kx/\Hid (Rw w0 blk off n ok dk wr)/\Hid (fn dk=dG (fn d) a (a+1) (q+1)))
  case atStart=>exact⟨a,d,rfl,aZ _,by omega,by omega,S1,(wA (fn d) (a:=a) (m:=a+1) (b:=a+1) (aU rfl)).symm⟩
  case round=>
   clear S1;obtain⟨q,dk,rfl,haq,hqi,lx,S1,HF⟩:=hrel;by_cases hlt:q+1<i
   ·have ng:(q:Int)<(i:Int)-1:=by omega
    have cJ:Hid (fn (swp dk q (q+1))=dG (fn d) a (a+1) (q+1+1)):=by show _=_;rw [MK dk (by rw [S1.o.size];omega) (by rw [S1.o.size];omega),HF.o];exact aK8 (fn d) (i:=q+1) (by omega)
    clear HF;go_wp2_with fail
    obtain⟨iN,fG⟩:∃z9,z9=q:=⟨_,rfl⟩;obtain⟨jN,fH⟩:∃z9,z9=q+1:=⟨_,rfl⟩;have ea:((q:Int)).toNat=iN:=by omega
    have pa:(0:Int)<=(q:Int):=by omega
    have ba:(q:Int)<(n:Int):=by omega
    have ra:aF.wrap ((q:Int))=(q:Int):=by rw [fZ];omega
    have ec:((q:Int)+1).toNat=jN:=by omega
    have pc:(0:Int)<=(q:Int)+1:=by omega
    have bc:(q:Int)+1<(n:Int):=by omega
    have rc:aF.wrap ((q:Int)+1)=(q:Int)+1:=by rw [fZ];omega
    obtain⟨x,hx⟩:∃x,x=fn dk (q):=⟨_,rfl⟩;obtain⟨y,hy⟩:∃x,x=fn dk (q+1):=⟨_,rfl⟩;have S3:Hid (Rw w0 blk off n ok (swp dk (q) (q+1)) ((wr.setCell ⟨blk,off+iN,aB⟩ (aG aF y)).setCell ⟨blk,off+jN,aB⟩ (aG aF x)).drew):=by rw [fG,fH,hx,hy];exact S1.o.swapped T.o (q) (q+1) (by omega) (by omega)
    have ca:=S1.o.c T.o (q) (by omega);have cb:=S1.o.c T.o (q+1) (by omega);have fa:=S1.o.f T.o (q) (by omega);have fb:=S1.o.f T.o (q+1) (by omega);obtain⟨u,cc⟩:=S1.o.c2 T.o (q) (q+1) (by omega) (by omega) (aG aF y);rw [<-fH,<-fG] at cc;rw [<-hx,<-fG] at ca;rw [<-hy,<-fH] at cb;rw [<-fG] at fa;rw [<-fH] at fb;clear S1 hx hy fG fH;go_wp2_with fail
    go_big_region
    clear ca cb cc fa fb;generalize ((wr.setCell ⟨blk,off+iN,aB⟩ (aG aF y)).setCell ⟨blk,off+jN,aB⟩ (aG aF x)).drew=w3 at S3 ⊢;clear ea ec pa pc ba bc ra rc;go_wp2
    go_roundg (i-(q+1))
    case measure=>omega
    case rel=>exact⟨q+1,swp dk q (q+1),by go_num,by omega,by omega,aZ _,S3,cJ⟩
   have ng:¬(q:Int)<(i:Int)-1:=by omega
   have e:q+1=i:=by omega
   go_wp2_with fail
   go_end0
   refine⟨rfl,dk, ?_, ?_,S1.o⟩
   ·rw [HF.o,e];exact HL.o.2
   rw [HF.o,e];exact HL.o.1
theorem aL8 {w0:aJ} {blk off n:Nat} {g:Nat} {cb:Array aN} {cf:Int->Int->Int} {k:Int->Int} {ok:Int->Prop} {d0:Array Int}(T0:sY w0 blk off n g cb cf k ok d0)(cap a m b:Nat)(d:Array Int)(w:aJ)(h:Rw w0 blk off n ok d w)(h1:a<m)(h2:m<b)(h3:b<=n)(hs1:cH k (fn d) a m)(hs2:cH k (fn d) m b)(hx:sL (fn d) a m b)(hA:m≠a+1)(hB:b=m+1):
 aQ aM 265 #[aH (aC ⟨blk,off,aB⟩) n cap,aG aF (a:Nat),aG aF (m:Nat),aG aF (b:Nat),.func (.func g) #[] cb] w (Lm w0 blk off n k ok d a b):=by
 have eg:=T0.enters;have hn:=T0.lt;have mixed:aM.follows .mixedOrders=aO:=by kernel_rfl
 have T:=η T0;have HH:=η h;have cY:=η hs1;have cM:=η hs2;have HX:=η hx;clear T0 h hs1 hs2 hx;have w1:aF.wrap ((m:Int)-(a:Int))=(m:Int)-(a:Int):=by rw [fZ];omega
 have n1:((m:Int)-(a:Int)==1)=aP:=by rw [beq_eq_false_iff_ne];omega
 have w2:aF.wrap ((b:Int)-(m:Int))=1:=by rw [fZ];omega
 have HB:=η hB;have VY:b<=m+1:=by omega
 clear hB;go_enter a0k,a1E
 go_wp2_with fail
 go_loopg [14,15] (m-a) (λkx s t wr=>∃(i j:Nat),s=aG aF i/\t=aG aF j/\a<=i/\i<=j/\j<=m/\j-i<=kx/\Hid (Rw w0 blk off n ok d wr)/\Hid ((∀p,a<=p->p<i->L k (fn d p) (fn d m))/\∀p,j<=p->p<m->L k (fn d m) (fn d p)))
 case atStart=>exact⟨a,m,rfl,rfl,aZ _,by omega,aZ _,aZ _,HH,λp _ _=>by omega,λp _ _=>by omega⟩
 case round=>
  clear HH;obtain⟨i,j,rfl,rfl,hai,rh,hjm,lx,S1,HP⟩:=hrel;by_cases hlt:i<j
  ·have ng:(i:Int)<(j:Int):=by omega
   obtain⟨c,hc0⟩:∃q,q=(i+j)/2:=⟨_,rfl⟩;have hcz:((i:Int)+(j:Int))/2=(c:Int):=by omega
   have Me:i<=c:=by omega
   have QN:c<j:=by omega
   clear hc0;by_cases hlv:k (fn d m)<k (fn d c)
   ·have mi:Hid ((∀p,a<=p->p<i->L k (fn d p) (fn d m))/\∀p,c<=p->p<m->L k (fn d m) (fn d p)):=by
     refine⟨HP.o.1,λp q1 q2=> ?_⟩;by_cases e:p=c
     ·rw [e];exact aS hlv
     exact L.trans (aS hlv) (cY.o c p (by omega) (by omega) q2)
    have lJ:=η hlv;clear HP hlv;go_wp2_with fail
    obtain⟨iN,fG⟩:∃z9,z9=m:=⟨_,rfl⟩;obtain⟨jN,fH⟩:∃z9,z9=c:=⟨_,rfl⟩;have ea:((m:Int)).toNat=iN:=by omega
    have pa:(0:Int)<=(m:Int):=by omega
    have ba:(m:Int)<(n:Int):=by omega
    have ra:aF.wrap ((m:Int))=(m:Int):=by rw [fZ];omega
    have ec:((c:Int)).toNat=jN:=by omega
    have pc:(0:Int)<=(c:Int):=by omega
    have bc:(c:Int)<(n:Int):=by omega
    have rc:aF.wrap ((c:Int))=(c:Int):=by rw [fZ];omega
    obtain⟨x,hx⟩:∃x,x=fn d (m):=⟨_,rfl⟩;obtain⟨y,hy⟩:∃x,x=fn d (c):=⟨_,rfl⟩;have la:=S1.o.cl T.o (m) (by omega);have lb:=S1.o.cl T.o (c) (by omega);rw [<-hx,<-fG] at la;rw [<-hy,<-fH] at lb;have hc:=S1.o.cmp T.o (m) (c) (by omega) (by omega);rw [<-hx,<-hy] at hc;have hv:cf x y<0:=by rw [hx,hy];exact(T.o.neg _ _ (S1.o.ok _ (by omega)) (S1.o.ok _ (by omega))).2 lJ.o
    have hd:decide (cf x y<0)=aO:=decide_eq_true hv;clear hx hy fG fH;go_wp2_with fail
    go_quiet_grown (first|(go_at_fn g;refine Fk (hc _ _)))
    have S2:=η (S1.o.grown nq osq);clear la lb hc S1;generalize grow (wr.drewN nq) osq=w2 at S2 ⊢;clear nq osq ea ec pa pc ba bc ra rc hv hd;go_wp2
    go_roundg (c-i)
    case measure=>omega
    case rel=>exact⟨i,c,rfl,rfl,hai,by omega,by omega,aZ _,S2,mi⟩
   have mi:Hid ((∀p,a<=p->p<c+1->L k (fn d p) (fn d m))/\∀p,j<=p->p<m->L k (fn d m) (fn d p)):=by
    refine⟨λp q1 q2=> ?_,HP.o.2⟩;have hl:L k (fn d c) (fn d m):=L.of_le hlv (HX.o c m (by omega) (by omega) (aZ _) (by omega));by_cases e:p=c
    ·rw [e];exact hl
    exact(cY.o p c q1 (by omega) (by omega)).trans hl
   have lJ:=η hlv;clear HP hlv;go_wp2_with fail
   obtain⟨iN,fG⟩:∃z9,z9=m:=⟨_,rfl⟩;obtain⟨jN,fH⟩:∃z9,z9=c:=⟨_,rfl⟩;have ea:((m:Int)).toNat=iN:=by omega
   have pa:(0:Int)<=(m:Int):=by omega
   have ba:(m:Int)<(n:Int):=by omega
   have ra:aF.wrap ((m:Int))=(m:Int):=by rw [fZ];omega
   have ec:((c:Int)).toNat=jN:=by omega
   have pc:(0:Int)<=(c:Int):=by omega
   have bc:(c:Int)<(n:Int):=by omega
   have rc:aF.wrap ((c:Int))=(c:Int):=by rw [fZ];omega
   obtain⟨x,hx⟩:∃x,x=fn d (m):=⟨_,rfl⟩;obtain⟨y,hy⟩:∃x,x=fn d (c):=⟨_,rfl⟩;have la:=S1.o.cl T.o (m) (by omega);have lb:=S1.o.cl T.o (c) (by omega);rw [<-hx,<-fG] at la;rw [<-hy,<-fH] at lb;have hc:=S1.o.cmp T.o (m) (c) (by omega) (by omega);rw [<-hx,<-hy] at hc;have hv:¬cf x y<0:=by intro h9;rw [hx,hy] at h9;have h8:=(T.o.neg _ _ (S1.o.ok _ (by omega)) (S1.o.ok _ (by omega))).1 h9;have h7:=lJ.o;omega
   have hd:decide (cf x y<0)=aP:=decide_eq_false hv;clear hx hy fG fH;go_wp2_with fail
   go_quiet_grown (first|(go_at_fn g;refine Fk (hc _ _)))
   have S2:=η (S1.o.grown nq osq);clear la lb hc S1;generalize grow (wr.drewN nq) osq=w2 at S2 ⊢;clear nq osq ea ec pa pc ba bc ra rc hv hd;go_wp2
   go_roundg (j-(c+1))
   case measure=>omega
   case rel=>exact⟨c+1,j,by go_num,rfl,by omega,by omega,hjm,aZ _,S2,mi⟩
  have ng:¬(i:Int)<(j:Int):=by omega
  have e:i=j:=by omega
  subst e;have HL:=η (aIa (k:=k) (f:=fn d) (a:=a) (m:=m) (i:=i) cY.o hai (by omega) HP.o.1 HP.o.2);clear HP;go_wp2_with fail
  go_loopg [17] m (λkx s wr=>∃(q:Nat) (dk:Array Int),s=aG aF q/\i<=q/\q<=m/\q<=kx/\Hid (Rw w0 blk off n ok dk wr)/\Hid (fn dk=dG (fn d) q m (m+1)))
  case atStart=>exact⟨m,d,rfl,by omega,aZ _,aZ _,S1,(wA (fn d) (a:=m) (m:=m) (b:=m+1) (aS rfl)).symm⟩
  case round=>
   clear S1;obtain⟨q,dk,rfl,hiq,hqm,lx,S1,HF⟩:=hrel;by_cases hlt:i<q
   ·have ng:(i:Int)<(q:Int):=by omega
    obtain⟨jp,hjp⟩:∃t,t+1=q:=⟨q-1,by omega⟩;have zjp:(q:Int)=(jp:Int)+1:=by omega
    have aMk:(i:Int)<(jp:Int)+1:=by omega
    have cJ:Hid (fn (swp dk q (q-1))=dG (fn d) (q-1) m (m+1)):=by show _=_;rw [MK dk (by rw [S1.o.size];omega) (by rw [S1.o.size];omega),HF.o,<-hjp];exact aK4 (fn d) (i:=jp) (by omega)
    clear HF;go_wp2_with fail
    obtain⟨iN,fG⟩:∃z9,z9=q:=⟨_,rfl⟩;obtain⟨jN,fH⟩:∃z9,z9=q-1:=⟨_,rfl⟩;have ea:((jp:Int)+1).toNat=iN:=by omega
    have pa:(0:Int)<=(jp:Int)+1:=by omega
    have ba:(jp:Int)+1<(n:Int):=by omega
    have ra:aF.wrap ((jp:Int)+1)=(jp:Int)+1:=by rw [fZ];omega
    have ec:((jp:Int)).toNat=jN:=by omega
    have pc:(0:Int)<=(jp:Int):=by omega
    have bc:(jp:Int)<(n:Int):=by omega
    have rc:aF.wrap ((jp:Int))=(jp:Int):=by rw [fZ];omega
    obtain⟨x,hx⟩:∃x,x=fn dk (q):=⟨_,rfl⟩;obtain⟨y,hy⟩:∃x,x=fn dk (q-1):=⟨_,rfl⟩;have S3:Hid (Rw w0 blk off n ok (swp dk (q) (q-1)) ((wr.setCell ⟨blk,off+iN,aB⟩ (aG aF y)).setCell ⟨blk,off+jN,aB⟩ (aG aF x)).drew):=by rw [fG,fH,hx,hy];exact S1.o.swapped T.o (q) (q-1) (by omega) (by omega)
    have ca:=S1.o.c T.o (q) (by omega);have cb:=S1.o.c T.o (q-1) (by omega);have fa:=S1.o.f T.o (q) (by omega);have fb:=S1.o.f T.o (q-1) (by omega);obtain⟨u,cc⟩:=S1.o.c2 T.o (q) (q-1) (by omega) (by omega) (aG aF y);rw [<-fH,<-fG] at cc;rw [<-hx,<-fG] at ca;rw [<-hy,<-fH] at cb;rw [<-fG] at fa;rw [<-fH] at fb;clear S1 hx hy fG fH;go_wp2_with fail
    go_big_region
    clear ca cb cc fa fb;generalize ((wr.setCell ⟨blk,off+iN,aB⟩ (aG aF y)).setCell ⟨blk,off+jN,aB⟩ (aG aF x)).drew=w3 at S3 ⊢;clear ea ec pa pc ba bc ra rc;go_wp2
    go_roundg (q-1)
    case measure=>omega
    case rel=>exact⟨q-1,swp dk q (q-1),by first|rfl|go_num|(congr 1;omega),by omega,by omega,aZ _,S3,cJ⟩
   have ng:¬(i:Int)<(q:Int):=by omega
   have e:q=i:=by omega
   go_wp2_with fail
   go_end0
   refine⟨rfl,dk, ?_, ?_,S1.o⟩
   ·rw [HF.o,e,HB.o];exact HL.o.2
   rw [HF.o,e,HB.o];exact HL.o.1
end
section
open Go.Lib Go.Sort Go.Shelf Go.Proofs.YtdokipdchlcmeaaGreat.pG
theorem aL9 {w0:aJ} {blk off n:Nat} {g:Nat} {cb:Array aN} {cf:Int->Int->Int} {k:Int->Int} {ok:Int->Prop} {d0:Array Int}(T0:sY w0 blk off n g cb cf k ok d0)(cap a m b:Nat)(d:Array Int)(w:aJ)(h:Rw w0 blk off n ok d w)(h1:a<m)(h2:m<b)(h3:b<=n)(hs1:cH k (fn d) a m)(hs2:cH k (fn d) m b)(hx:sL (fn d) a m b)(_:m≠a+1)(hB:b≠m+1)(mid:Nat)(WY:mid=(a+b)/2)
 (ih:∀(a' m' b':Nat) (d':Array Int) (w':aJ),b'-a'<b-a->a'<m'->m'<b'->b'<=n->Rw w0 blk off n ok d' w'->cH k (fn d') a' m'->cH k (fn d') m' b'->sL (fn d') a' m' b'->aQ aM 265 #[aH (aC ⟨blk,off,aB⟩) n cap,aG aF (a':Nat),aG aF (m':Nat),aG aF (b':Nat),.func (.func g) #[] cb] w' (Lm w0 blk off n k ok d' a' b')):
 aQ aM 265 #[aH (aC ⟨blk,off,aB⟩) n cap,aG aF (a:Nat),aG aF (m:Nat),aG aF (b:Nat),.func (.func g) #[] cb] w (Lm w0 blk off n k ok d a b):=by
 obtain⟨lo,hi,HC⟩:∃lo hi:Nat,((mid:Int)<(m:Int)/\lo=mid+m-b/\hi=mid)\/(¬(mid:Int)<(m:Int)/\lo=a/\hi=m):=by
  by_cases q:(mid:Int)<(m:Int)
  ·exact⟨_,_,aS ⟨q,rfl,rfl⟩⟩
  exact⟨_,_,aU ⟨q,rfl,rfl⟩⟩
 have eg:=T0.enters;have hn:=T0.lt;have mixed:aM.follows .mixedOrders=aO:=by kernel_rfl
 have T:=η T0;have HH:=η h;have cY:=η hs1;have cM:=η hs2;have HX:=η hx;clear T0 h hs1 hs2 hx;have IH:=η ih;clear ih;have w1:aF.wrap ((m:Int)-(a:Int))=(m:Int)-(a:Int):=by rw [fZ];omega
 have n1:((m:Int)-(a:Int)==1)=aP:=by rw [beq_eq_false_iff_ne];omega
 have w2:aF.wrap ((b:Int)-(m:Int))=(b:Int)-(m:Int):=by rw [fZ];omega
 have n2:((b:Int)-(m:Int)==1)=aP:=by rw [beq_eq_false_iff_ne];omega
 have hmz:((a:Int)+(b:Int))/2=(mid:Int):=by omega
 have tK:a+b<=2*mid+1:=by omega
 have xR:2*mid<=a+b:=by omega
 clear WY;rcases HC with⟨mR,nZ,DV⟩|⟨mR,nZ,DV⟩
 all_goals
  go_enter a0k,a1E
  go_wp2_with fail
  go_loopg [20,21] (b-a) (λkx s t wr=>∃(i j:Nat),s=aG aF i/\t=aG aF j/\lo<=i/\i<=j/\j<=hi/\j-i<=kx/\Hid (Rw w0 blk off n ok d wr)/\Hid (vF k (fn d) (mid+m) lo hi i j))
  case atStart=>exact⟨lo,hi,by congr 1;omega,by congr 1;omega,aZ _,by omega,aZ _,by omega,HH,vF.start _ _ (by omega)⟩
  case round=>
   clear HH;obtain⟨s,r,rfl,rfl,hs0,hsr,IC,lx,S1,HP⟩:=hrel;by_cases hlt:s<r
   ·have ng:(s:Int)<(r:Int):=by omega
    obtain⟨c,hc0⟩:∃q,q=(s+r)/2:=⟨_,rfl⟩;have hcz:((s:Int)+(r:Int))/2=(c:Int):=by omega
    have Me:s<=c:=by omega
    have QN:c<r:=by omega
    clear hc0;obtain⟨nG,Qf⟩:∃z9,z9=mid+m-1-c:=⟨_,rfl⟩;have hpz:(mid:Int)+(m:Int)-1-(c:Int)=(nG:Int):=by omega
    have mU:nG<b:=by omega
    have jV:m<=nG:=by omega
    by_cases hlv:k (fn d nG)<k (fn d c)
    ·have mi:=η (HP.o.left Me QN (Qf▸ aS hlv));clear Qf;have lJ:=η hlv;clear HP hlv;go_wp2_with fail
     obtain⟨iN,fG⟩:∃z9,z9=nG:=⟨_,rfl⟩;obtain⟨jN,fH⟩:∃z9,z9=c:=⟨_,rfl⟩;have ea:((nG:Int)).toNat=iN:=by omega
     have pa:(0:Int)<=(nG:Int):=by omega
     have ba:(nG:Int)<(n:Int):=by omega
     have ra:aF.wrap ((nG:Int))=(nG:Int):=by rw [fZ];omega
     have ec:((c:Int)).toNat=jN:=by omega
     have pc:(0:Int)<=(c:Int):=by omega
     have bc:(c:Int)<(n:Int):=by omega
     have rc:aF.wrap ((c:Int))=(c:Int):=by rw [fZ];omega
     obtain⟨x,hx⟩:∃x,x=fn d (nG):=⟨_,rfl⟩;obtain⟨y,hy⟩:∃x,x=fn d (c):=⟨_,rfl⟩;have la:=S1.o.cl T.o (nG) (by omega);have lb:=S1.o.cl T.o (c) (by omega);rw [<-hx,<-fG] at la;rw [<-hy,<-fH] at lb;have hc:=S1.o.cmp T.o (nG) (c) (by omega) (by omega);rw [<-hx,<-hy] at hc;have hv:cf x y<0:=by rw [hx,hy];exact(T.o.neg _ _ (S1.o.ok _ (by omega)) (S1.o.ok _ (by omega))).2 lJ.o
     have hd:decide (cf x y<0)=aO:=decide_eq_true hv;clear hx hy fG fH;go_wp2_with fail
     go_quiet_grown (first|(go_at_fn g;refine Fk (hc _ _)))
     have S2:=η (S1.o.grown nq osq);clear la lb hc S1;generalize grow (wr.drewN nq) osq=w2 at S2 ⊢;clear nq osq ea ec pa pc ba bc ra rc hv hd;go_wp2
     go_roundg (c-s)
     case measure=>omega
     case rel=>exact⟨s,c,rfl,rfl,hs0,by omega,by omega,aZ _,S2,mi⟩
    have mi:=η (HP.o.right Me QN (Qf▸L.of_le hlv (HX.o c nG (by omega) (by omega) (by omega) (by omega))));clear Qf;have lJ:=η hlv;clear HP hlv;go_wp2_with fail
    obtain⟨iN,fG⟩:∃z9,z9=nG:=⟨_,rfl⟩;obtain⟨jN,fH⟩:∃z9,z9=c:=⟨_,rfl⟩;have ea:((nG:Int)).toNat=iN:=by omega
    have pa:(0:Int)<=(nG:Int):=by omega
    have ba:(nG:Int)<(n:Int):=by omega
    have ra:aF.wrap ((nG:Int))=(nG:Int):=by rw [fZ];omega
    have ec:((c:Int)).toNat=jN:=by omega
    have pc:(0:Int)<=(c:Int):=by omega
    have bc:(c:Int)<(n:Int):=by omega
    have rc:aF.wrap ((c:Int))=(c:Int):=by rw [fZ];omega
    obtain⟨x,hx⟩:∃x,x=fn d (nG):=⟨_,rfl⟩;obtain⟨y,hy⟩:∃x,x=fn d (c):=⟨_,rfl⟩;have la:=S1.o.cl T.o (nG) (by omega);have lb:=S1.o.cl T.o (c) (by omega);rw [<-hx,<-fG] at la;rw [<-hy,<-fH] at lb;have hc:=S1.o.cmp T.o (nG) (c) (by omega) (by omega);rw [<-hx,<-hy] at hc;have hv:¬cf x y<0:=by intro h9;rw [hx,hy] at h9;have h8:=(T.o.neg _ _ (S1.o.ok _ (by omega)) (S1.o.ok _ (by omega))).1 h9;have h7:=lJ.o;omega
    have hd:decide (cf x y<0)=aP:=decide_eq_false hv;clear hx hy fG fH;go_wp2_with fail
    go_quiet_grown (first|(go_at_fn g;refine Fk (hc _ _)))
    have S2:=η (S1.o.grown nq osq);clear la lb hc S1;generalize grow (wr.drewN nq) osq=w2 at S2 ⊢;clear nq osq ea ec pa pc ba bc ra rc hv hd;go_wp2
    go_roundg (r-(c+1))
    case measure=>omega
    case rel=>exact⟨c+1,r,by go_num,rfl,by omega,by omega,IC,aZ _,S2,mi⟩
   have ng:¬(s:Int)<(r:Int):=by omega
   have jB:Hid (Cut k (fn d) a m b mid s):=by
    subst nZ DV
    first
     |exact HP.o.aET hlt (by omega) (by omega) (by omega)
     |exact HP.o.aEU hlt (by omega) (by omega)
   clear HP;obtain⟨en,hen⟩:∃q,q=mid+m-s:=⟨_,rfl⟩;have hez:(mid:Int)+(m:Int)-(s:Int)=(en:Int):=by omega
   have iu:=η hen;have Vv:en+s<=mid+m:=by omega
   have Vw:mid+m<=en+s:=by omega
   clear hen;by_cases q1:s<m
   ·have f1:(s:Int)<(m:Int):=by omega
    have f5:(mid:Int)<(en:Int):=by omega
    by_cases q2:s<mid
    ·have f2:(s:Int)<(mid:Int):=by omega
     have f6:(m:Int)<(en:Int):=by omega
     by_cases q3:a<s
     ·have f3:(a:Int)<(s:Int):=by omega
      by_cases q4:en<b
      ·have f4:(en:Int)<(b:Int):=by omega
       have HR:=η (Rp S1.o T.o (.func (.func g) #[] cb) cap s m en (by omega) (by omega) (by omega));go_wp2_with fail
       refine HR.o.mono ?_;rintro e w2 ⟨rfl,d2,hf2,R2⟩;have cJ:=η hf2;have S2:=η R2;clear hf2 R2 HR;have cQ:=η (jB.o.halves cY.o cM.o HX.o);rw [<-iu.o,<-cJ.o] at cQ;have HI:=η (IH.o a s mid d2 w2 (by omega) (by omega) (by omega) (by omega) S2.o cQ.o.1 cQ.o.2.1 cQ.o.2.2.1);go_wp2_with fail
       refine HI.o.mono ?_;rintro e w3 ⟨rfl,d3,AP,s3,R3⟩;have dx:=η AP;have jR:=η s3;have S3:=η R3;clear AP s3 R3 HI;have fY:=η (IH.o mid en b d3 w3 (by omega) (by omega) (by omega) (by omega) S3.o (cH.o cQ.o.2.2.2.1 λp q1 q2=>dx.o.o p (aU q1)) (cH.o cQ.o.2.2.2.2.1 λp q1 q2=>dx.o.o p (aU (by omega))) (sL.o cQ.o.2.2.2.2.2 λp q1 q2=>dx.o.o p (aU q1)));go_wp2_with fail
       refine fY.o.mono ?_;rintro e w4 ⟨rfl,d4,AQ,s4,R4⟩;have jQ:=η AQ;have jS:=η s4;have S4:=η R4;clear AQ s4 R4 fY;have HL:=η (jB.o.law cY.o cM.o (by rw [<-iu.o];exact cJ.o) dx.o jR.o jQ.o jS.o (by omega) (by omega));go_wp2_with fail
       all_goals go_end0
       all_goals exact⟨rfl,d4,HL.o.2,HL.o.1,S4.o⟩
      have f4:¬(en:Int)<(b:Int):=by omega
      have HR:=η (Rp S1.o T.o (.func (.func g) #[] cb) cap s m en (by omega) (by omega) (by omega));go_wp2_with fail
      refine HR.o.mono ?_;rintro e w2 ⟨rfl,d2,hf2,R2⟩;have cJ:=η hf2;have S2:=η R2;clear hf2 R2 HR;have cQ:=η (jB.o.halves cY.o cM.o HX.o);rw [<-iu.o,<-cJ.o] at cQ;have HI:=η (IH.o a s mid d2 w2 (by omega) (by omega) (by omega) (by omega) S2.o cQ.o.1 cQ.o.2.1 cQ.o.2.2.1);go_wp2_with fail
      refine HI.o.mono ?_;rintro e w3 ⟨rfl,d3,AP,s3,R3⟩;have dx:=η AP;have jR:=η s3;have S3:=η R3;clear AP s3 R3 HI;have jQ:=η (cd.refl (fn d3) mid b);have jS:Hid (cH k (fn d3) mid b):=cH.o ((show en=b by omega)▸cQ.o.2.2.2.1) λp q1 q2=>dx.o.o p (aU (by omega))
      have HL:=η (jB.o.law cY.o cM.o (by rw [<-iu.o];exact cJ.o) dx.o jR.o jQ.o jS.o (by omega) (by omega));go_wp2_with fail
      all_goals go_end0
      all_goals exact⟨rfl,d3,HL.o.2,HL.o.1,S3.o⟩
     have f3:¬(a:Int)<(s:Int):=by omega
     by_cases q4:en<b
     ·have f4:(en:Int)<(b:Int):=by omega
      have HR:=η (Rp S1.o T.o (.func (.func g) #[] cb) cap s m en (by omega) (by omega) (by omega));go_wp2_with fail
      refine HR.o.mono ?_;rintro e w2 ⟨rfl,d2,hf2,R2⟩;have cJ:=η hf2;have S2:=η R2;clear hf2 R2 HR;have cQ:=η (jB.o.halves cY.o cM.o HX.o);rw [<-iu.o,<-cJ.o] at cQ;have dx:=η (cd.refl (fn d2) a mid);have jR:Hid (cH k (fn d2) a mid):=(show s=a by omega)▸cQ.o.2.1;have fY:=η (IH.o mid en b d2 w2 (by omega) (by omega) (by omega) (by omega) S2.o (cH.o cQ.o.2.2.2.1 λp q1 q2=>dx.o.o p (aU q1)) (cH.o cQ.o.2.2.2.2.1 λp q1 q2=>dx.o.o p (aU (by omega))) (sL.o cQ.o.2.2.2.2.2 λp q1 q2=>dx.o.o p (aU q1)));go_wp2_with fail
      refine fY.o.mono ?_;rintro e w4 ⟨rfl,d4,AQ,s4,R4⟩;have jQ:=η AQ;have jS:=η s4;have S4:=η R4;clear AQ s4 R4 fY;have HL:=η (jB.o.law cY.o cM.o (by rw [<-iu.o];exact cJ.o) dx.o jR.o jQ.o jS.o (by omega) (by omega));go_wp2_with fail
      all_goals go_end0
      all_goals exact⟨rfl,d4,HL.o.2,HL.o.1,S4.o⟩
     have f4:¬(en:Int)<(b:Int):=by omega
     have HR:=η (Rp S1.o T.o (.func (.func g) #[] cb) cap s m en (by omega) (by omega) (by omega));go_wp2_with fail
     refine HR.o.mono ?_;rintro e w2 ⟨rfl,d2,hf2,R2⟩;have cJ:=η hf2;have S2:=η R2;clear hf2 R2 HR;have cQ:=η (jB.o.halves cY.o cM.o HX.o);rw [<-iu.o,<-cJ.o] at cQ;have dx:=η (cd.refl (fn d2) a mid);have jR:Hid (cH k (fn d2) a mid):=(show s=a by omega)▸cQ.o.2.1;have jQ:=η (cd.refl (fn d2) mid b);have jS:Hid (cH k (fn d2) mid b):=cH.o ((show en=b by omega)▸cQ.o.2.2.2.1) λp q1 q2=>dx.o.o p (aU (by omega))
     have HL:=η (jB.o.law cY.o cM.o (by rw [<-iu.o];exact cJ.o) dx.o jR.o jQ.o jS.o (by omega) (by omega));go_wp2_with fail
     all_goals go_end0
     all_goals exact⟨rfl,d2,HL.o.2,HL.o.1,S2.o⟩
    have f2:¬(s:Int)<(mid:Int):=by omega
    have f6:¬(m:Int)<(en:Int):=by omega
    by_cases q3:a<s
    ·have f3:(a:Int)<(s:Int):=by omega
     by_cases q4:en<b
     ·have f4:(en:Int)<(b:Int):=by omega
      have cJ:Hid (fn d=dG (fn d) s m en):=(wA _ (aU (by omega))).symm;have cQ:=η (jB.o.halves cY.o cM.o HX.o);rw [<-iu.o,<-cJ.o] at cQ;have dx:=η (cd.refl (fn d) a mid);have jR:Hid (cH k (fn d) a mid):=(show s=mid by omega)▸cQ.o.1;have fY:=η (IH.o mid en b d wr (by omega) (by omega) (by omega) (by omega) S1.o (cH.o cQ.o.2.2.2.1 λp q1 q2=>dx.o.o p (aU q1)) (cH.o cQ.o.2.2.2.2.1 λp q1 q2=>dx.o.o p (aU (by omega))) (sL.o cQ.o.2.2.2.2.2 λp q1 q2=>dx.o.o p (aU q1)));go_wp2_with fail
      refine fY.o.mono ?_;rintro e w4 ⟨rfl,d4,AQ,s4,R4⟩;have jQ:=η AQ;have jS:=η s4;have S4:=η R4;clear AQ s4 R4 fY;have HL:=η (jB.o.law cY.o cM.o (by rw [<-iu.o];exact cJ.o) dx.o jR.o jQ.o jS.o (by omega) (by omega));go_wp2_with fail
      all_goals go_end0
      all_goals exact⟨rfl,d4,HL.o.2,HL.o.1,S4.o⟩
     have f4:¬(en:Int)<(b:Int):=by omega
     have cJ:Hid (fn d=dG (fn d) s m en):=(wA _ (aU (by omega))).symm;have cQ:=η (jB.o.halves cY.o cM.o HX.o);rw [<-iu.o,<-cJ.o] at cQ;have dx:=η (cd.refl (fn d) a mid);have jR:Hid (cH k (fn d) a mid):=(show s=mid by omega)▸cQ.o.1;have jQ:=η (cd.refl (fn d) mid b);have jS:Hid (cH k (fn d) mid b):=cH.o ((show en=b by omega)▸cQ.o.2.2.2.1) λp q1 q2=>dx.o.o p (aU (by omega))
     have HL:=η (jB.o.law cY.o cM.o (by rw [<-iu.o];exact cJ.o) dx.o jR.o jQ.o jS.o (by omega) (by omega));go_wp2_with fail
     all_goals go_end0
     all_goals exact⟨rfl,d,HL.o.2,HL.o.1,S1.o⟩
    have f3:¬(a:Int)<(s:Int):=by omega
    by_cases q4:en<b
    ·have f4:(en:Int)<(b:Int):=by omega
     have cJ:Hid (fn d=dG (fn d) s m en):=(wA _ (aU (by omega))).symm;have cQ:=η (jB.o.halves cY.o cM.o HX.o);rw [<-iu.o,<-cJ.o] at cQ;have dx:=η (cd.refl (fn d) a mid);have jR:Hid (cH k (fn d) a mid):=(show s=mid by omega)▸cQ.o.1;have fY:=η (IH.o mid en b d wr (by omega) (by omega) (by omega) (by omega) S1.o (cH.o cQ.o.2.2.2.1 λp q1 q2=>dx.o.o p (aU q1)) (cH.o cQ.o.2.2.2.2.1 λp q1 q2=>dx.o.o p (aU (by omega))) (sL.o cQ.o.2.2.2.2.2 λp q1 q2=>dx.o.o p (aU q1)));go_wp2_with fail
     refine fY.o.mono ?_;rintro e w4 ⟨rfl,d4,AQ,s4,R4⟩;have jQ:=η AQ;have jS:=η s4;have S4:=η R4;clear AQ s4 R4 fY;have HL:=η (jB.o.law cY.o cM.o (by rw [<-iu.o];exact cJ.o) dx.o jR.o jQ.o jS.o (by omega) (by omega));go_wp2_with fail
     all_goals go_end0
     all_goals exact⟨rfl,d4,HL.o.2,HL.o.1,S4.o⟩
    have f4:¬(en:Int)<(b:Int):=by omega
    have cJ:Hid (fn d=dG (fn d) s m en):=(wA _ (aU (by omega))).symm;have cQ:=η (jB.o.halves cY.o cM.o HX.o);rw [<-iu.o,<-cJ.o] at cQ;have dx:=η (cd.refl (fn d) a mid);have jR:Hid (cH k (fn d) a mid):=(show s=mid by omega)▸cQ.o.1;have jQ:=η (cd.refl (fn d) mid b);have jS:Hid (cH k (fn d) mid b):=cH.o ((show en=b by omega)▸cQ.o.2.2.2.1) λp q1 q2=>dx.o.o p (aU (by omega))
    have HL:=η (jB.o.law cY.o cM.o (by rw [<-iu.o];exact cJ.o) dx.o jR.o jQ.o jS.o (by omega) (by omega));go_wp2_with fail
    all_goals go_end0
    all_goals exact⟨rfl,d,HL.o.2,HL.o.1,S1.o⟩
   have f1:¬(s:Int)<(m:Int):=by omega
   have f5:¬(mid:Int)<(en:Int):=by omega
   by_cases q2:s<mid
   ·have f2:(s:Int)<(mid:Int):=by omega
    have f6:(m:Int)<(en:Int):=by omega
    by_cases q3:a<s
    ·have f3:(a:Int)<(s:Int):=by omega
     by_cases q4:en<b
     ·have f4:(en:Int)<(b:Int):=by omega
      have cJ:Hid (fn d=dG (fn d) s m en):=(wA _ (aS (by omega))).symm;have cQ:=η (jB.o.halves cY.o cM.o HX.o);rw [<-iu.o,<-cJ.o] at cQ;have HI:=η (IH.o a s mid d wr (by omega) (by omega) (by omega) (by omega) S1.o cQ.o.1 cQ.o.2.1 cQ.o.2.2.1);go_wp2_with fail
      refine HI.o.mono ?_;rintro e w3 ⟨rfl,d3,AP,s3,R3⟩;have dx:=η AP;have jR:=η s3;have S3:=η R3;clear AP s3 R3 HI;have jQ:=η (cd.refl (fn d3) mid b);have jS:Hid (cH k (fn d3) mid b):=cH.o ((show en=mid by omega)▸cQ.o.2.2.2.2.1) λp q1 q2=>dx.o.o p (aU (by omega))
      have HL:=η (jB.o.law cY.o cM.o (by rw [<-iu.o];exact cJ.o) dx.o jR.o jQ.o jS.o (by omega) (by omega));go_wp2_with fail
      all_goals go_end0
      all_goals exact⟨rfl,d3,HL.o.2,HL.o.1,S3.o⟩
     have f4:¬(en:Int)<(b:Int):=by omega
     have cJ:Hid (fn d=dG (fn d) s m en):=(wA _ (aS (by omega))).symm;have cQ:=η (jB.o.halves cY.o cM.o HX.o);rw [<-iu.o,<-cJ.o] at cQ;have HI:=η (IH.o a s mid d wr (by omega) (by omega) (by omega) (by omega) S1.o cQ.o.1 cQ.o.2.1 cQ.o.2.2.1);go_wp2_with fail
     refine HI.o.mono ?_;rintro e w3 ⟨rfl,d3,AP,s3,R3⟩;have dx:=η AP;have jR:=η s3;have S3:=η R3;clear AP s3 R3 HI;have jQ:=η (cd.refl (fn d3) mid b);have jS:Hid (cH k (fn d3) mid b):=cH.o ((show en=mid by omega)▸cQ.o.2.2.2.2.1) λp q1 q2=>dx.o.o p (aU (by omega))
     have HL:=η (jB.o.law cY.o cM.o (by rw [<-iu.o];exact cJ.o) dx.o jR.o jQ.o jS.o (by omega) (by omega));go_wp2_with fail
     all_goals go_end0
     all_goals exact⟨rfl,d3,HL.o.2,HL.o.1,S3.o⟩
    have f3:¬(a:Int)<(s:Int):=by omega
    by_cases q4:en<b
    ·have f4:(en:Int)<(b:Int):=by omega
     have cJ:Hid (fn d=dG (fn d) s m en):=(wA _ (aS (by omega))).symm;have cQ:=η (jB.o.halves cY.o cM.o HX.o);rw [<-iu.o,<-cJ.o] at cQ;have dx:=η (cd.refl (fn d) a mid);have jR:Hid (cH k (fn d) a mid):=(show s=a by omega)▸cQ.o.2.1;have jQ:=η (cd.refl (fn d) mid b);have jS:Hid (cH k (fn d) mid b):=cH.o ((show en=mid by omega)▸cQ.o.2.2.2.2.1) λp q1 q2=>dx.o.o p (aU (by omega))
     have HL:=η (jB.o.law cY.o cM.o (by rw [<-iu.o];exact cJ.o) dx.o jR.o jQ.o jS.o (by omega) (by omega));go_wp2_with fail
     all_goals go_end0
     all_goals exact⟨rfl,d,HL.o.2,HL.o.1,S1.o⟩
    have f4:¬(en:Int)<(b:Int):=by omega
    have cJ:Hid (fn d=dG (fn d) s m en):=(wA _ (aS (by omega))).symm;have cQ:=η (jB.o.halves cY.o cM.o HX.o);rw [<-iu.o,<-cJ.o] at cQ;have dx:=η (cd.refl (fn d) a mid);have jR:Hid (cH k (fn d) a mid):=(show s=a by omega)▸cQ.o.2.1;have jQ:=η (cd.refl (fn d) mid b);have jS:Hid (cH k (fn d) mid b):=cH.o ((show en=mid by omega)▸cQ.o.2.2.2.2.1) λp q1 q2=>dx.o.o p (aU (by omega))
    have HL:=η (jB.o.law cY.o cM.o (by rw [<-iu.o];exact cJ.o) dx.o jR.o jQ.o jS.o (by omega) (by omega));go_wp2_with fail
    all_goals go_end0
    all_goals exact⟨rfl,d,HL.o.2,HL.o.1,S1.o⟩
   have f2:¬(s:Int)<(mid:Int):=by omega
   have f6:¬(m:Int)<(en:Int):=by omega
   by_cases q3:a<s
   ·have f3:(a:Int)<(s:Int):=by omega
    by_cases q4:en<b
    ·have f4:(en:Int)<(b:Int):=by omega
     have cJ:Hid (fn d=dG (fn d) s m en):=(wA _ (aS (by omega))).symm;have cQ:=η (jB.o.halves cY.o cM.o HX.o);rw [<-iu.o,<-cJ.o] at cQ;have dx:=η (cd.refl (fn d) a mid);have jR:Hid (cH k (fn d) a mid):=(show s=mid by omega)▸cQ.o.1;have jQ:=η (cd.refl (fn d) mid b);have jS:Hid (cH k (fn d) mid b):=cH.o ((show en=mid by omega)▸cQ.o.2.2.2.2.1) λp q1 q2=>dx.o.o p (aU (by omega))
     have HL:=η (jB.o.law cY.o cM.o (by rw [<-iu.o];exact cJ.o) dx.o jR.o jQ.o jS.o (by omega) (by omega));go_wp2_with fail
     all_goals go_end0
     all_goals exact⟨rfl,d,HL.o.2,HL.o.1,S1.o⟩
    have f4:¬(en:Int)<(b:Int):=by omega
    have cJ:Hid (fn d=dG (fn d) s m en):=(wA _ (aS (by omega))).symm;have cQ:=η (jB.o.halves cY.o cM.o HX.o);rw [<-iu.o,<-cJ.o] at cQ;have dx:=η (cd.refl (fn d) a mid);have jR:Hid (cH k (fn d) a mid):=(show s=mid by omega)▸cQ.o.1;have jQ:=η (cd.refl (fn d) mid b);have jS:Hid (cH k (fn d) mid b):=cH.o ((show en=mid by omega)▸cQ.o.2.2.2.2.1) λp q1 q2=>dx.o.o p (aU (by omega))
    have HL:=η (jB.o.law cY.o cM.o (by rw [<-iu.o];exact cJ.o) dx.o jR.o jQ.o jS.o (by omega) (by omega));go_wp2_with fail
    all_goals go_end0
    all_goals exact⟨rfl,d,HL.o.2,HL.o.1,S1.o⟩
   have f3:¬(a:Int)<(s:Int):=by omega
   by_cases q4:en<b
   ·have f4:(en:Int)<(b:Int):=by omega
    have cJ:Hid (fn d=dG (fn d) s m en):=(wA _ (aS (by omega))).symm;have cQ:=η (jB.o.halves cY.o cM.o HX.o);rw [<-iu.o,<-cJ.o] at cQ;have dx:=η (cd.refl (fn d) a mid);have jR:Hid (cH k (fn d) a mid):=(show s=mid by omega)▸cQ.o.1;have jQ:=η (cd.refl (fn d) mid b);have jS:Hid (cH k (fn d) mid b):=cH.o ((show en=mid by omega)▸cQ.o.2.2.2.2.1) λp q1 q2=>dx.o.o p (aU (by omega))
    have HL:=η (jB.o.law cY.o cM.o (by rw [<-iu.o];exact cJ.o) dx.o jR.o jQ.o jS.o (by omega) (by omega));go_wp2_with fail
    all_goals go_end0
    all_goals exact⟨rfl,d,HL.o.2,HL.o.1,S1.o⟩
   have f4:¬(en:Int)<(b:Int):=by omega
   have cJ:Hid (fn d=dG (fn d) s m en):=(wA _ (aS (by omega))).symm;have cQ:=η (jB.o.halves cY.o cM.o HX.o);rw [<-iu.o,<-cJ.o] at cQ;have dx:=η (cd.refl (fn d) a mid);have jR:Hid (cH k (fn d) a mid):=(show s=mid by omega)▸cQ.o.1;have jQ:=η (cd.refl (fn d) mid b);have jS:Hid (cH k (fn d) mid b):=cH.o ((show en=mid by omega)▸cQ.o.2.2.2.2.1) λp q1 q2=>dx.o.o p (aU (by omega))
   have HL:=η (jB.o.law cY.o cM.o (by rw [<-iu.o];exact cJ.o) dx.o jR.o jQ.o jS.o (by omega) (by omega));go_wp2_with fail
   all_goals go_end0
   all_goals exact⟨rfl,d,HL.o.2,HL.o.1,S1.o⟩
end
section
open Go.Lib Go.Sort Go.Shelf Go.Proofs.YtdokipdchlcmeaaGreat.pG
theorem YP {w0:aJ} {blk off n:Nat} {g:Nat} {cb:Array aN} {cf:Int->Int->Int} {k:Int->Int} {ok:Int->Prop} {d0:Array Int}(T:sY w0 blk off n g cb cf k ok d0)(cap:Nat):∀(N a m b:Nat) (d:Array Int) (w:aJ),b-a<=N->a<m->m<b->b<=n->Rw w0 blk off n ok d w->cH k (fn d) a m->cH k (fn d) m b->sL (fn d) a m b->
 aQ aM 265 #[aH (aC ⟨blk,off,aB⟩) n cap,aG aF (a:Nat),aG aF (m:Nat),aG aF (b:Nat),.func (.func g) #[] cb] w (Lm w0 blk off n k ok d a b)
 |0,a,m,b,d,w,hN,h1,h2,_,_,_,_,_=>by omega
 |N+1,a,m,b,d,w,hN,h1,h2,h3,h,hs1,hs2,hx=>by
  by_cases hA:m=a+1
  ·exact aL7 T cap a m b d w h h1 h2 h3 hs1 hs2 hx hA
  by_cases hB:b=m+1
  ·exact aL8 T cap a m b d w h h1 h2 h3 hs1 hs2 hx hA hB
  exact aL9 T cap a m b d w h h1 h2 h3 hs1 hs2 hx hA hB _ rfl λa' m' b' d' w' q1 q2 q3 q4 q5 q6 q7 q8=>YP T cap N a' m' b' d' w' (by omega) q2 q3 q4 q5 q6 q7 q8
end
section
open Go.Lib Go.Sort Go.Shelf Go.Proofs.YtdokipdchlcmeaaGreat.pG
def a0S(w0:aJ)(blk off n:Nat)(k:Int->Int)(ok:Int->Prop)(d:Array Int):dU->aJ->Prop:=λe w'=>e=aT (bB #[])/\∃d':Array Int,cd (fn d) (fn d') 0 n/\cH k (fn d') 0 n/\Rw w0 blk off n ok d' w'
theorem aKs {w0:aJ} {blk off n:Nat} {g:Nat} {cb:Array aN} {cf:Int->Int->Int} {k:Int->Int} {ok:Int->Prop} {d0:Array Int}(T0:sY w0 blk off n g cb cf k ok d0)(cap:Nat)(d:Array Int)(w:aJ)(h:Rw w0 blk off n ok d w)(kB:n<=1000000)(h0:∀p,p<n->fn d p=p):
 aQ aM 247 #[aH (aC ⟨blk,off,aB⟩) n cap,aG aF (n:Nat),.func (.func g) #[] cb] w (a0S w0 blk off n k ok d):=by
 have T:=η T0;have HH:=η h;have H0:=η h0;go_enter func247,ntmps247
 go_wp2_with fail
 go_loopg [7,8] (n+20) (λkx s t wr=>∃(a b:Nat) (dk:Array Int),s=aG aF a/\t=aG aF b/\b<=a+20/\a+20<=b/\a<=n/\n+20-a<=kx/\Hid (Rw w0 blk off n ok dk wr)/\Hid (cd (fn d) (fn dk) 0 n/\uw k n (fn dk) a))
 case atStart=>exact⟨0,20,d,rfl,rfl,by omega,by omega,bL _,by omega,HH,cd.refl _ _ _,uw.start H0.o⟩
 case round=>
  obtain⟨a,b,dk,rfl,rfl,hb1,hb2,han,lx,S1,HI⟩:=hrel;by_cases hlt:b<=n
  ·have ng:(b:Int)<=(n:Int):=by omega
   have HC:=η (a4n T.o cap a b dk wr S1.o (by omega) hlt (HI.o.2.rising hlt));go_wp2_with fail
   refine HC.o.mono ?_;rintro e w2 ⟨rfl,d2,gX,s2,R2⟩;have fY:Hid (cd (fn d) (fn d2) 0 n/\uw k n (fn d2) b):=by
    have e:b=a+20:=by omega
    subst e;exact⟨HI.o.1.trans (gX.mono (bL _) hlt),HI.o.2.next hlt gX s2⟩
   have S2:=η R2;go_wp2_with fail
   go_roundg (n+20-b)
   case measure=>omega
   case rel=>exact⟨b,b+20,d2,rfl,by go_num,aZ _,aZ _,hlt,aZ _,S2,fY⟩
  have ng:¬(b:Int)<=(n:Int):=by omega
  have HC:=η (a4n T.o cap a n dk wr S1.o han (aZ _) (HI.o.2.rising (aZ _)));go_wp2_with fail
  refine HC.o.mono ?_;rintro e w2 ⟨rfl,d2,gX,s2,R2⟩;have fY:Hid (cd (fn d) (fn d2) 0 n/\yv k n 20 (fn d2)):=⟨HI.o.1.trans (gX.mono (bL _) (aZ _)),HI.o.2.last (by omega) gX s2⟩;have S2:=η R2;go_wp2_with fail
  go_loopg [6,7,8,9] n (λkx s _ _ _ wr=>∃(z:Nat) (dk:Array Int),s=aG aF z/\20<=z/\z<=2*n+20/\n-z<=kx/\Hid (Rw w0 blk off n ok dk wr)/\Hid (cd (fn d) (fn dk) 0 n/\yv k n z (fn dk)))
  case atStart=>exact⟨20,d2,rfl,by omega,by omega,by omega,S2,fY⟩
  case round=>
   obtain⟨z,dz,rfl,hz1,hz2,lx,S1,HB⟩:=hrel;by_cases hlt:z<n
   ·have ng:(z:Int)<(n:Int):=by omega
    obtain⟨wo,rfl⟩:∃wo:aJ,wo=wr:=⟨_,rfl⟩;have OM:Hid (cd (fn d) (fn dz) 0 n/\rP k n z (fn dz) 0):=⟨HB.o.1,HB.o.2.start⟩;go_wp2_with fail
    go_loopg [7,8] (n+2*z) (λkx s t wr=>∃(a b:Nat) (dk:Array Int),s=aG aF a/\t=aG aF b/\b<=a+2*z/\a+2*z<=b/\a<=n/\n+2*z-a<=kx/\Hid (Rw w0 blk off n ok dk wr)/\Hid (cd (fn d) (fn dk) 0 n/\rP k n z (fn dk) a))
    case atStart=>exact⟨0,2*z,dz,rfl,by first|rfl|go_num,by omega,by omega,bL _,by omega,S1,OM⟩
    case round=>
     obtain⟨a,b,dk,rfl,rfl,hb1,hb2,han,lx,S1,HI⟩:=hrel;by_cases rj:b<=n
     ·have WV:(b:Int)<=(n:Int):=by omega
      have HR:=η (HI.o.2.runs (b:=b) (by omega) rj hb1 (by omega));have HC:=η (YP T.o cap (b-a) a (a+z) b dk wr (aZ _) (by omega) (by omega) rj S1.o HR.o.1 HR.o.2.1 HR.o.2.2);go_wp2_with fail
      refine HC.o.mono ?_;rintro e w2 ⟨rfl,d2,gX,s2,R2⟩;have fY:Hid (cd (fn d) (fn d2) 0 n/\rP k n z (fn d2) b):=by
       have e:b=a+2*z:=by omega
       subst e;exact⟨HI.o.1.trans (gX.mono (bL _) rj),HI.o.2.next (by omega) rj gX s2⟩
      have S2:=η R2;go_wp2_with fail
      go_roundg (n+2*z-b)
      case measure=>omega
      case rel=>exact⟨b,b+2*z,d2,rfl,by go_num,aZ _,aZ _,rj,aZ _,S2,fY⟩
     have WV:¬(b:Int)<=(n:Int):=by omega
     by_cases hm:a+z<n
     ·have hmz:(a:Int)+(z:Int)<(n:Int):=by omega
      have HR:=η (HI.o.2.runs (b:=n) (by omega) (aZ _) (by omega) (by omega));have HC:=η (YP T.o cap (n-a) a (a+z) n dk wr (aZ _) (by omega) hm (aZ _) S1.o HR.o.1 HR.o.2.1 HR.o.2.2);go_wp2_with fail
      refine HC.o.mono ?_;rintro e w2 ⟨rfl,d2,gX,s2,R2⟩;have fY:Hid (cd (fn d) (fn d2) 0 n/\yv k n (2*z) (fn d2)):=⟨HI.o.1.trans (gX.mono (bL _) (aZ _)),HI.o.2.last (by omega) (by omega) gX s2⟩;have S2:=η R2;go_wp2_with fail
      go_roundg (n-2*z)
      case measure=>omega
      case rel=>exact⟨2*z,d2,by first|rfl|go_num|(congr 1;omega),by omega,by omega,aZ _,S2,fY⟩
     have hmz:¬(a:Int)+(z:Int)<(n:Int):=by omega
     have fY:Hid (cd (fn d) (fn dk) 0 n/\yv k n (2*z) (fn dk)):=⟨HI.o.1,HI.o.2.none (by omega) (by omega)⟩;go_wp2_with fail
     go_roundg (n-2*z)
     case measure=>omega
     case rel=>exact⟨2*z,dk,by first|rfl|go_num|(congr 1;omega),by omega,by omega,aZ _,S1,fY⟩
   have ng:¬(z:Int)<(n:Int):=by omega
   go_wp2_with fail
   go_end0
   exact⟨rfl,dz,HB.o.1,HB.o.2.done (by omega),S1.o⟩
theorem a7U {w0:aJ} {blk off n:Nat} {g:Nat} {cb:Array aN} {cf:Int->Int->Int} {k:Int->Int} {ok:Int->Prop} {d0:Array Int}(T0:sY w0 blk off n g cb cf k ok d0)(cap:Nat)(d:Array Int)(w:aJ)(h:Rw w0 blk off n ok d w)(kB:n<=1000000)(h0:∀p,p<n->fn d p=p):
 aQ aM 207 #[aH (aC ⟨blk,off,aB⟩) n cap,.func (.func g) #[] cb] w (a0S w0 blk off n k ok d):=by
 have HC:=η (aKs T0 cap d w h kB h0);go_enter func207,ntmps207
 go_wp2_with fail
 refine HC.o.mono ?_;rintro e w2 ⟨rfl,hd⟩;have HD:=η hd;go_wp2_with fail
 go_end0
 exact⟨rfl,HD.o⟩
end
section
open Go.Lib Go.Proofs.YtdokipdchlcmeaaGreat.DivLaw
theorem aLh(a b:Nat)(w:aJ)(ha:a<18446744073709551616)(hb:b<18446744073709551616):
 aQ aM 294 #[aG .u64 a,aG .u64 b] w λe w'=>e=aT (bU #[aG .u64 ((a*b/18446744073709551616:Nat):Int),aG .u64 ((a*b % 18446744073709551616:Nat):Int)])/\β w w':=by
 have HC:=λW=>η (bits_Mul64 a b ha hb W)
 clear ha hb;generalize a*b/18446744073709551616=H at*;generalize a*b % 18446744073709551616=L at*;go_enter func294,ntmps294
 go_wp2_with fail
 refine(HC _).o.mono ?_;rintro e w' ⟨rfl,rfl⟩;go_wp2_with fail
 exact bodyPost_ret (v:=bU #[aG .u64 (H:Int),aG .u64 (L:Int)]) (by simp [results,results294,go_sem]) rfl ⟨rfl,(aX _ _).alloc (aZ _) _⟩
theorem aLe(hi lo c D M:Nat)(w:aJ)(h2:hi<c)(h3:c<18446744073709551616)(nZ:lo<18446744073709551616)(hD:(hi*18446744073709551616+lo)/c=D)(hM:(hi*18446744073709551616+lo) % c=M):
 aQ aM 293 #[bU #[aG .u64 hi,aG .u64 lo],aG .u64 c] w λe w'=>e=aT (bB #[aG .u64 (D:Int),aG .u64 (M:Int),ν 0])/\β w w':=by
 have HC:=λW=>η (aEu hi lo c W h2 h3 nZ)
 rw [hD,hM] at HC;clear h3 nZ hD hM;have z1:((c:Int)==0)=aP:=by grind
 have z3:¬(c:Int)<=(hi:Int):=by omega
 go_enter func293,ntmps293
 go_wp2_with fail
 refine(HC _).o.mono ?_;rintro e w' ⟨rfl,n,rfl⟩;go_wp2_with fail
 go_ret3;exact⟨rfl,below_drewN σ n⟩
theorem aI3(a b c:Nat)(w:aJ)(ha:a<18446744073709551616)(hb:b<18446744073709551616)(h2:a*b/18446744073709551616<c)(h3:c<18446744073709551616):
 aQ aM 290 #[aG .u64 a,aG .u64 b,aG .u64 c] w λe w'=>e=aT (bB #[aG .u64 ((a*b/c:Nat):Int),aG .u64 ((a*b % c:Nat):Int),ν 0])/\β w w':=by
 have HC:=λW=>η (aLh a b W ha hb)
 have e:a*b/18446744073709551616*18446744073709551616+a*b % 18446744073709551616=a*b:=by omega
 have HD:=λW=>η (aLe (a*b/18446744073709551616) (a*b % 18446744073709551616) c (a*b/c) (a*b % c) W h2 h3 (by omega) (by rw [e]) (by rw [e]))
 clear e ha hb h2 h3;generalize a*b/18446744073709551616=H at*;generalize a*b % 18446744073709551616=L at*;generalize a*b/c=D at*;generalize a*b % c=M at*;go_enter func290,ntmps290
 go_wp2_with fail
 refine(HC _).o.mono ?_;rintro e w1 ⟨rfl,hb1⟩;have HB:=η hb1;clear hb1;go_wp2_with fail
 refine(HD _).o.mono ?_;rintro e w2 ⟨rfl,hb2⟩;have aV:=τ HB hb2;clear hb2;go_wp2_with fail
 go_ret3;exact⟨rfl,aV.o⟩
theorem aJk(T wt S:Nat)(w:aJ)(hT:T<9223372036854775808)(hw:wt<=S)(h0:0<S)(hS:S<9223372036854775808):
 aQ aM 280 #[ν T,ν wt,ν S] w λe w'=>e=aT (bB #[ν ((T*wt/S:Nat):Int),ν ((T*wt % S:Nat):Int),ν 0])/\β w w':=by
 have hm:T*wt<=9223372036854775807*S:=yN (by omega) hw;have DN:T*wt/18446744073709551616<S:=(GV (by omega)).2 (by omega);have hq:T*wt/S<=T:=by have:=Nat.div_le_div_right (c:=S) (Nat.mul_le_mul_left T hw);grind [Nat.mul_div_cancel]
 have hr:T*wt % S<S:=Jc _ h0;have HC:=λW=>η (aI3 T wt S W (by omega) (by omega) DN (by omega))
 clear hm DN;generalize T*wt/S=D at*;generalize T*wt % S=M at*;have z1:((S:Int)==0)=aP:=by grind
 have z2:¬(S:Int)<(wt:Int):=by omega
 have z3:¬(T:Int)<0:=by omega
 have z4:¬(wt:Int)<0:=by omega
 go_enter func280,ntmps280
 go_wp2_with fail
 refine(HC _).o.mono ?_;rintro e w1 ⟨rfl,hb1⟩;have HB:=η hb1;clear hb1;go_wp2_with fail
 go_ret3;exact⟨rfl,HB.o⟩
theorem aI5(x:Int)(w:aJ):aQ aM 249 #[aG aF x] w λe w'=>e=aT (bJ aP)/\w=w':=by
 go_enter func249,ntmps249
 go_wp2
 go_ret;simp
def D9(x y:Int):Int:=if x<y then-1 else if y<x then 1 else 0
theorem aE7(x y:Int):D9 x y<0↔x<y:=by grind [D9]
theorem aEE(x y:Int)(w:aJ):aQ aM 213 #[aG aF x,aG aF y] w λe w'=>e=aT (aG aF (D9 x y))/\w=w':=by
 go_enter UQ,UZ
 go_wp2_with (go_at_call 249;refine(aI5 _ _).mono ?_;rintro e w' ⟨rfl,rfl⟩)
 ·have h:x<y:=by assumption
  go_ret;exact⟨by rw [D9,ifP h];rfl,rfl⟩
 ·have h:¬x<y:=by omega
  have h2:y<x:=by assumption
  go_ret;exact⟨by rw [D9,ifN h,ifP h2];rfl,rfl⟩
 have h:¬x<y:=by omega
 have h2:¬y<x:=by omega
 go_ret;exact⟨by rw [D9,ifN h,ifN h2];rfl,rfl⟩
end
section
open Go.Lib
theorem a4s(x:Int)(w:aJ):aQ aM 256 #[aG aF x] w λe w'=>e=aT (bJ (decide (x<0)))/\w=w':=by
 go_enter func256,ntmps256
 go_wp2
 go_ret;exact⟨rfl,rfl⟩
def xZ(l:List Int):Bool:=l.any λx=>decide (x<0)
theorem aIA {l:List Int}(h:xZ l=aP):∀x∈l,0<=x:=by grind [xZ]
theorem a5m {l:List Int}(h:∀k (hk:k<aA l),¬l[k]<0):xZ l=aP:=by grind [xZ,sW]
theorem aIB {l:List Int} {k:Nat}(hk:k<aA l)(h:l[k]<0):xZ l=aO:=by grind [xZ,cK]
def a9h(l:List Int)(w:aJ):dU->aJ->Prop:=λe w'=>∃n:Int,e=aT (aG aF n)/\decide (0<=n)=xZ l/\w=w'
theorem aH2(l:List Int)(A:Option aj)(c:Nat)(w:aJ)(hs:aW w w.heap.size A (l.map (aG aF)))(hn:aA l<=4611686018427387904):
 aQ aM 279 #[aH A (aA l) c,.func (.func 256) #[] #[]] w (a9h l w):=by
 have HS:=η hs;clear hs;go_enter func279,ntmps279
 go_wp2_with fail
 go_loopw [5,8] (λ_ i wr=>∃k:Nat,k<=aA l/\i=ν k/\Hid (∀j (hj:j<aA l),j<k->0<=l[j])/\wr=w) (λ_ i _=>aA l-(ag i).toNat)
 case atStart=>exact⟨0,bL _,rfl,λj _ h=>by omega,rfl⟩
 case round=>
  obtain⟨k,hk,rfl,HP,rfl⟩:=hrel;by_cases hlt:k<aA l
  ·obtain⟨b,o,rfl,hb,hc⟩:=HS.o.at (k:=k) (by simpa using hlt);rw [wk] at hc;by_cases hx:l[k]<0
   ·have HT:=η (aIB hlt hx);go_wp2_with (go_at_call 256;refine(a4s _ _).mono ?_;rintro e w' ⟨rfl,rfl⟩)
    go_ret;exact⟨_,rfl,by rw [HT.o];simp,rfl⟩
   have mi:Hid (∀j (hj:j<aA l),j<k+1->0<=l[j]):=by
    intro j hj hjk;by_cases e:j=k
    ·subst e;omega
    exact HP.o j hj (by omega)
   go_wp2_with (go_at_call 256;refine(a4s _ _).mono ?_;rintro e w' ⟨rfl,rfl⟩)
   go_roundw
   case rel=>exact⟨k+1,by omega,by go_num,mi,by first|rfl|trivial⟩
   case measure=>simp [ag];omega
  go_wp2_with fail
  go_ret;exact⟨_,rfl,by rw [a5m λj hj=>by have:=HP.o j hj (by omega);omega];rfl,rfl⟩
theorem aCi(l:List Int)(A:Option aj)(c:Nat)(w:aJ)(hs:aW w w.heap.size A (l.map (aG aF)))(hn:aA l<=4611686018427387904):
 aQ aM 255 #[aH A (aA l) c,.func (.func 256) #[] #[]] w λe w'=>e=aT (bJ (xZ l))/\w=w':=by
 have HC:=η (aH2 l A c w hs hn);clear hs;go_enter func255,ntmps255
 go_wp2_with fail
 refine HC.o.mono ?_;rintro e w' ⟨n,rfl,hn,rfl⟩;have HN:=η hn;clear hn;go_wp2_with fail
 go_ret;exact⟨by rw [<-HN.o];rfl,rfl⟩
def iK(T:Int)(l:List Int):Int:=if 1024<(aA l) then 6 else if T<0\/xZ l=aO then 1 else dM (sumI l)
def xF(T:Int)(l:List Int):Int:=if 1024<(aA l) then 0 else if T<0\/xZ l=aO then 0 else gQ (sumI l)
theorem a2F(T:Int)(l:List Int)(A:Option aj)(c:Nat)(w:aJ)(hl:∀x∈l,aL x)(hs:aW w w.heap.size A (l.map (aG aF)))(hn:aA l<=bM):
 aQ aM 227 #[ν T,aH A (aA l) c] w λe w'=>e=aT (bB #[ν (xF T l),ν (iK T l)])/\β w w':=by
 unfold bM at hn;by_cases h1:1024<aA l
 ·have e1:xF T l=0:=by grind [xF]
  have e2:iK T l=6:=by grind [iK]
  rw [e1,e2];clear hl hs e1 e2;go_enter UT,Ub
  go_wp2_with fail
  go_ret2;exact⟨rfl,aX _ _⟩
 have uQ:aA l<=1024:=by omega
 by_cases h2:T<0
 ·have e1:xF T l=0:=by grind [xF]
  have e2:iK T l=1:=by grind [iK]
  rw [e1,e2];clear hl hs e1 e2;go_enter UT,Ub
  go_wp2_with fail
  go_ret2;exact⟨rfl,aX _ _⟩
 have HC:=η (aCi l A c w hs (by omega));have VV:decide (T<0)=aP:=decide_eq_false h2;cases h3:xZ l
 ·have e1:xF T l=gQ (sumI l):=by grind [xF]
  have e2:iK T l=dM (sumI l):=by grind [iK]
  rw [e1,e2];have HD:=η (Du l A c w hl hs (by omega));rw [h3] at HC;clear hl hs e1 e2 h3;go_enter UT,Ub
  go_wp2_with fail
  refine HC.o.mono ?_;rintro e w' ⟨rfl,rfl⟩;go_wp2_with fail
  refine HD.o.mono ?_;rintro e w1 ⟨rfl,hb⟩;have HB:=η hb;clear hb;go_wp2_with fail
  go_ret2;exact⟨rfl,HB.o⟩
 have e1:xF T l=0:=by grind [xF]
 have e2:iK T l=1:=by grind [iK]
 rw [e1,e2];rw [h3] at HC;clear hl hs e1 e2 h3;go_enter UT,Ub
 go_wp2_with fail
 refine HC.o.mono ?_;rintro e w' ⟨rfl,rfl⟩;go_wp2_with fail
 go_ret2;exact⟨rfl,aX _ _⟩
end
section
open Go.Lib Go.Sort Go.Shelf Go.Proofs.YtdokipdchlcmeaaGreat.pG Go.Proofs.YtdokipdchlcmeaaGreat.ShareLaw
def fT(w:aJ)(b:Nat)(t:bY)(xs:List Int):Prop:=w.heap[b]? =aC (aK (xs.map (aG aF)).toArray t (0,0))
section
variable {w w':aJ} {b B:Nat} {t:bY} {xs:List Int}
theorem fT.cell(h:fT w b t xs) {i:Nat}(hi:i<aA xs):w.cell? ⟨b,i,aB⟩=aC (aG aF xs[i]):=by rw [bH w b i _ t (0,0) h];simp [hi]
theorem fT.free(h:fT w b t xs)(i:Nat):w.frozen? ⟨b,i,aB⟩=aP:=Jw w b i _ t h
theorem fT.of_block(h:fT w b t xs)(e:w'.heap[b]? =w.heap[b]?):fT w' b t xs:=e.trans h
theorem fT.below(h:fT w b t xs)(hb:b<B)(k:aa B w w'):fT w' b t xs:=h.of_block (k.block b hb)
theorem fT.other(h:fT w b t xs) {a:aj}(v:aN)(hne:b≠a.block):fT (w.setCell a v) b t xs:=h.of_block (Ny w a v b hne)
theorem fT.set(h:fT w b t xs)(i:Nat)(v:Int):fT (w.setCell ⟨b,i,aB⟩ (aG aF v)) b t (xs.set i v):=by unfold fT at*;rw [setCell_eq,mapBlock,Array.getElem?_modify,ifP rfl,h];simp [onCells,List.map_set]
theorem fT.new(w:aJ)(t:bY)(xs:List Int):fT (w.alloc (aK (xs.map (aG aF)).toArray t)) w.heap.size t xs:=cO w _
theorem fT.alloc(h:fT w b t xs)(hb:b<w.heap.size)(o:Obj):fT (w.alloc o) b t xs:=h.of_block (a8g w o b hb)
theorem fT.dt(h:fT w b t xs)(hb:b<B):aW w B (aC ⟨b,0,aB⟩) (xs.map (aG aF)):=by intro j u hu;refine⟨b,0,rfl,hb, ?_⟩;rw [bH w b (0+j) _ t (0,0) h,Nat.zero_add];simpa using hu
end
def eH(n:Nat)(f:Nat->Int):List Int:=(dQ n).map f
theorem r9(n:Nat)(f:Nat->Int):aA (eH n f)=n:=by simp [eH]
theorem Dr {n:Nat} {f:Nat->Int} {i:Nat}(h:i<aA (eH n f)):(eH n f)[i]=f i:=by simp [eH]
theorem Xx {n:Nat} {f g:Nat->Int}(h:∀i,i<n->f i=g i):eH n f=eH n g:=by grind [eH,Jb]
theorem a6v {n:Nat} {f:Nat->Int}(k:Nat)(v:Int):(eH n f).set k v=eH n (λi=>if i=k then v else f i):=by
 apply Lb
 ·simp [r9]
 grind [Dr]
theorem Rs {n k:Nat} {g:Nat->Int}:(eH n (λi=>if i<k then g i else 0)).set k (g k)=eH n (λi=>if i<k+1 then g i else 0):=by rw [a6v];grind
theorem Rq {n:Nat} {g:Nat->Int}:eH n (λi=>if i<n then g i else 0)=eH n g:=Xx λi h=>by rw [ifP h]
theorem a6w {n:Nat} {g:Nat->Int}:eH n (λi=>if i<0 then g i else 0)=gP n 0:=by
 apply Lb
 ·simp [r9]
 grind [Dr]
theorem a5T(n:Nat):madeCells (aG aF 0).cells n=lB n (aG aF 0):=by apply Array.toList_inj.1;have e:(aG aF 0).cells= #[aG aF 0]:=rfl;rw [e,toList_madeCells_one];simp
theorem XI(n:Nat)(hn:n<=1000000)(W:aJ):(Ou 53 (aG aF (n:Int)) (aG aF (n:Int))).run aM W= .ok (aH (aC ⟨W.heap.size,0,aB⟩) n n) (W.alloc (aK (lB n (aG aF 0)) 2)):=by
 have inf:(aM.info? 2).map (λi=>(i.zero,i.size,i.bytes))=aC (aC (ν 0),1,8):=by kernel_rfl
 obtain⟨i0,hi,hz0,hz1,hz2⟩:=dL inf;have h:=run_makeSlice (P:=aM) W 53 2 i0 _ mP hi hz0 aF aF n n (by omega) (dJ _) (by rw [hz1];simp;omega) (by rw [hz2];simp;omega) (by omega);grind [a5T]
theorem a5U(n:Nat)(hn:n<=1000000)(W:aJ):(Ou 46 (aG aF (n:Int)) (aG aF (n:Int))).run aM W= .ok (aH (aC ⟨W.heap.size,0,aB⟩) n n) (W.alloc (aK (lB n (aG aF 0)) 3)):=by
 have inf:(aM.info? 3).map (λi=>(i.zero,i.size,i.bytes))=aC (aC (ν 0),1,8):=by kernel_rfl
 obtain⟨i0,hi,hz0,hz1,hz2⟩:=dL inf;have h:=run_makeSlice (P:=aM) W 46 3 i0 _ yO hi hz0 aF aF n n (by omega) (dJ _) (by rw [hz1];simp;omega) (by rw [hz2];simp;omega) (by omega);grind [a5T]
theorem aEF(x y:Int)(w:aJ):aQ aM 213 #[aG aF x,aG aF y] w λe w'=>e=aT (aG aF (D9 x y))/\w'=w:=(aEE x y w).mono λ_ _ ⟨a,b⟩=>⟨a,b.symm⟩
theorem aIt(bc br n:Nat)(r:Nat->Int)(x y:Nat)(hx:x<n)(hy:y<n)(w:aJ)(hc:w.cell? ⟨bc,0,aB⟩=aC (aH (aC ⟨br,0,aB⟩) n n))(hr:∀i,i<n->w.cell? ⟨br,i,aB⟩=aC (aG aF (r i))):
 aQ aM 281 #[ν x,ν y,π bc] w λe w'=>e=aT (ν (D9 (r y) (r x)))/\∃q,w'=w.drewN q:=by
 have c1:=hr x hx;have c2:=hr y hy;clear hr;have i1:(0:Int)<=(x:Int):=by omega
 have i2:(x:Int)<(n:Int):=by omega
 have i3:(0:Int)<=(y:Int):=by omega
 have i4:(y:Int)<(n:Int):=by omega
 go_enter aAz,ntmps281
 go_wp2_with fail
 go_quiet ((go_at_call 213;exact Iz (aEF _ _ _)))
 go_wp2_with fail
 go_ret;exact⟨rfl,_,rfl⟩
end
section
open Go.Lib Go.Sort Go.Shelf Go.Proofs.YtdokipdchlcmeaaGreat.pG Go.Proofs.YtdokipdchlcmeaaGreat.ShareLaw
def Ordered(r:Nat->Int)(n:Nat)(who:Nat->Nat):Prop:=∀t,t<n->who t<n/\rk r n (who t)=t
def aCF(r:Nat->Int)(n bw:Nat)(w:aJ):dU->aJ->Prop:=λe w'=>e=aT (bB #[])/\∃who:Nat->Nat,Ordered r n who/\(∀t,t<n->w'.cell? ⟨bw,t,aB⟩=aC (aG aF (who t:Int)))/\w.grownBy w' (aC bw)
theorem a9r {r:Nat->Int} {x y:Nat}(h:L (λz=> -(r z.toNat)) (x:Int) (y:Int)):ah r x y=aO:=by grind [L,PR]
theorem aIv {r:Nat->Int} {n:Nat} {g:Nat->Int}(hm:cd (λp=>(p:Int)) g 0 n)(hs:cH (λz=> -(r z.toNat)) g 0 n):∃who:Nat->Nat,Ordered r n who/\∀t,t<n->g t=(who t:Int):=by
 have hex:∀t,∃m:Nat,t<n->m<n/\g t=(m:Int):=by
  intro t;by_cases ht:t<n
  ·obtain⟨j,_,hj,e⟩:=hm.to t (bL _) ht;grind
  grind
 obtain⟨who,hw⟩:=Yn.1 hex;refine⟨who, ?_,λt ht=>(hw t ht).2⟩;have key:=aFx (n:=n) (f:=λt=>rk r n (who t)) (λt ht=>a6s (hw t ht).1) (λi j rh hj=>by have h1:=hs i j (bL _) rh hj;rw [(hw i (by omega)).2,(hw j hj).2] at h1;exact Xv (hw i (by omega)).1 (a9r h1));exact λt ht=>⟨(hw t ht).1,key t ht⟩
theorem Hh(n:Nat)(f:Nat->Int) {p:Nat}(hp:p<n):fn (eH n f).toArray p=f p:=by grind [fn,eH]
theorem aI1 {n:Nat} {f g:Nat->Int}(h:cd f g 0 n)(hf:∀p,p<n->f p=p):∃g',cd (λp=>(p:Int)) g' 0 n/\∀t,t<n->g' t=g t:=by
 refine⟨λp=>if p<n then g p else p,⟨λi _ hi=> ?_,λj _ hj=> ?_,λi hi=> ?_⟩,λt ht=>by simp [ht]⟩
 ·obtain⟨j,_,hj,e⟩:=h.to i (bL _) hi;grind
 ·obtain⟨i,_,hi,e⟩:=h.of j (bL _) hj;grind
 omega
theorem aKf(bc br bw n:Nat)(r:Nat->Int)(w:aJ)(hn:n<=1000000)(hc:w.heap[bc]? =aC (aK #[aH (aC ⟨br,0,aB⟩) n n] 53 (0,0)))(hr:fT w br 2 (eH n r))(hw:fT w bw 3 (eH n λi=>(i:Int)))(h1:bc≠bw)(h2:br≠bw)(h3:bc<w.heap.size)(h4:br<w.heap.size)(h5:bw<w.heap.size):
 aQ aM 207 #[aH (aC ⟨bw,0,aB⟩) n n,.func (.func 281) #[] #[π bc]] w (aCF r n bw w):=by
 have hlen:(eH n λi=>(i:Int)).toArray.size=n:=by simp [r9]
 have hH:Holds (aG aF) w bw 0 (eH n λi=>(i:Int)).toArray:=by
  intro j hj;rw [hlen] at hj;refine⟨?_,hw.free _⟩;have hl:0+j<aA (eH n λi=>(i:Int)):=by rw [r9];omega
  rw [hw.cell hl];grind
 have R:Row1 (aG aF) w bw 0 (eH n λi=>(i:Int)).toArray:=⟨a3E,hH,h5⟩;have T:sY w bw 0 n 281 #[π bc] (λx y=>D9 (r y.toNat) (r x.toNat)) (λz=> -(r z.toNat)) (λx=>∃m:Nat,x=m/\m<n) (eH n λi=>(i:Int)).toArray:=by
  refine⟨R,hlen,by omega,enters_of aAz (by kernel_rfl) rfl, ?_, ?_⟩
  ·rintro m os dk hdk x y ⟨xn,rfl,hx⟩ ⟨yn,rfl,hy⟩;have hg:w.grownBy (sortWorld (aG aF) w bw 0 m dk os) (aC bw):=grownBy_sortedI dk;have e1:(sortWorld (aG aF) w bw 0 m dk os).heap[bc]? =_:=(hg.block bc h3 (λe=>h1 (by injection e))).trans hc;have e2:fT (sortWorld (aG aF) w bw 0 m dk os) br 2 (eH n r):=hr.of_block (hg.block br h4 (λe=>h2 (by injection e)));refine(aIt bc br n r xn yn hx hy _ ?_ ?_).mono ?_
   ·rw [bH _ bc 0 _ 53 (0,0) e1];rfl
   ·intro i hi;rw [e2.cell (by grind [r9]),Dr]
   rintro e w' ⟨rfl,q,rfl⟩;refine⟨by grind,q, #[], ?_⟩;rw [grow_empty]
  grind [aE7]
 have RW:Rw w bw 0 n (λx=>∃m:Nat,x=m/\m<n) (eH n λi=>(i:Int)).toArray w:=⟨hlen,SW.start hH,λp hp=>⟨p,Hh n _ hp,hp⟩⟩;refine(a7U T n _ w RW hn (λp hp=>Hh n _ hp)).mono ?_;rintro e w' ⟨rfl,d',mv,hs,hR⟩;obtain⟨g',mg,DU⟩:=aI1 mv (λp hp=>Hh n _ hp);have sg:cH (λz=> -(r z.toNat)) g' 0 n:=λi j a b c=>by rw [DU i (by omega),DU j c];exact hs i j a b c
 obtain⟨who,ho,aMx⟩:=aIv mg sg;refine⟨rfl,who,ho,λt ht=> ?_, ?_⟩
 ·have:=hR.c T t ht;grind
 obtain⟨m,os,e⟩:=hR.sw;rw [e];exact grownBy_sortedI d'
end
section
open Go.Lib Go.Sort Go.Shelf Go.Proofs.YtdokipdchlcmeaaGreat.pG Go.Proofs.YtdokipdchlcmeaaGreat.ShareLaw
def wf(l:List Int):Nat->Int:=λi=>l.getD i 0
theorem Kk {l:List Int} {i:Nat}(h:i<aA l):wf l i=l[i]:=by unfold wf;simp [h]
theorem a7r(l:List Int):∀k,k<=aA l->dZ (wf l) k=sumI (l.take k)
 |0,_=>by simp [dZ,sumI]
 |k+1,h=>by rw [dZ,a7r l k (by omega),YG (by omega),Kk (by omega)]
theorem YN(l:List Int):dZ (wf l) (aA l)=sumI l:=by grind [a7r]
theorem aHv {l:List Int}(h:∀x∈l,0<=x):∀x∈l,x<=sumI l:=by
 induction l with
 |nil=>intro x hx;cases hx
 |cons a l ih=>
  have hs:0<=sumI l:=by
   have:∀m:List Int,(∀x∈m,0<=x)->0<=sumI m:=by
    intro m;induction m with
    |nil=>intro _;simp [sumI]
    |cons b m ih2=>
     intro hm;have h1:=hm b (by simp);grind [sumI]
   grind
  have ha:=h a (by simp);grind [sumI]
theorem aJj(T S:Int)(W:Nat->Int)(i:Nat)(w:aJ)(Hp:0<=T)(hT:T<=9223372036854775807)(hw0:0<=W i)(hw:W i<=S)(h0:0<S)(hS:S<=9223372036854775807):
 aQ aM 280 #[ν T,ν (W i),ν S] w λe w'=>e=aT (bB #[ν (quo T S W i),ν (l8 T S W i),ν 0])/\β w w':=by
 unfold quo l8;generalize W i=u at*;obtain⟨Tn,rfl⟩:=a0B Hp;obtain⟨un,rfl⟩:=a0B hw0;obtain⟨Sn,rfl⟩:=a0B (show 0<=S by omega);grind [aJk]
structure Ap(w:aJ)(bp br bc bo n:Nat)(ps rs os:List Int)(wr:aJ):Prop where
 p:fT wr bp 2 ps
 r:fT wr br 2 rs
 c:wr.heap[bc]? =aC (aK #[aH (aC ⟨br,0,aB⟩) n n] 53 (0,0))
 o:fT wr bo 3 os
 b:β w wr
 sz:bo<wr.heap.size
 d0:w.heap.size<=bp
 d1:bp<br
 d2:br<bc
 d3:bc<bo
section
variable {w wr w':aJ} {bp br bc bo n:Nat} {ps rs os:List Int}
theorem Ap.cc(h:Ap w bp br bc bo n ps rs os wr):wr.cell? ⟨bc,0,aB⟩=aC (aH (aC ⟨br,0,aB⟩) n n):=by rw [bH _ _ 0 _ 53 (0,0) h.c];rfl
theorem Ap.below(h:Ap w bp br bc bo n ps rs os wr)(hb:aa wr.heap.size wr w'):Ap w bp br bc bo n ps rs os w':=by have s:=h.sz;have d0:=h.d0;have d1:=h.d1;have d2:=h.d2;have d3:=h.d3;exact⟨h.p.below (by omega) hb,h.r.below (by omega) hb,(hb.block _ (by omega)).trans h.c,h.o.below (by omega) hb,h.b.trans (hb.mono (by omega)),by have:=hb.size;omega,d0,d1,d2,d3⟩
theorem Ap.eU(h:Ap w bp br bc bo n ps rs os wr)(i:Nat)(v:Int):Ap w bp br bc bo n (ps.set i v) rs os (wr.setCell ⟨bp,i,aB⟩ (aG aF v)):=by have d0:=h.d0;have d1:=h.d1;have d2:=h.d2;have d3:=h.d3;exact⟨h.p.set i v,h.r.other _ (by dsimp only;omega),(Ny _ _ _ _ (by dsimp only;omega)).trans h.c,h.o.other _ (by dsimp only;omega),h.b.setCell (by dsimp only;omega) _,by rw [Yr];exact h.sz,d0,d1,d2,d3⟩
theorem Ap.aKS(h:Ap w bp br bc bo n ps rs os wr)(i:Nat)(v:Int):Ap w bp br bc bo n ps (rs.set i v) os (wr.setCell ⟨br,i,aB⟩ (aG aF v)):=by have d0:=h.d0;have d1:=h.d1;have d2:=h.d2;have d3:=h.d3;exact⟨h.p.other _ (by dsimp only;omega),h.r.set i v,(Ny _ _ _ _ (by dsimp only;omega)).trans h.c,h.o.other _ (by dsimp only;omega),h.b.setCell (by dsimp only;omega) _,by rw [Yr];exact h.sz,d0,d1,d2,d3⟩
theorem Ap.aKR(h:Ap w bp br bc bo n ps rs os wr)(i:Nat)(v:Int):Ap w bp br bc bo n ps rs (os.set i v) (wr.setCell ⟨bo,i,aB⟩ (aG aF v)):=by have d0:=h.d0;have d1:=h.d1;have d2:=h.d2;have d3:=h.d3;exact⟨h.p.other _ (by dsimp only;omega),h.r.other _ (by dsimp only;omega),(Ny _ _ _ _ (by dsimp only;omega)).trans h.c,h.o.set i v,h.b.setCell (by dsimp only;omega) _,by rw [Yr];exact h.sz,d0,d1,d2,d3⟩
theorem a6l(n:Nat):((gP n (0:Int)).map (aG aF)).toArray=lB n (aG aF 0):=by simp
theorem Ap.start(w:aJ)(n:Nat):Ap w w.heap.size (w.heap.size+1) (w.heap.size+1+1) (w.heap.size+1+1+1) n (gP n 0) (gP n 0) (gP n 0) ((((w.alloc (aK (lB n (aG aF 0)) 2)).alloc (aK (lB n (aG aF 0)) 2)).alloc (aK #[aH (aC ⟨w.heap.size+1,0,aB⟩) n n] 53)).alloc (aK (lB n (aG aF 0)) 3)):=by
 have n1:=Deep.nblk_alloc;rw [<-a6l];generalize gP n (0:Int)=zs;refine⟨?_, ?_, ?_, ?_, ?_,by grind,by omega,by omega,by omega,by omega⟩
 ·exact(((fT.new w 2 zs).alloc (by rw [n1];omega) _).alloc (by rw [n1,n1];omega) _).alloc (by grind) _
 ·have h:=fT.new (w.alloc (aK (zs.map (aG aF)).toArray 2)) 2 zs;rw [n1] at h;exact(h.alloc (by rw [n1,n1];omega) _).alloc (by grind) _
 ·grind [a8g,Deep.blk_alloc_new]
 ·grind [fT.new]
 exact((σ.alloc (by simp) _).alloc (by simp;omega) _).alloc (by simp;omega) _
structure RC(bp br bc n k b o:Nat)(x:Int)(w:aJ):Prop where
 c:w.cell? ⟨bc,0,aB⟩=aC (aH (aC ⟨br,0,aB⟩) n n)
 l:w.cell? ⟨b,o+k,aB⟩=aC (ν x)
 p:∃u,w.cell? ⟨bp,k,aB⟩=aC u
 pf:w.frozen? ⟨bp,k,aB⟩=aP
 r:∃u,w.cell? ⟨br,k,aB⟩=aC u
 rf:w.frozen? ⟨br,k,aB⟩=aP
end
theorem aKy {f:Nat->Int} {n:Nat}(h:∀i,i<n->0<=f i):∀k,k<=n->dZ f k<=dZ f n:=by
 induction n with
 |zero=>grind
 |succ n ih=>
  grind [dZ]
theorem mk0(n k:Nat)(g:Nat->Int)(hk:k<n):k<aA (eH n (λi=>if i<k then g i else 0)):=by grind [r9]
theorem aCj(T:Int)(l:List Int)(A:Option aj)(c:Nat)(w:aJ)(Hp:0<=T)(hT:T<=9223372036854775807)(hl:∀x∈l,0<=x)(h0:0<sumI l)(hS:sumI l<=9223372036854775807)(hn:aA l<=1024)(hs:aW w w.heap.size A (l.map (aG aF))):
 aQ aM 257 #[ν T,aH A (aA l) c,ν (sumI l)] w λe w'=>e=aT (aH (aC ⟨w.heap.size,0,aB⟩) (aA l) (aA l))/\fT w' w.heap.size 2 (eH (aA l) (ShareLaw.part T (sumI l) (wf l) (aA l)))/\β w w'/\w.heap.size<w'.heap.size:=by
 have HS:=η hs;have HL:=η hl;have Fz:=η (YN l);have EE:=η (aHv hl);clear hs hl;have mk1:=XI (aA l) (by omega);have mk2:=a5U (aA l) (by omega);have Ko:=η (Ap.start w (aA l));generalize hZ:sumI l=S at*;have HZ:=η hZ;clear hZ;obtain⟨W,hW⟩:∃W,W=wf l:=⟨_,rfl⟩;have HW:=η hW;rw [<-hW] at Fz ⊢;clear hW;have mL:Hid (∀i,i<aA l->0<=W i/\W i<=S):=λi hi=>by rw [HW.o,Kk hi];exact⟨HL.o _ (cK hi),EE.o _ (cK hi)⟩
 have E8:Hid (∀k,k<aA l->0<=quo T S W k/\quo T S W k<=T):=λk hk=>⟨Xo h0 Hp (mL.o k hk).1,a6i h0 Hp (mL.o k hk).2⟩
 have ir:Hid (∀k,k<=aA l->0<=dZ (quo T S W) k/\dZ (quo T S W) k<=T):=λk hk=>by have h9:=(aJi h0 Hp (λi hi=>(mL.o i hi).1) Fz.o).2;exact⟨S8 λi hi=>(E8.o i (by omega)).1,ju (aKy (λi hi=>(E8.o i hi).1) k hk) h9⟩
 have eI:Hid (∀k,k<aA l->ShareLaw.part T S W (aA l) k<=T):=λk hk=>aJ8 h0 Hp Fz.o (mL.o k hk).2
 go_enter func257,ntmps257
 go_wp2_with fail
 clear mk1 mk2;rw [<-a6w (g:=quo T S W)] at Ko;obtain⟨bp,Vm⟩:∃z,z=w.heap.size:=⟨_,rfl⟩;generalize w.heap.size+1+1+1=bo at Ko ⊢;generalize w.heap.size+1+1=bc at Ko ⊢;generalize w.heap.size+1=br at Ko ⊢;go_loopw [10,11,25] (λu _ i wr=>∃k:Nat,k<=aA l/\i=ν k/\u=ν (T-dZ (quo T S W) k)/\Hid (Ap w w.heap.size br bc bo (aA l) (eH (aA l) (λi=>if i<k then quo T S W i else 0)) (eH (aA l) (λi=>if i<k then l8 T S W i else 0)) (eH (aA l) (λi=>if i<k then (i:Int) else 0)) wr)) (λ_ _ i _=>aA l-(ag i).toNat)
 case atStart=>grind [dZ]
 case round=>
  clear Ko;obtain⟨k,hk,rfl,rfl,HA⟩:=hrel;by_cases hlt:k<aA l
  ·obtain⟨b,o,rfl,hb,hc0⟩:=HS.o.at (k:=k) (by simpa using hlt);have ex:l[k]=W k:=by rw [HW.o,Kk hlt]
   have a4c:0<=W k:=by rw [<-ex];exact HL.o _ (cK hlt)
   have a4d:W k<=S:=by rw [<-ex];exact EE.o _ (cK hlt)
   rw [wk,ex] at hc0;have HQ:=λW'=>η (aJj T S W k W' Hp hT a4c a4d h0 hS)
   have jL:=η hc0;clear ex a4c a4d hc0;have HK:Hid (∀W',β wr W'->RC w.heap.size br bc (aA l) k b o (W k) W'):=by intro W' hB;have h2:=HA.o.below hB;exact⟨h2.cc,(h2.b.cell (p:=⟨b,o+k,aB⟩) hb).trans jL.o,⟨_,h2.p.cell (by grind [r9])⟩,h2.p.free k,⟨_,h2.r.cell (by grind [r9])⟩,h2.r.free k⟩
   have uC:=η (HK.o _ ((aX _ _).drew));have d1:=HA.o.d1;have d2:=HA.o.d2;have i1:(0:Int)<=(k:Int):=by omega
   have i2:(k:Int)<(aA l:Int):=by omega
   have n1:¬bc=w.heap.size:=by omega
   have n2:¬b=w.heap.size:=by omega
   have n3:¬bc=br:=by omega
   have n4:¬b=br:=by omega
   have n5:¬br=w.heap.size:=by omega
   have n6:¬w.heap.size=br:=by omega
   have n7:¬w.heap.size=bc:=by omega
   have n8:¬w.heap.size=b:=by omega
   have n9:¬br=bc:=by omega
   have n10:¬br=b:=by omega
   go_wp2_with fail
   go_region_held3 (λw'=>w'.cell? ⟨bc,0,aB⟩=aC (aH (aC ⟨br,0,aB⟩) (aA l) (aA l))/\w'.cell? ⟨b,o+k,aB⟩=aC (ν (W k))) (first|exact⟨uC.o.c,uC.o.l⟩|exact⟨lN.o.c,lN.o.l⟩|go_keep) ((go_at_call 280;refine(HQ _).o.mono ?_;rintro e w1 ⟨rfl,hb1⟩;have aR:=η (((aX wr.heap.size wr).drew).trans hb1);have lN:=η (HK.o w1 aR.o);obtain⟨u1,c1⟩:=lN.o.p;have f1:=lN.o.pf;obtain⟨u2,c2⟩:=lN.o.r;have f2:=lN.o.rf;clear hb1))
   have wL:=η (((HA.o.below aR.o).eU k (quo T S W k)).aKS k (l8 T S W k));rw [Rs,Rs] at wL;generalize (w1.setCell ⟨w.heap.size,k,aB⟩ (ν (quo T S W k))).setCell ⟨br,k,aB⟩ (ν (l8 T S W k))=w2 at wL ⊢;clear c1 c2 f1 f2 lN aR HK uC HQ HA n1 n2 n3 n4 n5 n6 n7 n8 n9 n10 u1 u2 i1 i2;have c3:w2.cell? ⟨w.heap.size,k,aB⟩=aC (ν (quo T S W k)):=by rw [wL.o.p.cell (by rw [r9];exact hlt),Dr,ifP (by omega)]
   have c4:w2.cell? ⟨bo,k,aB⟩=aC (ν 0):=by rw [wL.o.o.cell (by rw [r9];exact hlt),Dr,ifN (by omega)]
   have f4:=wL.o.o.free k;have d3:=wL.o.d3;have n1:¬bo=w.heap.size:=by omega
   have n2:¬w.heap.size=bo:=by omega
   have lF:=η (wL.o.aKR k (k:Int));rw [Rs (g:=λi=>(i:Int))] at lF;have hb1:=ir.o k hk;have hb2:=E8.o k hlt;have es:T-dZ (quo T S W) k-quo T S W k=T-dZ (quo T S W) (k+1):=by rw [dZ];omega
   have HES:=η es;clear es;obtain⟨g1,g2⟩:=hb1;obtain⟨g3,g4⟩:=hb2;go_wp2_with fail
   go_roundw
   case rel=>exact⟨k+1,by omega,by go_num,by rw [<-HES.o],lF⟩
   case measure=>simp [ag];omega
  obtain rfl:k=aA l:=by omega
  rw [Rq,Rq,Rq] at HA;have d0:=HA.o.d0;have d1:=HA.o.d1;have d2:=HA.o.d2;have d3:=HA.o.d3;have sz:=HA.o.sz;have HC:=η (aKf bc br bo (aA l) (l8 T S W) wr (by omega) HA.o.c HA.o.r HA.o.o (by omega) (by omega) (by omega) (by omega) (by omega));go_wp2_with fail
  refine HC.o.mono ?_;rintro e w2 ⟨rfl,who,ho,hcell,hg⟩;have HO:=η ho;have J7:=η hcell;have HP:Hid (fT w2 w.heap.size 2 (eH (aA l) (partT T S W (aA l) 0))/\β w w2):=by refine⟨?_,HA.o.b.grown hg (by omega) (λk hk=>by injection hk;omega)⟩;have h1:=HA.o.p.of_block (hg.block _ (by omega) (λe=>by injection e;omega));grind [partT,Xx]
  have IG:bo<w2.heap.size:=by have:=hg.size;omega
  clear ho hcell hg HC HA;obtain⟨L,hL⟩:∃L,L=left T S W (aA l):=⟨_,rfl⟩;have B4:=η (NI (T:=T) (S:=S) (W:=W) (n:=aA l) h0 Fz.o);have TP:=η (a5K (T:=T) (S:=S) (W:=W) (n:=aA l) h0 Fz.o);have eL:T-dZ (quo T S W) (aA l)=L:=by rw [hL];rfl
  have hL0:0<=L:=by rw [hL];exact B4.o.1
  have hLn:L<=(aA l:Int):=by rw [hL];exact TP.o
  have CM:=η hL;rw [eL];clear hL eL;go_wp2_with fail
  go_loopw [12,60] (λ_ i wr=>∃t:Nat,(t:Int)<=L/\i=ν t/\bo<wr.heap.size/\Hid (∀t,t<aA l->wr.cell? ⟨bo,t,aB⟩=aC (ν (who t:Int)))/\Hid (fT wr w.heap.size 2 (eH (aA l) (partT T S W (aA l) t))/\β w wr)) (λ_ i _=>aA l-(ag i).toNat)
  case atStart=>exact⟨0,hL0,rfl,IG,J7,HP⟩
  case round=>
   clear J7 HP IG;obtain⟨t,ht,rfl,IG,J7,HP⟩:=hrel;by_cases hlt:(t:Int)<L
   ·have N2:t<aA l:=by omega
    obtain⟨j,hj⟩:∃j,j=who t:=⟨_,rfl⟩;have WG:j<aA l:=by rw [hj];exact(HO.o t N2).1
    have WH:rk (l8 T S W) (aA l) j=t:=by rw [hj];exact(HO.o t N2).2
    have cw:=J7.o t N2;rw [<-hj] at cw;have cp:=HP.o.1.cell (i:=j) (by rw [r9];exact WG);have fp:=HP.o.1.free j;have e0:partT T S W (aA l) t j=quo T S W j:=by grind [partT]
    rw [Dr,e0] at cp;have bP:0<=quo T S W j/\quo T S W j<=T-1:=by refine⟨(E8.o j WG).1, ?_⟩;have h7:=eI.o j WG;unfold ShareLaw.part partT at h7;rw [ifP (by rw [WH,<-CM.o];omega)] at h7;omega
    obtain⟨g1,g2⟩:=bP;have mi:Hid (fT (wr.setCell ⟨w.heap.size,j,aB⟩ (ν (quo T S W j+1))) w.heap.size 2 (eH (aA l) (partT T S W (aA l) (t+1)))/\β w (wr.setCell ⟨w.heap.size,j,aB⟩ (ν (quo T S W j+1)))):=by
     refine⟨?_,HP.o.2.setCell (by simp) _⟩;have h7:=HP.o.1.set j (quo T S W j+1);have e1:(eH (aA l) (partT T S W (aA l) t)).set j (quo T S W j+1)=eH (aA l) (partT T S W (aA l) (t+1)):=by
      rw [a6v];refine Xx λi hi=> ?_
      grind [partT,Xu]
     rw [e1] at h7;exact h7
    have kJ:Hid (∀t,t<aA l->(wr.setCell ⟨w.heap.size,j,aB⟩ (ν (quo T S W j+1))).cell? ⟨bo,t,aB⟩=aC (ν (who t:Int))):=by intro t' AG;rw [gh (w:=wr) (Ny wr _ _ bo (by dsimp only;omega))];exact J7.o t' AG
    have HJ:=η hj;have HJR:=η WH;clear hj WH e0 J7 HP;go_wp2_with fail
    go_roundw
    case rel=>exact⟨t+1,by omega,by go_num,by simpa using IG,kJ,mi⟩
    case measure=>simp [ag];omega
   have e:(L.toNat:Nat)=t:=by omega
   have oq:Hid (fT wr w.heap.size 2 (eH (aA l) (ShareLaw.part T S W (aA l)))/\β w wr):=by refine⟨?_,HP.o.2⟩;have h7:=HP.o.1;rw [<-e,CM.o] at h7;exact h7
   go_wp2_with fail
   go_ret;exact⟨rfl,oq.o.1,oq.o.2,by omega⟩
end
section
open Go.Lib Go.Sort Go.Shelf Go.Proofs.YtdokipdchlcmeaaGreat.pG Go.Proofs.YtdokipdchlcmeaaGreat.ShareLaw
def xw(w:aJ)(xs:List Int)(err:Int):dU->aJ->Prop:=λe w'=>∃A c,e=aT (bB #[aH A (aA xs) c,aG aF err])/\aW w' w'.heap.size A (xs.map (aG aF))/\aa w.heap.size w w'
theorem xw.nil(w:aJ)(err:Int)(w':aJ)(h:aa w.heap.size w w'):xw w [] err (aT (bB #[aH aB 0 0,aG aF err])) w':=⟨aB,0,rfl,aW.nil,h⟩
def vG(T:Int)(l:List Int):Int:=if iK T l≠0 then iK T l else if T=0 then 0 else if sumI l=0 then 17 else 0
def uI(T:Int)(l:List Int):List Int:=if iK T l≠0 then [] else if T=0 then gP (aA l) 0 else if sumI l=0 then [] else eH (aA l) (ShareLaw.part T (sumI l) (wf l) (aA l))
structure Fit(T:Int)(l:List Int):Prop where
 len:aA l<=1024
 pos:0<=T
 all:∀x∈l,0<=x
 amt:aL (sumI l)
 val:xF T l=sumI l
theorem a1d {x:Int}(h:dM x=0):aL x:=by grind [dM]
theorem Q1 {T:Int} {l:List Int}(h:iK T l=0):Fit T l:=by
 unfold iK at h;by_cases h1:1024<aA l
 ·omega
 rw [ifN h1] at h;by_cases h2:T<0\/xZ l=aO
 ·grind
 rw [ifN h2] at h;have hI:=a1d h;refine⟨by omega,by omega,aIA (by grind),hI, ?_⟩;grind [xF,eA]
theorem a7w {l:List Int}(h:∀x∈l,0<=x):0<=sumI l:=by
 rw [<-YN];refine S8 λi hi=> ?_
 grind [Kk,cK]
theorem aKP(w:aJ)(n:Nat):aW (w.alloc (aK (lB n (aG aF 0)) 2)) (w.alloc (aK (lB n (aG aF 0)) 2)).heap.size (aC ⟨w.heap.size,0,aB⟩) ((gP n (0:Int)).map (aG aF)):=by have h:=fT.new w 2 (gP n 0);rw [a6l] at h;exact h.dt (by simp)
theorem a8b(T:Int)(l:List Int)(A:Option aj)(c:Nat)(w:aJ)(hT:aL T)(hl:∀x∈l,aL x)(hs:aW w w.heap.size A (l.map (aG aF)))(hn:aA l<=bM):
 aQ aM 228 #[ν T,aH A (aA l) c] w (xw w (uI T l) (vG T l)):=by
 have HC:=η (a2F T l A c w hl hs hn);by_cases h1:iK T l=0
 ·have F:=Q1 h1;by_cases h2:T=0
  ·have e1:vG T l=0:=by grind [vG]
   have e2:uI T l=gP (aA l) 0:=by grind [uI]
   rw [e1,e2];rw [h1,F.val] at HC;have mk:=XI (aA l) (by have:=F.len;omega);have uR:(T==0)=aO:=by simpa using h2
   have h2n:T=0:=h2;subst h2;clear F e1 e2 h1 uR h2n hl hs hT;generalize sumI l=S at*;go_enter UU,Uc
   go_wp2_with fail
   refine HC.o.mono ?_;rintro e w1 ⟨rfl,hb1⟩;have HB:=η hb1;clear hb1;go_wp2_with fail
   go_ret2;refine⟨aC ⟨w1.heap.size,0,aB⟩,aA l,by rw [Cl];rfl,aKP w1 (aA l),HB.o.alloc HB.o.size _⟩
  by_cases h3:sumI l=0
  ·have e1:vG T l=17:=by grind [vG]
   have e2:uI T l= []:=by grind [uI]
   rw [e1,e2];rw [h1,F.val,h3] at HC;have uR:(T==0)=aP:=by simpa using h2
   clear F e1 e2 h1 h2 h3 hl hs hT;go_enter UU,Uc
   go_wp2_with fail
   refine HC.o.mono ?_;rintro e w1 ⟨rfl,hb1⟩;have HB:=η hb1;clear hb1;go_wp2_with fail
   go_ret2;exact xw.nil _ _ _ HB.o
  have e1:vG T l=0:=by grind [vG]
  have e2:uI T l=eH (aA l) (ShareLaw.part T (sumI l) (wf l) (aA l)):=by grind [uI]
  rw [e1,e2];rw [h1,F.val] at HC;have h0:=a7w F.all;have hI:=F.amt;have hTT:=hT;unfold aL at hI hTT;have HD:Hid (∀W,β w W->aQ aM 257 #[ν T,aH A (aA l) c,ν (sumI l)] W λe w'=>e=aT (aH (aC ⟨W.heap.size,0,aB⟩) (aA l) (aA l))/\fT w' W.heap.size 2 (eH (aA l) (ShareLaw.part T (sumI l) (wf l) (aA l)))/\β W w'/\W.heap.size<w'.heap.size):=λW hW=>
   aCj T l A c W F.pos (by omega) F.all (by omega) (by omega) F.len ((hs.below hW).mono hW.size)
  have uR:(T==0)=aP:=by simpa using h2
  have Hk:(sumI l==0)=aP:=by simpa using h3
  clear F e1 e2 h1 h2 h3 hl hs hT h0 hI hTT;generalize sumI l=S at*;go_enter UU,Uc
  go_wp2_with fail
  refine HC.o.mono ?_;rintro e w1 ⟨rfl,hb1⟩;have HB:=η hb1;clear hb1;go_wp2_with fail
  refine(HD.o _ HB.o).mono ?_;rintro e w2 ⟨rfl,hr,hb2,hlt⟩;have HR:=η hr;have aV:=τ HB hb2;clear hr hb2;go_wp2_with fail
  go_ret2;exact⟨aC ⟨w1.heap.size,0,aB⟩,aA l,by rw [r9];rfl,HR.o.dt hlt,aV.o⟩
 have e1:vG T l=iK T l:=by grind [vG]
 have e2:uI T l= []:=by grind [uI]
 rw [e1,e2];have uQ:(iK T l==0)=aP:=by simpa using h1
 have h1n:(iK T l !=0)=aO:=by simpa using h1
 clear e1 e2 h1 hl hs hT;generalize iK T l=E at*;generalize xF T l=V at*;go_enter UU,Uc
 go_wp2_with fail
 refine HC.o.mono ?_;rintro e w1 ⟨rfl,hb1⟩;have HB:=η hb1;clear hb1;go_wp2_with fail
 go_ret2;exact xw.nil _ _ _ HB.o
def zV(T:Int)(l:List Int):Int:=if iK T l≠0 then iK T l else if sumI l<=T then 0 else vG T l
def dK(T:Int)(l:List Int):List Int:=if iK T l≠0 then [] else if sumI l<=T then l else uI T l
def Sb(l:List Int)(w:aJ):dU->aJ->Prop:=λe w'=>∃A c,e=aT (aH A (aA l) c)/\aW w' w'.heap.size A (l.map (aG aF))/\aa w.heap.size w w'
theorem aDu(l:List Int)(A:Option aj)(c:Nat)(w:aJ)(hn:aA l<=1000000)(hs:aW w w.heap.size A (l.map (aG aF))):
 aQ aM 158 #[aH A (aA l) c] w (Sb l w):=by
 have inf:(aM.info? 2).map (λi=>(i.zero,i.size,i.bytes))=aC (aC (ν 0),1,8):=by kernel_rfl
 obtain⟨i0,hi,hz0,hz1,hz2⟩:=dL inf;cases A with
 |none=>
  have e:l= []:=by
   cases l with
   |nil=>rfl
   |cons a l=>
    obtain⟨b,o,h,_⟩:=hs 0 (ν a) (by simp);cases h
  subst e;refine(by first|exact slices_Clone_int_nil 0 c w|exact slices_Clone_nil_f158 0 c w|exact slices_Clone_nil 0 c w:aQ aM 158 #[aH aB 0 c] w _).mono ?_;rintro e w' ⟨rfl,rfl⟩;exact⟨aB,0,rfl,aW.nil,aX _ _⟩
 |some a=>
  have hnews:∀(o:Obj) j u,(l.map (aG aF))[j]? =aC u->(w.alloc o).cell? (a.add j)=aC u:=λob j u hu=>by obtain⟨b,o,e,hb,hc⟩:=hs j u hu;grind [Addr.add,BM]
  have KF:∀u∈l.map (aG aF),u.oneCell'=aO:=λu hu=>by obtain⟨y,_,rfl⟩:=dW.1 hu;rfl
  have HN:=η hnews;have H1:=η KF;clear hnews KF hs;have q22:∀(w:aJ) (a:Option aj) (n c n' c':Nat),(binOp .eql 53 (aH a n c) (aH aB n' c')).run aM w= .ok (bJ a.isNone) w:=λw a n c n' c'=>Lib.run_eql_slice_nil w _ _ a n c n' c' mP
  go_enter func158,ntmps158
  go_wp2_with (at_builtin;refine j9 _ rfl _ _ 53 rfl w.heap.size 2 i0 (ν 0) 1 8 mP hi hz0 hz1 hz2 rfl (by decide) _ _ _ rfl (World.ownsRow_made w #[] 0 (aZ _) (bL _) rfl) a (aA l) c (l.map (aG aF)) rfl (by simp) (HN.o _) H1.o (by simp only [bM];omega) (by omega) (by simp) ?_)
  intro v' w1 hown hgrow _;have HO:=η hown;have HG:=η hgrow;clear hown hgrow;go_wp2
  go_ret;have hO:w1.ownsRow w.heap.size 2 1 v' (aA l) (l.map (aG aF)):=by simpa using HO.o
  obtain⟨A1,c1,rfl⟩:=bK hO;exact⟨A1,c1,rfl,aW.cA hO,((aX _ w).alloc (aZ _) _).grown HG.o (by simp) (by grind [dy])⟩
theorem Yf(T:Int)(l:List Int)(A:Option aj)(c:Nat)(w:aJ)(hT:aL T)(hl:∀x∈l,aL x)(hs:aW w w.heap.size A (l.map (aG aF)))(hn:aA l<=bM):
 aQ aM 194 #[ν T,aH A (aA l) c] w (xw w (dK T l) (zV T l)):=by
 have HC:=η (a2F T l A c w hl hs hn);by_cases h1:iK T l=0
 ·have F:=Q1 h1;have hlen:=F.len;by_cases h2:sumI l<=T
  ·have e1:zV T l=0:=by grind [zV]
   have e2:dK T l=l:=by grind [dK]
   rw [e1,e2];rw [h1,F.val] at HC;have HD:Hid (∀W,β w W->aQ aM 158 #[aH A (aA l) c] W (Sb l W)):=λW hW=>aDu l A c W (by omega) ((hs.below hW).mono hW.size)
   clear F e1 e2 h1 hl hs hT;generalize sumI l=S at*;go_enter a0c,a0w
   go_wp2_with fail
   refine HC.o.mono ?_;rintro e w1 ⟨rfl,hb1⟩;have HB:=η hb1;clear hb1;go_wp2_with fail
   refine(HD.o _ HB.o).mono ?_;rintro e w2 ⟨A2,c2,rfl,hs2,hb2⟩;have cM:=η hs2;have aV:=τ HB hb2;clear hs2 hb2;go_wp2_with fail
   go_ret2;exact⟨A2,c2,rfl,cM.o,aV.o⟩
  have e1:zV T l=vG T l:=by grind [zV]
  have e2:dK T l=uI T l:=by grind [dK]
  rw [e1,e2];rw [h1,F.val] at HC;have HD:Hid (∀W,β w W->aQ aM 228 #[ν T,aH A (aA l) c] W (xw W (uI T l) (vG T l))):=λW hW=>a8b T l A c W hT hl ((hs.below hW).mono hW.size) hn
  clear F e1 e2 h1 hl hs hT;generalize sumI l=S at*;generalize uI T l=zs at*;generalize vG T l=E at*;go_enter a0c,a0w
  go_wp2_with fail
  refine HC.o.mono ?_;rintro e w1 ⟨rfl,hb1⟩;have HB:=η hb1;clear hb1;go_wp2_with fail
  refine(HD.o _ HB.o).mono ?_;rintro e w2 ⟨A2,c2,rfl,hs2,hb2⟩;have cM:=η hs2;have aV:=τ HB hb2;clear hs2 hb2;go_wp2_with fail
  go_ret2;exact⟨A2,c2,rfl,cM.o,aV.o⟩
 have e1:zV T l=iK T l:=by grind [zV]
 have e2:dK T l= []:=by grind [dK]
 rw [e1,e2];have uQ:(iK T l==0)=aP:=by simpa using h1
 have h1n:(iK T l !=0)=aO:=by simpa using h1
 clear e1 e2 h1 hl hs hT;generalize iK T l=E at*;generalize xF T l=V at*;go_enter a0c,a0w
 go_wp2_with fail
 refine HC.o.mono ?_;rintro e w1 ⟨rfl,hb1⟩;have HB:=η hb1;clear hb1;go_wp2_with fail
 go_ret2;exact xw.nil _ _ _ HB.o
def fitB:List Int->List Int->Bool
 | [],[]=>aO
 |c::cs,p::ps=>decide (0<=p)&&decide (p<=c)&&fitB cs ps
 |_,_=>aP
def oM(cs ps:List Int):List Int:=if fitB cs ps then kN (· - ·) cs ps else []
def AL(cs ps:List Int):Int:=if fitB cs ps then 0 else 1
theorem a3M:∀ {cs ps:List Int},fitB cs ps=aO->aA cs=aA ps
 | [],[],_=>rfl
 |c::cs,p::ps,h=>by simp only [fitB,jb] at h;simp [a3M h.2]
 | [],_::_,h=>by simp [fitB] at h
 |_::_,[],h=>by simp [fitB] at h
theorem Q0:∀ {cs ps:List Int},aA cs=aA ps->(fitB cs ps=aO↔∀i (h:i<aA cs) (h':i<aA ps),0<=ps[i]/\ps[i]<=cs[i])
 | [],[],_=>by simp [fitB]
 |c::cs,p::ps,e=>by
  have ih:=Q0 (cs:=cs) (ps:=ps) (by simpa using e);simp only [fitB,jb,decide_eq_true_eq,ih];constructor
  ·rintro⟨h1,h2⟩ i h h';cases i with
   |zero=>exact h1
   |succ i=>grind
  intro h;exact⟨h 0 (by simp) (by simp),λi h1 h2=>h (i+1) (by simpa using h1) (by simpa using h2)⟩
 | [],_::_,e=>by simp at e
 |_::_,[],e=>by simp at e
theorem a3N {cs ps:List Int} {i:Nat}(e:aA cs=aA ps)(h:i<aA cs)(h':i<aA ps)(hn:¬(0<=ps[i]/\ps[i]<=cs[i])):fitB cs ps=aP:=by grind [Q0]
theorem aM7 {cs ps:List Int} {k:Nat}(h:k<aA cs)(h':k<aA ps):kN (· - ·) (cs.take (k+1)) (ps.take (k+1))=kN (· - ·) (cs.take k) (ps.take k)++ [cs[k]-ps[k]]:=by rw [fE h,fE h',List.zipWith_append (by simp;omega)];rfl
theorem aA4(cs ps:List Int)(A A':Option aj)(c c':Nat)(w:aJ)(hcs:∀x∈cs,aL x)(hs:aW w w.heap.size A (cs.map (aG aF)))(hs':aW w w.heap.size A' (ps.map (aG aF)))(hn:aA cs<=1000000):
 aQ aM 195 #[aH A (aA cs) c,aH A' (aA ps) c'] w (xw w (oM cs ps) (AL cs ps)):=by
 by_cases hlen:aA cs=aA ps
 ·have inf:(aM.info? 2).map (λi=>(i.zero,i.size,i.bytes))=aC (aC (ν 0),1,8):=by kernel_rfl
  obtain⟨i0,bu,hz0,hz1,hz2⟩:=dL inf;have HS:=η hs;have Tk:=η hs';have HI:=η hcs;have HLEN:=η hlen;rw [<-hlen];clear hs hs' hcs hlen;go_enter aAp,aBc
  go_wp2_with fail
  go_loopw [6,7,8,16] (λu _ _ i wr=>∃k:Nat,k<=aA cs/\i=ν k/\Hid (∀i (h:i<aA cs) (h':i<aA ps),i<k->0<=ps[i]/\ps[i]<=cs[i])/\Hid (wr.ownsRow w.heap.size 2 1 u (aA (kN (· - ·) (cs.take k) (ps.take k))) ((kN (· - ·) (cs.take k) (ps.take k)).map (aG aF)))/\Hid (β w wr)) (λ_ _ _ i _=>aA cs-(ag i).toNat)
  case atStart=>exact⟨0,bL _,rfl,λi _ _ h=>by omega,⟨by simp,aS ⟨rfl,rfl⟩⟩,aX _ _⟩
  case round=>
   obtain⟨k,hk,rfl,HP,HO,HB⟩:=hrel;have hsz:=HB.o.size;by_cases hlt:k<aA cs
   ·have yZ:k<aA ps:=by have:=HLEN.o;omega
    obtain⟨b,o,rfl,hb,hc⟩:=(HS.o.below HB.o).at (k:=k) (by simpa using hlt);obtain⟨b',o',rfl,hb',hc'⟩:=(Tk.o.below HB.o).at (k:=k) (by simpa using yZ);rw [wk] at hc hc';have hI:=HI.o cs[k] (cK hlt);unfold aL at hI;obtain⟨DL,hI2⟩:=hI;by_cases hx:ps[k]<0
    ·have HF:=η (a3N HLEN.o hlt yZ (by omega));go_wp2_with fail
     go_ret2;have e1:oM cs ps= []:=by unfold oM;rw [HF.o];rfl
     have e2:AL cs ps=1:=by unfold AL;rw [HF.o];rfl
     rw [e1,e2];exact xw.nil _ _ _ HB.o
    by_cases hy:cs[k]<ps[k]
    ·have HF:=η (a3N HLEN.o hlt yZ (by omega));go_wp2_with fail
     go_ret2;have e1:oM cs ps= []:=by unfold oM;rw [HF.o];rfl
     have e2:AL cs ps=1:=by unfold AL;rw [HF.o];rfl
     rw [e1,e2];exact xw.nil _ _ _ HB.o
    have mi:Hid (∀i (h:i<aA cs) (h':i<aA ps),i<k+1->0<=ps[i]/\ps[i]<=cs[i]):=by
     intro i h h' hik;by_cases e:i=k
     ·subst e;omega
     exact HP.o i h h' (by omega)
    have HF:=η (aM7 hlt yZ);have hzl:aA (kN (· - ·) (cs.take k) (ps.take k))<=k:=by grind
    generalize kN (· - ·) (cs.take k) (ps.take k)=ys at*;go_wp2_with (at_builtin;refine j9 _ rfl _ _ 53 rfl w.heap.size 2 i0 _ 1 8 mP bu hz0 hz1 hz2 rfl (by decide) _ (aA ys) (ys.map (aG aF)) rfl (HO.o.alloc _) ⟨wr.heap.size,0,aB⟩ 1 1 [ν (cs[k]-ps[k])] rfl rfl (dN _ _ #[_] (by simp)) xh (by simp only [bM];omega) (by omega) (by simp;omega) ?_)
    intro v' w4 hown1 dF _;have dV:Hid (w4.ownsRow w.heap.size 2 1 v' (aA (kN (· - ·) (cs.take (k+1)) (ps.take (k+1)))) ((kN (· - ·) (cs.take (k+1)) (ps.take (k+1))).map (aG aF))):=by show jw _ _ _ _ _ _ _;rw [HF.o,df,cN,uG];exact hown1
    have pj:Hid (β w w4):=(HB.o.alloc hsz _).grown dF (by simp;omega) (λj hj=>eT HO.o j hj);clear hown1 dF;go_wp2_with fail
    go_roundw
    case rel=>grind
    case measure=>simp [ag];omega
   obtain rfl:k=aA cs:=by omega
   have HF:=η ((Q0 HLEN.o).2 λi h h'=>HP.o i h h' h);have hO:=HO.o;have e9:ps.take (aA cs)=ps:=by rw [HLEN.o,cT]
   rw [cT,e9] at hO;have e1:oM cs ps=kN (· - ·) cs ps:=by unfold oM;rw [HF.o];rfl
   have e2:AL cs ps=0:=by unfold AL;rw [HF.o];rfl
   generalize kN (· - ·) cs ps=zs at hO e1;obtain⟨A1,c1,rfl⟩:=bK hO;have qX:=η (aW.cA hO);have xz:=η e1;have mf:=η e2;clear hO e1 e2 e9;go_wp2_with fail
   go_ret2;rw [xz.o,mf.o];exact⟨A1,c1,rfl,qX.o,HB.o⟩
 have e0:fitB cs ps=aP:=by grind [a3M]
 have e1:oM cs ps= []:=by grind [oM]
 have e2:AL cs ps=1:=by grind [AL]
 rw [e1,e2];clear e0 e1 e2 hs hs' hcs;have h9:((aA cs:Int) !=(aA ps:Int))=aO:=by simp;omega
 have h8:(aA cs==aA ps)=aP:=by simpa using hlen
 go_enter aAp,aBc
 go_wp2_with fail
 go_ret2;exact xw.nil _ _ _ (aX _ _)
end
def Eh(x:ak):Bool:=decide (aA x.ms<=20)&&(decide (aA x.ss<=20)&&decide (aA x.cy<=20))
theorem aFS(x:ak)(w:aJ)(hm:aA x.ms<=bM)(hs:aA x.ss<=bM)(hc:aA x.cy<=bM):
 aQ aM 22 #[x.val] w λe w'=>e=aT (bJ (Eh x))/\β w w':=by
 have aY:=η (mQ w x);have HF:=η (show Eh x=(decide (aA x.ms<=20)&&(decide (aA x.ss<=20)&&decide (aA x.cy<=20))) from rfl);unfold bM at hm hs hc;generalize Eh x=fb at*;unfold ak.val at*;by_cases h1:aA x.ms<=20
 ·by_cases h2:aA x.ss<=20
  ·by_cases h3:aA x.cy<=20
   ·have HG:Hid (aO=fb):=by grind
    go_enter UR,Ua
    go_wp2
    go_ret;exact⟨fQ (by rw [<-HG.o];simp;omega),aY⟩
   have HG:Hid (aP=fb):=by grind
   go_enter UR,Ua
   go_wp2
   go_ret;exact⟨fQ (by rw [<-HG.o];simp;omega),aY⟩
  have HG:Hid (aP=fb):=by grind
  go_enter UR,Ua
  go_wp2
  go_ret;exact⟨fQ HG,aY⟩
 have HG:Hid (aP=fb):=by grind
 go_enter UR,Ua
 go_wp2
 go_ret;exact⟨fQ HG,aY⟩
theorem XQ(n a b:Int)(w:aJ)(h:a<=n)(h':n<=b):aQ aM 45 #[aG aF n,aG aF a,aG aF b] w λe w'=>e=aT (aG aF n)/\w=w':=by
 go_enter func45,ntmps45
 go_wp2
 go_ret;refine⟨cW ?_,rfl⟩;omega
section
theorem lf {w:aJ} {g:Nat} {cs:Array aN} {t:bY}(h:w.heap[g]? =aC (aK cs t (0,0)))(i:Nat)(u:aN):(w.setCell ⟨g,i,aB⟩ u).heap[g]? =aC (aK (cs.setIfInBounds i u) t (0,0)):=by simp [EY,Array.getElem?_modify,h]
theorem kF {w:aJ} {base:Nat} {e:bY} {size n:Nat} {v:aN} {xs:List aN}(h:w.ownsRow base e size v n xs) {p:aj}(hp:v.ownBlock≠aC p.block)(u:aN):(w.setCell p u).ownsRow base e size v n xs:=by have hg:w.grownBy (w.setCell p u) (aC p.block):=⟨rfl,rfl,rfl,by simp [EY],λi _ hi=>nK _ _ _ _ (λe=>hi (by rw [e]))⟩;exact h.kept hg (Or.inr hp)
theorem IZ {w:aJ} {base base':Nat} {e e':bY} {size size' n n':Nat} {v v':aN} {xs xs':List aN}(h:w.ownsRow base e size v n xs)(h':w.ownsRow base' e' size' v' n' xs')(hne:e≠e'):v.ownBlock=aB\/v.ownBlock≠v'.ownBlock:=by
 rcases h.2 with⟨rfl,_⟩|⟨g,cap,cur,rfl,_,hh,_⟩
 ·left;rfl
 right;rcases h'.2 with⟨rfl,_⟩|⟨g',cap',cur',rfl,_,Hx,_⟩
 ·simp [dy]
 intro he;have e2:g=g':=by simpa [dy] using he
 subst e2;rw [hh] at Hx;injection Hx with Hx;injection Hx with _ ht;exact hne ht
structure ie(w wr:aJ)(v0 v1 v2:aN)(ms ss:List Pr)(cy:List Cy):Prop where
 box:wr.heap[w.heap.size+1]? =aC (aK #[v0,v1,v2,ν 500,ν 200,ν 1,ν 64,ν 32] 26 (0,0))
 res:wr.heap[w.heap.size]? =aC (aK #[aH aB 0 0,aH aB 0 0,aH aB 0 0,ν 0,ν 0,ν 0,ν 0,ν 0] 26 (0,0))
 o0:wr.ownsRow (w.heap.size+2) 67 2 v0 (aA ms) (jY ms)
 o1:wr.ownsRow (w.heap.size+2) 69 2 v1 (aA ss) (jY ss)
 o2:wr.ownsRow (w.heap.size+2) 71 4 v2 (aA cy) (uM cy)
 xE:β w wr
section
variable {w wr w4:aJ} {v0 v1 v2 v':aN} {ms ss:List Pr} {cy:List Cy} {o:Obj}
theorem ie.lt(h:ie w wr v0 v1 v2 ms ss cy):w.heap.size+1<wr.heap.size:=(fW.1 h.box).1
theorem ie.c(h:ie w wr v0 v1 v2 ms ss cy)(j:Nat):wr.cell? ⟨w.heap.size+1,j,aB⟩=(#[v0,v1,v2,aG aF 500,aG aF 200,aG aF 1,aG aF 64,aG aF 32]:Array aN)[j]? :=bH _ _ _ _ _ (0,0) h.box
theorem ie.f(h:ie w wr v0 v1 v2 ms ss cy)(j:Nat):wr.frozen? ⟨w.heap.size+1,j,aB⟩=aP:=Jw _ _ _ _ _ h.box
theorem ie.r(h:ie w wr v0 v1 v2 ms ss cy)(j:Nat):wr.cell? ⟨w.heap.size,j,aB⟩=(#[aH aB 0 0,aH aB 0 0,aH aB 0 0,aG aF 0,aG aF 0,aG aF 0,aG aF 0,aG aF 0]:Array aN)[j]? :=bH _ _ _ _ _ (0,0) h.res
theorem ie.rf(h:ie w wr v0 v1 v2 ms ss cy)(j:Nat):wr.frozen? ⟨w.heap.size,j,aB⟩=aP:=Jw _ _ _ _ _ h.res
theorem far {base:Nat} {e:bY} {size n:Nat} {v:aN} {xs:List aN}(h:w.ownsRow base e size v n xs) {g:Nat}(hg:g<base):v.ownBlock≠aC g:=λe=>by have:=(h.lt _ e).1;omega
theorem Dg {base:Nat} {e:bY} {size n:Nat} {v:aN} {xs:List aN}(h:wr.ownsRow base e size v n xs)(hg:(wr.alloc o).grownBy w4 v.ownBlock) {g:Nat}(hb:g<base)(hl:g<wr.heap.size):w4.heap[g]? =wr.heap[g]? :=
 (hg.block g (by simp;omega) (λe=>far h hb e.symm)).trans (fF _ _ hl)
theorem ie.m(h:ie w wr v0 v1 v2 ms ss cy) {y:Pr}(hown:w4.ownsRow (w.heap.size+2) 67 2 v' (aA ms+1) (jY ms++y.cells))(hg:(wr.alloc o).grownBy w4 v0.ownBlock):ie w (w4.setCell ⟨w.heap.size+1,0,aB⟩ v') v' v1 v2 (ms++ [y]) ss cy:=by
 have hlt:=h.lt;have hsz:=h.xE.size;refine⟨?_, ?_,by rw [show aA (ms++ [y])=aA ms+1 by simp,show jY (ms++ [y])=jY ms++y.cells by simp [jY]];exact kF hown (far hown (by simp)) _,kF ((h.o1.alloc o).kept hg (IZ h.o1 h.o0 (by decide))) (far h.o1 (by simp)) _,kF ((h.o2.alloc o).kept hg (IZ h.o2 h.o0 (by decide))) (far h.o2 (by simp)) _, ?_⟩
 ·rw [lf ((Dg h.o0 hg (by omega) hlt).trans h.box)];rfl
 ·rw [nK _ _ _ _ (by simp)];exact(Dg h.o0 hg (by omega) (by omega)).trans h.res
 exact((h.xE.alloc hsz o).grown hg (by simp;omega) (λj hj=>bz (by omega) (eT h.o0 j hj))).setCell (by simp) _
theorem ie.m0(h:ie w wr v0 v1 v2 ms ss cy)(hg:(wr.alloc o).grownBy w4 v0.ownBlock):w4.cell? ⟨w.heap.size+1,0,aB⟩=aC v0/\w4.frozen? ⟨w.heap.size+1,0,aB⟩=aP/\w.heap.size+1<w4.heap.size:=
 have hb:=(Dg h.o0 hg (by omega) h.lt).trans h.box
 ⟨ρ hb,Jw _ _ _ _ _ hb,(fW.1 hb).1⟩
theorem ie.s(h:ie w wr v0 v1 v2 ms ss cy) {y:Pr}(hown:w4.ownsRow (w.heap.size+2) 69 2 v' (aA ss+1) (jY ss++y.cells))(hg:(wr.alloc o).grownBy w4 v1.ownBlock):ie w (w4.setCell ⟨w.heap.size+1,1,aB⟩ v') v0 v' v2 ms (ss++ [y]) cy:=by
 have hlt:=h.lt;have hsz:=h.xE.size;refine⟨?_, ?_,kF ((h.o0.alloc o).kept hg (IZ h.o0 h.o1 (by decide))) (far h.o0 (by simp)) _,by rw [show aA (ss++ [y])=aA ss+1 by simp,show jY (ss++ [y])=jY ss++y.cells by simp [jY]];exact kF hown (far hown (by simp)) _,kF ((h.o2.alloc o).kept hg (IZ h.o2 h.o1 (by decide))) (far h.o2 (by simp)) _, ?_⟩
 ·rw [lf ((Dg h.o1 hg (by omega) hlt).trans h.box)];rfl
 ·rw [nK _ _ _ _ (by simp)];exact(Dg h.o1 hg (by omega) (by omega)).trans h.res
 exact((h.xE.alloc hsz o).grown hg (by simp;omega) (λj hj=>bz (by omega) (eT h.o1 j hj))).setCell (by simp) _
theorem ie.s0(h:ie w wr v0 v1 v2 ms ss cy)(hg:(wr.alloc o).grownBy w4 v1.ownBlock):w4.cell? ⟨w.heap.size+1,1,aB⟩=aC v1/\w4.frozen? ⟨w.heap.size+1,1,aB⟩=aP/\w.heap.size+1<w4.heap.size:=
 have hb:=(Dg h.o1 hg (by omega) h.lt).trans h.box
 ⟨ρ hb,Jw _ _ _ _ _ hb,(fW.1 hb).1⟩
theorem ie.y(h:ie w wr v0 v1 v2 ms ss cy) {y:Cy}(hown:w4.ownsRow (w.heap.size+2) 71 4 v' (aA cy+1) (uM cy++y.cells))(hg:(wr.alloc o).grownBy w4 v2.ownBlock):ie w (w4.setCell ⟨w.heap.size+1,2,aB⟩ v') v0 v1 v' ms ss (cy++ [y]):=by
 have hlt:=h.lt;have hsz:=h.xE.size;refine⟨?_, ?_,kF ((h.o0.alloc o).kept hg (IZ h.o0 h.o2 (by decide))) (far h.o0 (by simp)) _,kF ((h.o1.alloc o).kept hg (IZ h.o1 h.o2 (by decide))) (far h.o1 (by simp)) _,by rw [show aA (cy++ [y])=aA cy+1 by simp,show uM (cy++ [y])=uM cy++y.cells by simp [uM]];exact kF hown (far hown (by simp)) _, ?_⟩
 ·rw [lf ((Dg h.o2 hg (by omega) hlt).trans h.box)];rfl
 ·rw [nK _ _ _ _ (by simp)];exact(Dg h.o2 hg (by omega) (by omega)).trans h.res
 exact((h.xE.alloc hsz o).grown hg (by simp;omega) (λj hj=>bz (by omega) (eT h.o2 j hj))).setCell (by simp) _
theorem ie.y0(h:ie w wr v0 v1 v2 ms ss cy)(hg:(wr.alloc o).grownBy w4 v2.ownBlock):w4.cell? ⟨w.heap.size+1,2,aB⟩=aC v2/\w4.frozen? ⟨w.heap.size+1,2,aB⟩=aP/\w.heap.size+1<w4.heap.size:=
 have hb:=(Dg h.o2 hg (by omega) h.lt).trans h.box
 ⟨ρ hb,Jw _ _ _ _ _ hb,(fW.1 hb).1⟩
structure P6(w W:aJ)(cs:Array aN)(v0 v1 v2:aN)(ms ss:List Pr)(cy:List Cy):Prop where
 res:W.heap[w.heap.size]? =aC (aK cs 26 (0,0))
 o0:W.ownsRow (w.heap.size+2) 67 2 v0 (aA ms) (jY ms)
 o1:W.ownsRow (w.heap.size+2) 69 2 v1 (aA ss) (jY ss)
 o2:W.ownsRow (w.heap.size+2) 71 4 v2 (aA cy) (uM cy)
 xE:β w W
theorem ie.two(h:ie w wr v0 v1 v2 ms ss cy):P6 w wr #[aH aB 0 0,aH aB 0 0,aH aB 0 0,aG aF 0,aG aF 0,aG aF 0,aG aF 0,aG aF 0] v0 v1 v2 ms ss cy:=⟨h.res,h.o0,h.o1,h.o2,h.xE⟩
theorem P6.set {cs:Array aN}(h:P6 w wr cs v0 v1 v2 ms ss cy)(j:Nat)(u:aN):P6 w (wr.setCell ⟨w.heap.size,j,aB⟩ u) (cs.setIfInBounds j u) v0 v1 v2 ms ss cy:=
 ⟨lf h.res j u,kF h.o0 (far h.o0 (by simp)) _,kF h.o1 (far h.o1 (by simp)) _,kF h.o2 (far h.o2 (by simp)) _,h.xE.setCell (aZ _) _⟩
end
theorem aKQ(z0 z1 z2 z3 z4 z5 z6 z7 a0 a1 a2 a3 a4 a5 a6 a7:aN):(((((((((#[z0,z1,z2,z3,z4,z5,z6,z7]:Array aN).setIfInBounds 0 a0).setIfInBounds 1 a1).setIfInBounds 2 a2).setIfInBounds 3 a3).setIfInBounds 4 a4).setIfInBounds 5 a5).setIfInBounds 6 a6).setIfInBounds 7 a7)= #[a0,a1,a2,a3,a4,a5,a6,a7]:=by simp
theorem aHi:(aM.info? 67).map (λi=>(i.zero,i.size,i.bytes))=aC (aC (bU #[aG aF 0,aG aF 0]),2,16):=by kernel_rfl
theorem aKG:(aM.info? 69).map (λi=>(i.zero,i.size,i.bytes))=aC (aC (bU #[aG aF 0,aG aF 0]),2,16):=by kernel_rfl
theorem aDL:(aM.info? 71).map (λi=>(i.zero,i.size,i.bytes))=aC (aC (bU #[aG aF 0,aG aF 0,aG aF 0,aG aF 0]),4,32):=by kernel_rfl
theorem a3O {a b c d:Int}:∀u∈ [aG aF a,aG aF b,aG aF c,aG aF d],u.oneCell'=aO:=by intro u hu;simp at hu;rcases hu with rfl|rfl|rfl|rfl<;>rfl
theorem a8I {a b:Int}:∀u∈ [aG aF a,aG aF b],u.oneCell'=aO:=by intro u hu;simp at hu;rcases hu with rfl|rfl<;>rfl
theorem a6m {α:Type}(k:Nat)(y:α):gP (k+1) y=gP k y++ [y]:=by rw [List.replicate_succ']
theorem aJJ(w:aJ):ie w ((w.alloc (aK #[aH aB 0 0,aH aB 0 0,aH aB 0 0,aG aF 0,aG aF 0,aG aF 0,aG aF 0,aG aF 0] 26)).alloc (aK #[aH aB 0 0,aH aB 0 0,aH aB 0 0,aG aF 500,aG aF 200,aG aF 1,aG aF 64,aG aF 32] 26)) (aH aB 0 0) (aH aB 0 0) (aH aB 0 0) [] [] []:=
 ⟨Mg _ _ (by simp),by rw [fF _ _ (by simp)];exact cO w _,⟨by simp [jY],aS ⟨rfl,rfl⟩⟩,⟨by simp [jY],aS ⟨rfl,rfl⟩⟩,⟨by simp [uM],aS ⟨rfl,rfl⟩⟩,σ.alloc (by simp) _⟩
end
section
section
variable {P:Program} {md:Cp} {ops:Array Oper} {Q:Exit->Act->aJ->Prop} {S:aJ->Prop} {st:Nat}
def wpAnyL(P:Program)(md:Cp)(ops:Array Oper)(Q:Exit->Act->aJ->Prop)(S:aJ->Prop)(st:Nat):Nat->Array Bool->Act->aJ->Prop
 |0,listed,a,w=>pF md ops listed= []/\Q .normal a w
 |fuel+1,listed,a,w=>
  (pF md ops listed= []->Q .normal a w)/\
  ∀i∈pF md ops listed,wpOp P ops Q i (λa' w'=>(i≠st->S w')/\wpAnyL P md ops Q S st fuel (listed.setIfInBounds i aO) a' w') a w
theorem a8S:∀(fuel:Nat) (listed:Array Bool) (a:Act) (w:aJ),wpAnyL P md ops Q S st fuel listed a w->wpAny P md ops Q fuel listed a w
 |0,_,_,_,h=>h
 |fuel+1,_,_,_,h=>⟨h.1,λi hi=>wpOp_mono (λ_ _ h'=>a8S fuel _ _ _ h'.2) (h.2 i hi)⟩
def Whole(md:Cp)(ops:Array Oper)(listed:Array Bool):Prop:=∀(k:Nat) (o:Oper),ops[k]? =aC o->listed.getD k aO=aO->∀e∈o.after,zS md e=aO->listed.getD e.on aP=aO
def Nu(md:Cp)(ops:Array Oper)(listed:Array Bool):Bool:=(dQ ops.size).all λk=> !listed.getD k aO||((ops[k]?).map λo=>o.after.all λe=> !zS md e||listed.getD e.on aP).getD aO
theorem a8R {listed:Array Bool}(h:Nu md ops listed=aO):Whole md ops listed:=by intro k o ho hk e he hb;unfold Nu at h;rw [List.all_eq_true] at h;have hlt:=(fW.1 ho).1;have h1:=h k (nP.2 hlt);rw [hk,ho] at h1;simp only [aAK,P4,Bool.not_true,Bool.false_or] at h1;rw [Array.all_eq_true_iff_forall_mem] at h1;have h2:=h1 e he;rw [hb] at h2;simpa using h2
theorem Whole.ready {listed:Array Bool} {j:Nat}(h:Whole md ops listed)(hj:j∈pF md ops listed):Whole md ops (listed.setIfInBounds j aO):=by
 obtain⟨_,oj,xT,hall⟩:=Bi.1 hj;intro k o ho hk e he hb;by_cases hjk:j=k
 ·subst hjk;rw [xT] at ho;cases ho;exact getD_set_true (hall e he hb)
 rw [getD_set_ne aO hjk] at hk;exact getD_set_true (h k o ho hk e he hb)
def waitsB(md:Cp)(ops:Array Oper)(i:Nat):Nat->Nat->Bool
 |0,_=>aP
 |n+1,k=>((ops[k]?).map λo=>o.after.any λe=>zS md e&&(e.on==i||waitsB md ops i n e.on)).getD aP
theorem YX {listed:Array Bool} {i:Nat}(hw:Whole md ops listed):∀(n k:Nat) (o:Oper),waitsB md ops i n k=aO->ops[k]? =aC o->(∀e∈o.after,zS md e=aO->listed.getD e.on aP=aO)->listed.getD i aP=aO
 |0,_,_,h,_,_=>by simp [waitsB] at h
 |n+1,k,o,h,ho,hall=>by
  unfold waitsB at h;rw [ho] at h;simp only [aAK,P4] at h;obtain⟨j,hj,h⟩:=Array.any_eq_true.1 h;have he:=Array.getElem_mem hj;generalize o.after[j]=e at*;simp only [jb,Bool.or_eq_true,beq_iff_eq] at h;obtain⟨hb,h⟩:=h;have hl:=hall e he hb;rcases h with h|h
  ·rw [<-h];exact hl
  ·match KE:ops[e.on]? with
   |none=>
    cases n with
    |zero=>simp [waitsB] at h
    |succ n=>unfold waitsB at h;rw [KE] at h;simp at h
   |some o'=>
    refine YX hw n e.on o' h KE (hw e.on o' KE ?_);rcases rQ e.on listed.size with h'|h'
    ·simpa [h'] using hl
    simp [Iu h'] at hl
theorem aLc {listed:Array Bool} {i n:Nat}(hw:Whole md ops listed)(h:waitsB md ops i n st=aO)(hi:listed.getD i aO=aP):st∉pF md ops listed:=by
 intro hj;obtain⟨_,o,ho,hall⟩:=Bi.1 hj;have h1:=YX hw n st o h ho hall;rcases rQ i listed.size with h'|h'
 ·simp [h'] at hi h1;rw [hi] at h1;cases h1
 simp [Iu h'] at h1
theorem wpAnyL_first {i:Nat} {oi:Oper} {v:aN} {n:Nat}(hi:ops[i]? =aC oi)(hst:waitsB md ops i n st=aO)(FJ:∀(j:Nat) (o:Oper) cs b,ops[j]? =aC o->o.op≠ .select cs b)
 (hQ:∀c a w,Q (.panic c) (a.put oi.dst v) w->Q (.panic c) a w):
 ∀(fuel:Nat) (listed:Array Bool) (a:Act) (w:aJ),Whole md ops listed->
  (∀j oj,ops[j]? =aC oj->j≠i->listed.getD j aO=aP->(∀e∈oj.after,zS md e=aO->e.on≠i)->oi.apart ops oj=aO)->
  i∈pF md ops listed->YieldsIf P ops S oi v a->S w->
  wpAnyL P md ops Q S st fuel (listed.setIfInBounds i aO) (a.put oi.dst v) w->wpAnyL P md ops Q S st (fuel+1) listed a w:=by
 intro fuel;induction fuel with
 |zero=>
  intro listed a w _ _ hr hy hS H;refine⟨λh=>(by rw [h] at hr;cases hr),λj hj=> ?_⟩;by_cases ji:j=i
  ·subst ji;exact hy.wpOp hi hS ⟨λ_=>hS,H⟩
  have:=FY hj ji;rw [H.1] at this;cases this
 |succ fuel ih=>
  intro listed a w Dc Ey hr hy hS H;refine⟨λh=>(by rw [h] at hr;cases hr),λj hj=> ?_⟩;by_cases ji:j=i
  ·subst ji;exact hy.wpOp hi hS ⟨λ_=>hS,H⟩
  have I4:j≠st:=λe=>aLc Dc hst (Bi.1 hr).1 (e▸hj)
  have h1:=H.2 j (FY hj ji);obtain⟨F2,oj,xT,hall⟩:=Bi.1 hj;have Mo:∀e∈oj.after,zS md e=aO->e.on≠i:=λe he hb heq=>by
   have h1:=hall e he hb;have h0:=(Bi.1 hr).1;rw [heq] at h1;rcases rQ i listed.size with h'|h'
   ·simp [h'] at h0 h1;rw [h0] at h1;cases h1
   simp [Iu h'] at h1
  have h2:=wpOp_putIf xT (Ey j oj xT ji F2 Mo) (λcs b=>FJ i oi cs b hi) (λcs b=>FJ j oj cs b xT) hQ hy h1
  have Mj:∀k ok,ops[k]? =aC ok->k≠i->(listed.setIfInBounds j aO).getD k aO=aP->
   (∀e∈ok.after,zS md e=aO->e.on≠i)->oi.apart ops ok=aO:=λk ok hk zx FM hno=>by
   refine Ey k ok hk zx ?_ hno;by_cases hjk:j=k
   ·subst hjk;exact F2
   rw [getD_set_ne aO hjk] at FM;exact FM
  refine wpOp_mono (λa' w' h3=>⟨h3.2.1,ih (listed.setIfInBounds j aO) a' w' (Dc.ready hj) Mj (FY hr (Ne.symm ji)) h3.1 (h3.2.1 I4) ?_⟩) h2;rw [Yg _ _ ji];exact h3.2.2
theorem eE {i:Nat} {oi:Oper} {v:aN} {fuel:Nat} {listed:Array Bool} {a:Act} {w:aJ}(hi:ops[i]? =aC oi)(hst:waitsB md ops i 12 st=aO)(Dc:Nu md ops listed=aO)
 (hs:Region.noSelect ops=aO) (hf:Region.free md ops listed i=aO) (hr:(pF md ops listed).contains i=aO)
 (hQ:∀c a w,Q (.panic c) (a.put oi.dst v) w->Q (.panic c) a w) (hy:YieldsIf P ops S oi v a) (hS:S w)
 (h:wpAnyL P md ops Q S st fuel (listed.setIfInBounds i aO) (a.put oi.dst v) w):wpAnyL P md ops Q S st (fuel+1) listed a w:=
 wpAnyL_first hi hst (a0P hs) hQ fuel listed a w (a8R Dc) (a0O hi hf) (by simpa using hr) hy hS h
theorem Iq {listed:Array Bool} {a:Act} {w:aJ}(hr:pF md ops listed= [])(h:Q .normal a w):∀fuel,wpAnyL P md ops Q S st fuel listed a w
 |0=>⟨hr,h⟩
 |_+1=>⟨λ_=>h,by rw [hr];simp⟩
def ei(P:Program)(md:Cp)(ops:Array Oper)(Q:Exit->Act->aJ->Prop)(S:aJ->Prop)(st:Nat)(fuel:Nat)(listed:Array Bool)(a:Act)(w:aJ)(rs:List Nat):Prop:=
 ∀i∈rs,wpOp P ops Q i (λa' w'=>(i≠st->S w')/\wpAnyL P md ops Q S st fuel (listed.setIfInBounds i aO) a' w') a w
theorem ei.nil {fuel:Nat} {listed:Array Bool} {a:Act} {w:aJ}:ei P md ops Q S st fuel listed a w []:=λ_ h=>by cases h
theorem ei.cons {fuel:Nat} {listed:Array Bool} {a:Act} {w:aJ} {i:Nat} {o:Oper} {rs:List Nat}(ho:ops[i]? =aC o)
 (h:∀K':Act->aJ->Prop,Shut (∀a w,(i≠st->S w)->((i≠st->S w)->wpAnyL P md ops Q S st fuel (listed.setIfInBounds i aO) a w)->K' a w)->if Jf o (yielded ops a.tmps)=aO then Oper.wp P o a w K' Q else K' (a.put o.dst undef) w)
 (hs:ei P md ops Q S st fuel listed a w rs):ei P md ops Q S st fuel listed a w (i::rs):=λj hj=>by
 rcases fC.1 hj with rfl|hj
 ·exact wpOp_step ho (λK' hK=>h K' (λa w hS hW=>hK a w ⟨hS,hW hS⟩))
 exact hs j hj
theorem nw {rs:List Nat} {fuel:Nat} {listed:Array Bool} {a:Act} {w:aJ}(hr:pF md ops listed=rs)(hne:rs≠ [])
 (h:ei P md ops Q S st fuel listed a w rs):wpAnyL P md ops Q S st (fuel+1) listed a w:=⟨λh0=>absurd (hr▸h0) hne,hr▸h⟩
theorem Ir {id:Nat} {a:Act} {w:aJ}(st:Nat)(hm:P.follows .mixedOrders=aO)(hS:S w.drew)
 (h:S w.drew->wpAnyL P .any ops Q S st ops.size (lB ops.size aP) a w.drew):(Code.region id ops aO).wp P Q a w:=
 wp_region_any hm (a8S _ _ _ _ (h hS))
end
end
section
section
variable {P:Program} {md:Cp} {ops:Array Oper} {Q:Exit->Act->aJ->Prop} {S:aJ->Prop} {st:List Nat}
def uf(P:Program)(md:Cp)(ops:Array Oper)(Q:Exit->Act->aJ->Prop)(S:aJ->Prop)(st:List Nat):Nat->Array Bool->Act->aJ->Prop
 |0,listed,a,w=>pF md ops listed= []/\Q .normal a w
 |fuel+1,listed,a,w=>
  (pF md ops listed= []->Q .normal a w)/\
  ∀i∈pF md ops listed,wpOp P ops Q i (λa' w'=>(i∉st->S w')/\uf P md ops Q S st fuel (listed.setIfInBounds i aO) a' w') a w
theorem a8T:∀(fuel:Nat) (listed:Array Bool) (a:Act) (w:aJ),uf P md ops Q S st fuel listed a w->wpAny P md ops Q fuel listed a w
 |0,_,_,_,h=>h
 |fuel+1,_,_,_,h=>⟨h.1,λi hi=>wpOp_mono (λ_ _ h'=>a8T fuel _ _ _ h'.2) (h.2 i hi)⟩
theorem aLd {listed:Array Bool} {i n:Nat}(hw:Whole md ops listed) {s:Nat}(h:waitsB md ops i n s=aO)(hi:listed.getD i aO=aP):s∉pF md ops listed:=by
 intro hj;obtain⟨_,o,ho,hall⟩:=Bi.1 hj;have h1:=YX hw n s o h ho hall;rcases rQ i listed.size with h'|h'
 ·simp [h'] at hi h1;rw [hi] at h1;cases h1
 simp [Iu h'] at h1
theorem aLk {i:Nat} {oi:Oper} {v:aN} {n:Nat}(hi:ops[i]? =aC oi)(hst:∀s∈st,waitsB md ops i n s=aO)(I9:i∉st)(FJ:∀(j:Nat) (o:Oper) cs b,ops[j]? =aC o->o.op≠ .select cs b)
 (hQ:∀c a w,Q (.panic c) (a.put oi.dst v) w->Q (.panic c) a w):
 ∀(fuel:Nat) (listed:Array Bool) (a:Act) (w:aJ),Whole md ops listed->
  (∀j oj,ops[j]? =aC oj->j≠i->listed.getD j aO=aP->(∀e∈oj.after,zS md e=aO->e.on≠i)->oi.apart ops oj=aO)->
  i∈pF md ops listed->YieldsIf P ops S oi v a->S w->
  uf P md ops Q S st fuel (listed.setIfInBounds i aO) (a.put oi.dst v) w->uf P md ops Q S st (fuel+1) listed a w:=by
 intro fuel;induction fuel with
 |zero=>
  intro listed a w _ _ hr hy hS H;refine⟨λh=>(by rw [h] at hr;cases hr),λj hj=> ?_⟩;by_cases ji:j=i
  ·subst ji;exact hy.wpOp hi hS ⟨λ_=>hS,H⟩
  have:=FY hj ji;rw [H.1] at this;cases this
 |succ fuel ih=>
  intro listed a w Dc Ey hr hy hS H;refine⟨λh=>(by rw [h] at hr;cases hr),λj hj=> ?_⟩;by_cases ji:j=i
  ·subst ji;exact hy.wpOp hi hS ⟨λ_=>hS,H⟩
  have I4:j∉st:=λe=>aLd Dc (hst j e) (Bi.1 hr).1 hj
  have h1:=H.2 j (FY hj ji);obtain⟨F2,oj,xT,hall⟩:=Bi.1 hj;have Mo:∀e∈oj.after,zS md e=aO->e.on≠i:=λe he hb heq=>by
   have h1:=hall e he hb;have h0:=(Bi.1 hr).1;rw [heq] at h1;rcases rQ i listed.size with h'|h'
   ·simp [h'] at h0 h1;rw [h0] at h1;cases h1
   simp [Iu h'] at h1
  have h2:=wpOp_putIf xT (Ey j oj xT ji F2 Mo) (λcs b=>FJ i oi cs b hi) (λcs b=>FJ j oj cs b xT) hQ hy h1
  have Mj:∀k ok,ops[k]? =aC ok->k≠i->(listed.setIfInBounds j aO).getD k aO=aP->
   (∀e∈ok.after,zS md e=aO->e.on≠i)->oi.apart ops ok=aO:=λk ok hk zx FM hno=>by
   refine Ey k ok hk zx ?_ hno;by_cases hjk:j=k
   ·subst hjk;exact F2
   rw [getD_set_ne aO hjk] at FM;exact FM
  refine wpOp_mono (λa' w' h3=>⟨h3.2.1,ih (listed.setIfInBounds j aO) a' w' (Dc.ready hj) Mj (FY hr (Ne.symm ji)) h3.1 (h3.2.1 I4) ?_⟩) h2;rw [Yg _ _ ji];exact h3.2.2
theorem lW {i:Nat} {oi:Oper} {v:aN} {fuel:Nat} {listed:Array Bool} {a:Act} {w:aJ}(hi:ops[i]? =aC oi)(hst:(st.all λs=>waitsB md ops i 12 s)=aO)(I9:st.contains i=aP)(Dc:Nu md ops listed=aO)
 (hs:Region.noSelect ops=aO) (hf:Region.free md ops listed i=aO) (hr:(pF md ops listed).contains i=aO)
 (hQ:∀c a w,Q (.panic c) (a.put oi.dst v) w->Q (.panic c) a w) (hy:YieldsIf P ops S oi v a) (hS:S w)
 (h:uf P md ops Q S st fuel (listed.setIfInBounds i aO) (a.put oi.dst v) w):uf P md ops Q S st (fuel+1) listed a w:=
 aLk hi (λs hs=>List.all_eq_true.1 hst s hs) (by simpa using I9) (a0P hs) hQ fuel listed a w (a8R Dc) (a0O hi hf) (by simpa using hr) hy hS h
theorem aLl {i:Nat} {oi:Oper} {v:aN}(hi:ops[i]? =aC oi)(I9:i∈st)(FJ:∀(j:Nat) (o:Oper) cs b,ops[j]? =aC o->o.op≠ .select cs b)
 (hQ:∀c a w,Q (.panic c) (a.put oi.dst v) w->Q (.panic c) a w):
 ∀(fuel:Nat) (listed:Array Bool) (a:Act) (w:aJ),
  (∀j oj,ops[j]? =aC oj->j≠i->listed.getD j aO=aP->(∀e∈oj.after,zS md e=aO->e.on≠i)->oi.apart ops oj=aO)->
  i∈pF md ops listed->YieldsIf P ops (λ_=>True) oi v a->
  uf P md ops Q S st fuel (listed.setIfInBounds i aO) (a.put oi.dst v) w->uf P md ops Q S st (fuel+1) listed a w:=by
 intro fuel;induction fuel with
 |zero=>
  intro listed a w _ hr hy H;refine⟨λh=>(by rw [h] at hr;cases hr),λj hj=> ?_⟩;by_cases ji:j=i
  ·subst ji;exact hy.wpOp hi trivial ⟨λh=>absurd I9 h,H⟩
  have:=FY hj ji;rw [H.1] at this;cases this
 |succ fuel ih=>
  intro listed a w Ey hr hy H;refine⟨λh=>(by rw [h] at hr;cases hr),λj hj=> ?_⟩;by_cases ji:j=i
  ·subst ji;exact hy.wpOp hi trivial ⟨λh=>absurd I9 h,H⟩
  have h1:=H.2 j (FY hj ji);obtain⟨F2,oj,xT,hall⟩:=Bi.1 hj;have Mo:∀e∈oj.after,zS md e=aO->e.on≠i:=λe he hb heq=>by
   have h1:=hall e he hb;have h0:=(Bi.1 hr).1;rw [heq] at h1;rcases rQ i listed.size with h'|h'
   ·simp [h'] at h0 h1;rw [h0] at h1;cases h1
   simp [Iu h'] at h1
  have h2:=wpOp_putIf xT (Ey j oj xT ji F2 Mo) (λcs b=>FJ i oi cs b hi) (λcs b=>FJ j oj cs b xT) hQ hy h1
  have Mj:∀k ok,ops[k]? =aC ok->k≠i->(listed.setIfInBounds j aO).getD k aO=aP->
   (∀e∈ok.after,zS md e=aO->e.on≠i)->oi.apart ops ok=aO:=λk ok hk zx FM hno=>by
   refine Ey k ok hk zx ?_ hno;by_cases hjk:j=k
   ·subst hjk;exact F2
   rw [getD_set_ne aO hjk] at FM;exact FM
  refine wpOp_mono (λa' w' h3=>⟨h3.2.1,ih (listed.setIfInBounds j aO) a' w' Mj (FY hr (Ne.symm ji)) h3.1 ?_⟩) h2;rw [Yg _ _ ji];exact h3.2.2
theorem Ff {i:Nat} {oi:Oper} {v:aN} {fuel:Nat} {listed:Array Bool} {a:Act} {w:aJ}(hi:ops[i]? =aC oi)(I9:st.contains i=aO)
 (hs:Region.noSelect ops=aO) (hf:Region.free md ops listed i=aO) (hr:(pF md ops listed).contains i=aO)
 (hQ:∀c a w,Q (.panic c) (a.put oi.dst v) w->Q (.panic c) a w) (hy:YieldsIf P ops (λ_=>True) oi v a)
 (h:uf P md ops Q S st fuel (listed.setIfInBounds i aO) (a.put oi.dst v) w):uf P md ops Q S st (fuel+1) listed a w:=
 aLl hi (by simpa using I9) (a0P hs) hQ fuel listed a w (a0O hi hf) (by simpa using hr) hy h
theorem Ya {listed:Array Bool} {a:Act} {w:aJ}(hr:pF md ops listed= [])(h:Q .normal a w):∀fuel,uf P md ops Q S st fuel listed a w
 |0=>⟨hr,h⟩
 |_+1=>⟨λ_=>h,by rw [hr];simp⟩
def gg(P:Program)(md:Cp)(ops:Array Oper)(Q:Exit->Act->aJ->Prop)(S:aJ->Prop)(st:List Nat)(fuel:Nat)(listed:Array Bool)(a:Act)(w:aJ)(rs:List Nat):Prop:=
 ∀i∈rs,wpOp P ops Q i (λa' w'=>(i∉st->S w')/\uf P md ops Q S st fuel (listed.setIfInBounds i aO) a' w') a w
theorem gg.nil {fuel:Nat} {listed:Array Bool} {a:Act} {w:aJ}:gg P md ops Q S st fuel listed a w []:=λ_ h=>by cases h
theorem gg.cons {fuel:Nat} {listed:Array Bool} {a:Act} {w:aJ} {i:Nat} {o:Oper} {rs:List Nat}(ho:ops[i]? =aC o)
 (h:∀K':Act->aJ->Prop,Shut (∀a w,(i∉st->S w)->((i∉st->S w)->uf P md ops Q S st fuel (listed.setIfInBounds i aO) a w)->K' a w)->if Jf o (yielded ops a.tmps)=aO then Oper.wp P o a w K' Q else K' (a.put o.dst undef) w)
 (hs:gg P md ops Q S st fuel listed a w rs):gg P md ops Q S st fuel listed a w (i::rs):=λj hj=>by
 rcases fC.1 hj with rfl|hj
 ·exact wpOp_step ho (λK' hK=>h K' (λa w hS hW=>hK a w ⟨hS,hW hS⟩))
 exact hs j hj
theorem tX {rs:List Nat} {fuel:Nat} {listed:Array Bool} {a:Act} {w:aJ}(hr:pF md ops listed=rs)(hne:rs≠ [])
 (h:gg P md ops Q S st fuel listed a w rs):uf P md ops Q S st (fuel+1) listed a w:=⟨λh0=>absurd (hr▸h0) hne,hr▸h⟩
theorem Yc {id:Nat} {a:Act} {w:aJ}(st:List Nat)(hm:P.follows .mixedOrders=aO)(hS:S w.drew)
 (h:S w.drew->uf P .any ops Q S st ops.size (lB ops.size aP) a w.drew):(Code.region id ops aO).wp P Q a w:=
 wp_region_any hm (a8T _ _ _ _ (h hS))
end
end
section
section
variable {P:Program} {md:Cp} {ops:Array Oper} {Q:Exit->Act->aJ->Prop} {S:aJ->Prop} {fuel:Nat} {listed:Array Bool} {a:Act} {w:aJ} {oi:Oper}
theorem tL {st:Nat}(i:Nat)(v:aN)(hi:ops[i]? =aC oi)(hb:(waitsB md ops i 12 st&&(Nu md ops listed&&(Region.noSelect ops&&(Region.free md ops listed i&&(pF md ops listed).contains i))))=aO)(hQ:∀c a w,Q (.panic c) (a.put oi.dst v) w->Q (.panic c) a w)(hy:Jf oi (yielded ops a.tmps)=aO/\∀w,S w->(execOp a.eval oi).run P w= .ok (.value v) w)(hS:S w)(h:wpAnyL P md ops Q S st fuel (listed.setIfInBounds i aO) (a.put oi.dst v) w):wpAnyL P md ops Q S st (fuel+1) listed a w:=by simp only [jb] at hb;exact eE hi hb.1 hb.2.1 hb.2.2.1 hb.2.2.2.1 hb.2.2.2.2 hQ (aS hy) hS h
theorem nL {st:Nat}(i:Nat)(ho:ops[i]? =aC oi)(hr:pF md ops listed= [i])(h:∀K':Act->aJ->Prop,Shut (∀a w,(i≠st->S w)->((i≠st->S w)->wpAnyL P md ops Q S st fuel (listed.setIfInBounds i aO) a w)->K' a w)->if Jf oi (yielded ops a.tmps)=aO then Oper.wp P oi a w K' Q else K' (a.put oi.dst undef) w):wpAnyL P md ops Q S st (fuel+1) listed a w:=nw hr (by simp) (ei.cons ho h ei.nil)
end
end
theorem RS(a:Int)(w:aJ)(ha:aL a):
 aQ aM 169 #[ν a] w λe w'=>
  e=aT (bB #[ν (gQ (-a)),ν (dM (-a))])/\w=w':=by
 have HA:=η ha;go_enter func169,ntmps169
 go_wp2_with (go_at_call 148;refine(S5 0 a _ JX HA).mono ?_;rintro e w' ⟨rfl,rfl⟩)
 go_ret2;exact⟨rfl,rfl⟩
structure Ob where
 c:Int
 m:Int
 a:Int
 az:Int
 done:Int
 st:Int
def Ob.cells(x:Ob):List aN:= [aG aF x.c,aG aF x.m,aG aF x.a,aG aF x.az,aG aF x.done,aG aF x.st]
def Ob.val(x:Ob):aN:=bU #[aG aF x.c,aG aF x.m,aG aF x.a,aG aF x.az,aG aF x.done,aG aF x.st]
def fK(l:List Ob):List aN:=l.flatMap Ob.cells
structure Lg where
 m:Int
 a:Int
 n:Int
def Lg.cells(x:Lg):List aN:= [aG aF x.m,aG aF x.a,aG aF x.n]
def Lg.val(x:Lg):aN:=bU #[aG aF x.m,aG aF x.a,aG aF x.n]
def bA(l:List Lg):List aN:=l.flatMap Lg.cells
theorem vw {w:aJ} {B:Nat} {A:Option aj} {l:List Ob}(h:aW w B A (fK l)) {k:Nat}(hk:k<aA l):
 ∃b o,A=aC ⟨b,o,aB⟩/\b<B/\w.cell? ⟨b,o+k*6,aB⟩=aC (ν l[k].c)/\w.cell? ⟨b,o+k*6+1,aB⟩=aC (ν l[k].m)/\w.cell? ⟨b,o+k*6+2,aB⟩=aC (ν l[k].a)/\
  w.cell? ⟨b,o+k*6+3,aB⟩=aC (ν l[k].az)/\w.cell? ⟨b,o+k*6+4,aB⟩=aC (ν l[k].done)/\w.cell? ⟨b,o+k*6+5,aB⟩=aC (ν l[k].st):=by
 obtain⟨b,o,e,hb,hc⟩:=h.run (i:=k*6) (y:=ν l[k].c) (t:= [ν l[k].m,ν l[k].a,ν l[k].az,ν l[k].done,ν l[k].st]) (λj u hu=>uP Ob.cells 6 (λ_=>rfl) l k hk j u hu);exact⟨b,o,e,hb,hc 0 _ rfl,hc 1 _ rfl,hc 2 _ rfl,hc 3 _ rfl,hc 4 _ rfl,hc 5 _ rfl⟩
theorem oL {w:aJ} {B:Nat} {A:Option aj} {l:List Lg}(h:aW w B A (bA l)) {k:Nat}(hk:k<aA l):
 ∃b o,A=aC ⟨b,o,aB⟩/\b<B/\w.cell? ⟨b,o+k*3,aB⟩=aC (ν l[k].m)/\w.cell? ⟨b,o+k*3+1,aB⟩=aC (ν l[k].a)/\w.cell? ⟨b,o+k*3+2,aB⟩=aC (ν l[k].n):=by
 obtain⟨b,o,e,hb,hc⟩:=h.run (i:=k*3) (y:=ν l[k].m) (t:= [ν l[k].a,ν l[k].n]) (λj u hu=>uP Lg.cells 3 (λ_=>rfl) l k hk j u hu);exact⟨b,o,e,hb,hc 0 _ rfl,hc 1 _ rfl,hc 2 _ rfl⟩
def fJ:Int:= -9223372036854775808
def Ob.size(x:Ob):Int:=if x.az<0 then-x.az else x.az
def eZ(x:Ob):Bool:=x.st==1
def yg(m a:Int)(x:Ob):Bool:=x.st==1&&x.m==m&&x.a==a
def KR(y:Lg)(x:Lg):Bool:=x.m==y.m&&x.a==y.a
def SS(y:Lg):Bool:=y.n==0||y.n==fJ
def yt(bD:List Lg)(i:Nat)(h:i<aA bD):Bool:=SS bD[i]||(bD.take i).any (KR bD[i])
def Ea(bD:List Lg):Bool:=(dQ (aA bD)).any λi=>if h:i<(aA bD) then yt bD i h else aP
def ft(cy:Int)(y:Lg):Ob:=⟨cy,y.m,y.a,y.n,0,1⟩
def qy(cy:Int)(bD:List Lg)(L:List Ob):Int:=
 if 1024-(aA L:Int)<(aA bD) then 6 else if L.any eZ then 17 else if L.any (λx=>decide (cy<=x.c)) then 7 else if Ea bD then 1 else 0
def np(cy:Int)(bD:List Lg)(L:List Ob):List Ob:=if qy cy bD L=0 then L++bD.map (ft cy) else L
def dS(m a:Int)(L:List Ob):Nat:=L.findIdx (yg m a)
def debtE(m a n:Int)(L:List Ob):Int:=match L[dS m a L]? with
 |none=>8
 |some x=>if x.az<0 then 8 else if n<1 then 1 else 0
def j6(m a n:Int)(L:List Ob):Int:=match L[dS m a L]? with
 |none=>8
 |some x=>if x.az<0 then 8 else if n<1 then 1 else if x.az-x.done<n then 12 else 0
def lA(m a n:Int)(L:List Ob):Int:=match L[dS m a L]? with
 |none=>8
 |some x=>if x.az<0 then 8 else if n<1 then 1 else if x.done<n then 12 else 0
def vu(m a s n:Int)(L:List Ob):Int:=match L[dS m a L]? with
 |none=>8
 |some x=>if s<2\/5<s\/n<0\/x.size<n\/(s=2/\n≠x.size) then 1 else 0
def kS(m a n:Int)(L:List Ob):List Ob:=if j6 m a n L=0 then L.modify (dS m a L) (λx=> {x with done:=x.done+n}) else L
def nu(m a n:Int)(L:List Ob):List Ob:=if lA m a n L=0 then L.modify (dS m a L) (λx=> {x with done:=x.done-n}) else L
def lS(m a s n:Int)(L:List Ob):List Ob:=if vu m a s n L=0 then L.modify (dS m a L) (λx=> {x with st:=s,done:=n}) else L
structure Ob.ok(x:Ob):Prop where
 lo:fJ<x.az
 hi:x.az<=9223372036854775807
 ne:x.az≠0
 d0:0<=x.done
 d1:x.done<=x.size
structure sM(L:List Ob):Prop where
 each:∀x∈L,x.ok
 once:∀j k (hj:j<aA L) (hk:k<aA L),j<k->eZ L[j]=aO->eZ L[k]=aO->¬(L[j].m=L[k].m/\L[j].a=L[k].a)
 len:aA L<=1024
def PA(L L':List Ob):Prop:=aA L<=aA L'/\∀k (h:k<aA L),eZ L[k]=aP->L'[k]? =aC L[k]
end Go.Proofs.YtdokipdchlcmeaaGreat
