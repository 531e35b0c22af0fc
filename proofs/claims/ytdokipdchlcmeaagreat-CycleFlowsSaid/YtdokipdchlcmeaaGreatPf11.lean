/-
  PROVED: complinelaw30.CycleFlows returns true for every input, its arguments read afterwards as before. No conditions.
  Several texts in one (printed by pack.py).
-/
import Derived.Test.YtdokipdchlcmeaaGreatPf10
import Derived.Deep.DeepCutAuto
set_option linter.all false
set_option maxRecDepth 100000
set_option maxHeartbeats 12800000
open And renaming intro→kh
open Array renaming getElem?_eq_some_iff→fY,replicate→jh
open Bool renaming true→aO,false→aP,and_eq_true→ji
open Classical renaming skolem→Z2
open Go renaming World→aJ,Value→aN,Calls→aQ,Addr→ai,maxLen→bO,TypeId→bZ,heap_alloc_new→cQ,info_parts→dP,Ending→dX,wpList_append_own→jC
open Go.Calls renaming mono→uD,quiet_of_same→JJ
open Go.DataW renaming trod_struct→Z6,trod→a8n
open Go.Ending renaming returned→aT
open Go.IntKind renaming i64→aF,bits→a0F
open Go.Obj renaming cells→aK
open Go.Proofs renaming intOf→ag
open Go.Proofs.Tryz renaming prog→aM,underlying39→tG,underlying4→BQ,f4→El,func16→Gv,ntmps16→Gy,func4→PW,checked→a0X,func17→a0d,func23→a0j,ntmps17→a0x,ntmps23→a1D,ntmps4→a1I,ntmps8→aC4,underlying69→aCK
open Go.RowKit renaming Below→aa,wrap64→fV
open Go.RowKit.Below renaming refl→aX
open Go.Value renaming int→aG,slice→aH,tuple→bC,pointer→bD,bool→bK,agg→bP
open Go.World renaming ownsRow_nil→gG,cells?_some→aCQ
open Int renaming le_refl→dM
open List renaming length→aA,getElem_mem→cK,length_append→cN,take_length→cU,range→dQ,mem_map→di,mem_cons_of_mem→dx,mem_cons→fG,take_succ_eq_append_getElem→fH,mem_append→gN,replicate→gP,getElem?_eq_getElem→iG,any_eq_true→kE,mem_range→nV,flatMap_cons→xB,length_set→xD,getElem?_eq_some_iff→zU,length_replicate→BN,ext_getElem→Gf,all_eq_false→Jt,drop_eq_getElem_cons→Ju,map_congr_left→Jv,getElem_replicate→PG,getElem_set→PH,flatMap_def→UU,flatMap_map→aA1,mem_replicate→aA9
open List.Pairwise renaming nil→UO
open Nat renaming le_refl→aZ,zero_le→bM,le_trans→bz,lt_of_lt_of_le→cL
open Option renaming none→aB,some→aC
open Or renaming inl→aS
namespace Go.Proofs.YtdokipdchlcmeaaGreat
open Go.Proofs.Tryz Go.RowKit
theorem sL(n a b:Int)(w:aJ):aQ aM 23 #[aG aF n,aG aF a,aG aF b] w λe w'=>e=aT (bK (bg n a b))/\w=w':=by
 have HB:=η (show bg n a b=(decide (a<=n)&&decide (n<=b)) from rfl);by_cases h1:a<=n
 ·by_cases h2:n<=b
  ·go_enter a0j,a1D
   go_wp2
   go_ret;exact⟨fT (by rw [HB.o];simp [h1,h2]),rfl⟩
  go_enter a0j,a1D
  go_wp2
  go_ret;exact⟨fT (by rw [HB.o,decide_eq_false (show¬n<=b by omega)];simp),rfl⟩
 go_enter a0j,a1D
 go_wp2
 go_ret;exact⟨fT (by rw [HB.o,decide_eq_false (show¬a<=n by omega)];simp),rfl⟩
theorem rG {a b:ByteArray}(h:a=b):aT (.string a)=aT (.string b):=by rw [h]
theorem NZ {n a b:Int} {v:Bool}(h:bg n a b=v)(w:aJ):aQ aM 23 #[aG aF n,aG aF a,aG aF b] w λe w'=>e=aT (bK v)/\w'=w:=by subst h;exact(sL n a b w).mono λ_ _ h=>⟨h.1,h.2.symm⟩
theorem Y8:∀(l m:List Int) (p:Int),risesB p (l++m)=(risesB p l&&risesB (jc p l) m)
 | [],m,p=>by simp [risesB,jc]
 |a::l,m,p=>by rw [List.cons_append];simp only [risesB,jc];rw [Y8 l m a,Bool.and_assoc]
theorem XW:∀(l m:List Int) (p:Int),jc p (l++m)=jc (jc p l) m
 | [],m,p=>rfl
 |a::l,m,p=>by rw [List.cons_append];simp only [jc];rw [XW l m a]
theorem a5P:∀(l:List Int) (p:Int),risesB p l=aO->p<=jc p l
 | [],p,_=>dM p
 |a::l,p,h=>by simp only [risesB,ji,decide_eq_true_eq] at h;have:=a5P l a h.2;simp only [jc];omega
def MX(p:Int)(x:Cy):Prop:=p<x.a/\x.a<x.b/\x.b<x.c/\x.c<x.d/\x.d<=1000
theorem aLT {l:List Cy} {k:Nat}(hk:k<aA l):iK l=iK (l.take k)++([l[k].a,l[k].b,l[k].c,l[k].d]++iK (l.drop (k+1))):=by
 have h:l=l.take k++(l[k]::l.drop (k+1)):=by rw [<-Ju hk,List.take_append_drop]
 have h2:iK l=iK (l.take k++(l[k]::l.drop (k+1))):=by rw [<-h]
 rw [h2];unfold iK;rw [List.flatMap_append,xB]
theorem aEg {l:List Cy} {k:Nat}(hk:k<aA l)(h:¬MX (jc 0 (iK (l.take k))) l[k]):lW l=aP:=by
 cases hc:lW l
 ·rfl
 exfalso;apply h;unfold lW at hc;rw [aLT hk] at hc;simp only [ji,decide_eq_true_eq,Y8,XW] at hc;obtain⟨⟨_,h1,h2⟩,_,h3⟩:=hc;simp only [risesB,jc,ji,decide_eq_true_eq,Bool.and_true] at h1 h2 h3;have:=a5P _ _ h2;unfold MX;omega
theorem aEj {l:List Cy} {k:Nat}(hk:k<aA l)(h:MX (jc 0 (iK (l.take k))) l[k])(hr:risesB 0 (iK (l.take k))=aO):risesB 0 (iK (l.take (k+1)))=aO/\jc 0 (iK (l.take (k+1)))=l[k].d:=by unfold MX at h;rw [a8L hk,Y8,XW,hr];simp only [risesB,jc,Bool.true_and,Bool.and_true,ji,decide_eq_true_eq,and_true];omega
theorem aEh {l:List Cy}(h:bg (aA l) 1 4=aO)(hr:risesB 0 (iK l)=aO)(hl:jc 0 (iK l)<=1000):lW l=aO:=by unfold lW;rw [h,hr];simp [hl]
theorem aEi {l:List Cy}(h:bg (aA l) 1 4=aP):lW l=aP:=by unfold lW;rw [h];simp
theorem aI8 {l:List Pr}(h:bg (aA l) 2 16=aP):kZ l=aP:=by unfold kZ;rw [h];simp
theorem aKV {l:List Pr}(h:bg (aA l) 1 8=aP):lJ l=aP:=by unfold lJ;rw [h];simp
theorem a5q {l:List Pr} {k:Nat}(hk:k<aA l)(h:um l[k]=aP):kZ l=aP:=by unfold kZ;rw [show l.all um=aP from Jt.2 ⟨l[k],cK hk,by rw [h];simp⟩];rfl
theorem a7O {l:List Pr} {k:Nat}(hk:k<aA l)(h:uu l[k]=aP):lJ l=aP:=by unfold lJ;rw [show l.all uu=aP from Jt.2 ⟨l[k],cK hk,by rw [h];simp⟩];rfl
theorem aM0 {x:ak}:kZ x.ms=aP->⟨#[109,101,109,98,101,114,115]⟩=iU x:=by intro h0;unfold iU;simp [h0]
theorem aM1 {x:ak}:kZ x.ms=aO->lJ x.ss=aP->⟨#[115,101,99,115]⟩=iU x:=by intro h0 h1;unfold iU;simp [h0,h1]
theorem aM2 {x:ak}:kZ x.ms=aO->lJ x.ss=aO->lW x.cy=aP->⟨#[99,121,99,108,101,115]⟩=iU x:=by intro h0 h1 h2;unfold iU;simp [h0,h1,h2]
theorem aM3 {x:ak}:kZ x.ms=aO->lJ x.ss=aO->lW x.cy=aO->bg x.line 0 1099511627776=aP->⟨#[108,105,110,101]⟩=iU x:=by intro h0 h1 h2 h3;unfold iU;simp [h0,h1,h2,h3]
theorem aM4 {x:ak}:kZ x.ms=aO->lJ x.ss=aO->lW x.cy=aO->bg x.line 0 1099511627776=aO->bg x.bW 0 1099511627776=aP->⟨#[99,97,112,105,116,97,108]⟩=iU x:=by intro h0 h1 h2 h3 h4;unfold iU;simp [h0,h1,h2,h3,h4]
theorem aM5 {x:ak}:kZ x.ms=aO->lJ x.ss=aO->lW x.cy=aO->bg x.line 0 1099511627776=aO->bg x.bW 0 1099511627776=aO->bg x.lead 0 1000=aP->⟨#[108,101,97,100]⟩=iU x:=by intro h0 h1 h2 h3 h4 h5;unfold iU;simp [h0,h1,h2,h3,h4,h5]
theorem aM6 {x:ak}:kZ x.ms=aO->lJ x.ss=aO->lW x.cy=aO->bg x.line 0 1099511627776=aO->bg x.bW 0 1099511627776=aO->bg x.lead 0 1000=aO->bg x.tr 1 64=aP->⟨#[116,114,97,100,101,115]⟩=iU x:=by intro h0 h1 h2 h3 h4 h5 h6;unfold iU;simp [h0,h1,h2,h3,h4,h5,h6]
theorem aM7 {x:ak}:kZ x.ms=aO->lJ x.ss=aO->lW x.cy=aO->bg x.line 0 1099511627776=aO->bg x.bW 0 1099511627776=aO->bg x.lead 0 1000=aO->bg x.tr 1 64=aO->bg x.bT 1 32=aP->⟨#[98,105,100,115]⟩=iU x:=by intro h0 h1 h2 h3 h4 h5 h6 h7;unfold iU;simp [h0,h1,h2,h3,h4,h5,h6,h7]
theorem aM8 {x:ak}:kZ x.ms=aO->lJ x.ss=aO->lW x.cy=aO->bg x.line 0 1099511627776=aO->bg x.bW 0 1099511627776=aO->bg x.lead 0 1000=aO->bg x.tr 1 64=aO->bg x.bT 1 32=aO->⟨#[]⟩=iU x:=by intro h0 h1 h2 h3 h4 h5 h6 h7;unfold iU;simp [h0,h1,h2,h3,h4,h5,h6,h7]
theorem aKO(x:ak)(w:aJ)(h:lj w x)(hm:aA x.ms<=100000)(hs:aA x.ss<=100000)(hc:aA x.cy<=100000):
 aQ aM 8 #[x.val] w λe w'=>e=aT (.string (iU x))/\aa w.heap.size w w':=by
 have aY:=η (mY w x);have uI:=η (zl w x);have dT:=η (h.below (mY w x));have mU:=η (@aM0 x);have yO:=η (@aM1 x);have gF:=η (@aM2 x);have mV:=η (@aM3 x);have zS:=η (@aM4 x);have qH:=η (@aM5 x);have HW6:=η (@aM6 x);have HW7:=η (@aM7 x);have HW8:=η (@aM8 x);generalize iU x=ws at*;have c0:=uI.o.c0;have WA:=uI.o.lt;unfold ak.val at*;clear h;cases h1:bg (aA x.ms) 2 16
 ·have HF:=η (mU.o (aI8 h1));go_enter func8,aC4
  go_wp2_with fail
  refine(sL _ _ _ _).mono ?_;rintro e w1 ⟨rfl,rfl⟩;rw [h1];go_wp2_with fail
  go_ret;exact⟨rG HF.o,aY.o⟩
 go_enter func8,aC4
 go_wp2_with fail
 refine(sL _ _ _ _).mono ?_;rintro e w1 ⟨rfl,rfl⟩;rw [h1];generalize (w.alloc (aK #[aH x.Am (aA x.ms) x.cm,aH x.As (aA x.ss) x.cs,aH x.Ac (aA x.cy) x.cc,aG aF x.line,aG aF x.bW,aG aF x.lead,aG aF x.tr,aG aF x.bT] 26))=W0 at*;have H1:=η h1;clear h1;go_wp2_with fail
 go_loop [3] (λi=>∃k:Nat,k<=aA x.ms/\i=aG aF k/\Hid ((x.ms.take k).all um=aO)) (λi=>aA x.ms-(ag i).toNat)
 case atStart=>exact⟨0,bM _,rfl,rfl⟩
 case round=>
  obtain⟨k,hk,rfl,HK⟩:=hrel;by_cases hlt:k<aA x.ms
  ·obtain⟨b,o,e0,hb,d0,d1⟩:=Fs dT.o.m hlt;have cG:=η (Po um hlt);have HP:=η (show um x.ms[k]=(bg x.ms[k].a 0 1099511627776&&bg x.ms[k].b 0 1099511627776) from rfl);rw [e0] at c0;clear e0;cases h1:bg x.ms[k].a 0 1099511627776
   ·have HF:=η (mU.o (a5q hlt (by rw [HP.o,h1];rfl)));go_wp2_with fail
    refine(sL _ _ _ _).mono ?_;rintro e w1 ⟨rfl,rfl⟩;rw [h1];go_wp2_with fail
    go_ret;exact⟨rG HF.o,aY.o⟩
   cases h2:bg x.ms[k].b 0 1099511627776
   ·have HF:=η (mU.o (a5q hlt (by rw [HP.o,h1,h2];rfl)));go_wp2_with fail
    refine(sL _ _ _ _).mono ?_;rintro e w1 ⟨rfl,rfl⟩;rw [h1];go_wp2_with fail
    refine(sL _ _ _ _).mono ?_;rintro e w1 ⟨rfl,rfl⟩;rw [h2];go_wp2_with fail
    go_ret;exact⟨rG HF.o,aY.o⟩
   have HX:Hid ((x.ms.take (k+1)).all um=aO):=by show _=_;rw [cG.o,HK.o,HP.o,h1,h2];rfl
   go_wp2_with fail
   refine(sL _ _ _ _).mono ?_;rintro e w1 ⟨rfl,rfl⟩;rw [h1];go_wp2_with fail
   refine(sL _ _ _ _).mono ?_;rintro e w1 ⟨rfl,rfl⟩;rw [h2];go_wp2_with fail
   go_round
   case rel=>exact⟨k+1,by omega,by go_num,HX⟩
   case measure=>simp [ag];omega
  obtain rfl:k=aA x.ms:=by omega
  have HM:Hid (kZ x.ms=aO):=by have h2:=HK.o;rw [cU] at h2;show _=_;unfold kZ;rw [h2,H1.o];rfl
  have c1:=uI.o.c1;cases h1:bg (aA x.ss) 1 8
  ·have HF:=η (yO.o HM.o (aKV h1));go_wp2_with fail
   refine(sL _ _ _ _).mono ?_;rintro e w1 ⟨rfl,rfl⟩;rw [h1];go_wp2_with fail
   go_ret;exact⟨rG HF.o,aY.o⟩
  go_wp2_with fail
  refine(sL _ _ _ _).mono ?_;rintro e w1 ⟨rfl,rfl⟩;rw [h1];have H8:=η h1;clear h1;go_wp2_with fail
  go_loopw [4] (λi wr=>∃k:Nat,k<=aA x.ss/\i=aG aF k/\Hid ((x.ss.take k).all uu=aO)/\Hid (aa w.heap.size w wr)/\Hid (aa W0.heap.size W0 wr)) (λi _=>aA x.ss-(ag i).toNat)
  case atStart=>exact⟨0,bM _,rfl,rfl,aY,aX _ _⟩
  case round=>
   obtain⟨k,hk,rfl,HK,od,qD⟩:=hrel;have c1:=(uI.o.below qD.o).c1;by_cases hlt:k<aA x.ss
   ·obtain⟨b,o,e0,hb,d0,d1⟩:=Fs ((dT.o.below qD.o).s) hlt;have cG:=η (Po uu hlt);have HP:=η (show uu x.ss[k]=(bg x.ss[k].a 1 1048576&&bg x.ss[k].b x.ss[k].a 1048576) from rfl);rw [e0] at c1;clear e0;have hb1:(0:Int)<=k:=by omega
    have hb2:(k:Int)<aA x.ss:=by omega
    cases h1:bg x.ss[k].a 1 1048576
    ·have HF:=η (yO.o HM.o (a7O hlt (by rw [HP.o,h1];rfl)));go_wp2_with fail
     go_quiet ((go_at_call 23;exact JJ (NZ h1 _)))
     go_wp2_with fail
     go_ret;exact⟨rG HF.o,below_drewN od.o _⟩
    cases h2:bg x.ss[k].b x.ss[k].a 1048576
    ·have HF:=η (yO.o HM.o (a7O hlt (by rw [HP.o,h1,h2];rfl)));go_wp2_with fail
     go_quiet ((go_at_call 23;first|(with_reducible exact JJ (NZ h1 _))|(with_reducible exact JJ (NZ h2 _))))
     go_wp2_with fail
     go_ret;exact⟨rG HF.o,below_drewN od.o _⟩
    have HX:Hid ((x.ss.take (k+1)).all uu=aO):=by show _=_;rw [cG.o,HK.o,HP.o,h1,h2];rfl
    go_wp2_with fail
    go_quiet ((go_at_call 23;first|(with_reducible exact JJ (NZ h1 _))|(with_reducible exact JJ (NZ h2 _))))
    go_wp2_with fail
    go_roundw
    case rel=>exact⟨k+1,by omega,by go_num,HX,below_drewN od.o _,below_drewN qD.o _⟩
    case measure=>simp [ag];omega
   obtain rfl:k=aA x.ss:=by omega
   have HS:Hid (lJ x.ss=aO):=by have h2:=HK.o;rw [cU] at h2;show _=_;unfold lJ;rw [h2,H8.o];rfl
   have c2:=(uI.o.below qD.o).c2;obtain⟨wo,rfl⟩:∃wo:aJ,wo=wr:=⟨_,rfl⟩;cases QP:bg (aA x.cy) 1 4
   ·have HF:=η (gF.o HM.o HS.o (aEi QP));go_wp2_with fail
    refine(sL _ _ _ _).mono ?_;rintro e w1 ⟨rfl,rfl⟩;rw [QP];go_wp2_with fail
    go_ret;exact⟨rG HF.o,od.o⟩
   go_wp2_with fail
   refine(sL _ _ _ _).mono ?_;rintro e w1 ⟨rfl,rfl⟩;rw [QP];go_wp2_with fail
   go_loopw [5,6,7] (λa i _ wr=>∃k:Nat,k<=aA x.cy/\i=aG aF k/\a=aG aF (jc 0 (iK (x.cy.take k)))/\Hid (risesB 0 (iK (x.cy.take k))=aO)/\jc 0 (iK (x.cy.take k))<=1000/\Hid (aa w.heap.size w wr)/\Hid (aa W0.heap.size W0 wr)) (λ_ i _ _=>aA x.cy-(ag i).toNat)
   case atStart=>exact⟨0,bM _,rfl,rfl,rfl,by simp [iK,jc],od,qD⟩
   case round=>
    obtain⟨k,hk,rfl,rfl,HK,QV,HD,HR⟩:=hrel;have hsz:=HR.o.size;have c2:=(uI.o.below HR.o).c2;have WA:=(uI.o.below HR.o).lt;by_cases hlt:k<aA x.cy
    ·obtain⟨b,o,e0,hb,d0,d1,d2,d3⟩:=a2Z ((dT.o.below HR.o).c) hlt;have iw:=η (aEg (l:=x.cy) hlt);have HST:=η (aEj (l:=x.cy) hlt);generalize jc 0 (iK (x.cy.take k))=at0 at*;rw [e0] at c2;clear e0;have JT:Hid (∀o,aa w.heap.size w (wr.alloc o)):=λo=>HD.o.alloc (bz aY.o.size hsz) _
     have Lp:Hid (∀o,aa W0.heap.size W0 (wr.alloc o)):=λo=>HR.o.alloc hsz _
     by_cases sD:at0<x.cy[k].a
     rotate_left
     ·have hF:=gF.o HM.o HS.o (iw.o (λg=>sD g.1));have HF:=η hF;clear hF;go_wp2_with fail
      go_ret;exact⟨rG HF.o,JT.o _⟩
     by_cases vx:x.cy[k].a<x.cy[k].b
     rotate_left
     ·have hF:=gF.o HM.o HS.o (iw.o (λg=>vx g.2.1));have HF:=η hF;clear hF;go_wp2_with fail
      go_ret;exact⟨rG HF.o,JT.o _⟩
     by_cases Kc:x.cy[k].b<x.cy[k].c
     rotate_left
     ·have hF:=gF.o HM.o HS.o (iw.o (λg=>Kc g.2.2.1));have HF:=η hF;clear hF;go_wp2_with fail
      go_ret;exact⟨rG HF.o,JT.o _⟩
     by_cases pR:x.cy[k].c<x.cy[k].d
     rotate_left
     ·have hF:=gF.o HM.o HS.o (iw.o (λg=>pR g.2.2.2.1));have HF:=η hF;clear hF;go_wp2_with fail
      go_ret;exact⟨rG HF.o,JT.o _⟩
     by_cases Bk:x.cy[k].d<=1000
     rotate_left
     ·have hF:=gF.o HM.o HS.o (iw.o (λg=>Bk g.2.2.2.2));have HF:=η hF;clear hF;go_wp2_with fail
      go_ret;exact⟨rG HF.o,JT.o _⟩
     have a4R:MX at0 x.cy[k]:=⟨sD,vx,Kc,pR,Bk⟩;obtain⟨hs1,hs2⟩:=HST.o a4R HK.o;have cj:=η hs1;have cO:=η hs2;clear a4R hs1 hs2;go_wp2_with fail
     go_roundw
     case rel=>exact⟨k+1,by omega,by go_num,by rw [cO.o],cj,by rw [cO.o];exact Bk,JT.o _,Lp.o _⟩
     case measure=>simp [ag];omega
    obtain rfl:k=aA x.cy:=by omega
    have HC:Hid (lW x.cy=aO):=by have h1:=HK.o;have h2:=QV;rw [cU] at h1 h2;exact aEh QP h1 h2
    have CV:=η (uI.o.below HR.o);have c3:=CV.o.c3;have c4:=CV.o.c4;have c5:=CV.o.c5;have c6:=CV.o.c6;have c7:=CV.o.c7;clear QV;go_wp2_with fail
    refine(sL _ _ _ _).mono ?_;rintro e w1 ⟨rfl,rfl⟩;cases h3:bg x.line 0 1099511627776
    ·have HF:=η (mV.o HM.o HS.o HC.o h3);go_wp2_with fail
     go_ret;exact⟨rG HF.o,HD.o⟩
    have G3:=η h3;clear h3;go_wp2_with fail
    refine(sL _ _ _ _).mono ?_;rintro e w1 ⟨rfl,rfl⟩;cases h4:bg x.bW 0 1099511627776
    ·have HF:=η (zS.o HM.o HS.o HC.o G3.o h4);go_wp2_with fail
     go_ret;exact⟨rG HF.o,HD.o⟩
    have G4:=η h4;clear h4;go_wp2_with fail
    refine(sL _ _ _ _).mono ?_;rintro e w1 ⟨rfl,rfl⟩;cases h5:bg x.lead 0 1000
    ·have HF:=η (qH.o HM.o HS.o HC.o G3.o G4.o h5);go_wp2_with fail
     go_ret;exact⟨rG HF.o,HD.o⟩
    have G5:=η h5;clear h5;go_wp2_with fail
    refine(sL _ _ _ _).mono ?_;rintro e w1 ⟨rfl,rfl⟩;cases h6:bg x.tr 1 64
    ·have HF:=η (HW6.o HM.o HS.o HC.o G3.o G4.o G5.o h6);go_wp2_with fail
     go_ret;exact⟨rG HF.o,HD.o⟩
    have G6:=η h6;clear h6;go_wp2_with fail
    refine(sL _ _ _ _).mono ?_;rintro e w1 ⟨rfl,rfl⟩;cases h7:bg x.bT 1 32
    ·have HF:=η (HW7.o HM.o HS.o HC.o G3.o G4.o G5.o G6.o h7);go_wp2_with fail
     go_ret;exact⟨rG HF.o,HD.o⟩
    have G7:=η h7;clear h7;have HF:=η (HW8.o HM.o HS.o HC.o G3.o G4.o G5.o G6.o G7.o);go_wp2_with fail
    go_ret;exact⟨rG HF.o,HD.o⟩
structure Td where
 i:Int
 b:Int
 s:Int
 c:Int
 q:Int
 p:Int
def Td.cells(x:Td):List aN:= [aG aF x.i,aG aF x.b,aG aF x.s,aG aF x.c,aG aF x.q,aG aF x.p]
def Td.val(x:Td):aN:=bP #[aG aF x.i,aG aF x.b,aG aF x.s,aG aF x.c,aG aF x.q,aG aF x.p]
def Yf(l:List Td):List aN:=l.flatMap Td.cells
def Td.ok(x:Td):Prop:=aL x.b/\aL x.s/\aL x.c/\aL x.q/\aL x.p
theorem aLO {w:aJ} {B:Nat} {A:Option ai} {l:List Td}(h:aW w B A (Yf l)) {k:Nat}(hk:k<aA l):
 ∃b o,A=aC ⟨b,o,aB⟩/\b<B/\w.cell? ⟨b,o+k*6,aB⟩=aC (ν l[k].i)/\w.cell? ⟨b,o+k*6+1,aB⟩=aC (ν l[k].b)/\w.cell? ⟨b,o+k*6+2,aB⟩=aC (ν l[k].s)/\w.cell? ⟨b,o+k*6+3,aB⟩=aC (ν l[k].c)/\w.cell? ⟨b,o+k*6+4,aB⟩=aC (ν l[k].q)/\w.cell? ⟨b,o+k*6+5,aB⟩=aC (ν l[k].p):=by
 obtain⟨b,o,e,hb,hc⟩:=h.run (i:=k*6) (y:=ν l[k].i) (t:= [ν l[k].b,ν l[k].s,ν l[k].c,ν l[k].q,ν l[k].p]) (λj u hu=>tT Td.cells 6 (λ_=>rfl) l k hk j u hu);exact⟨b,o,e,hb,hc 0 _ rfl,hc 1 _ rfl,hc 2 _ rfl,hc 3 _ rfl,hc 4 _ rfl,hc 5 _ rfl⟩
def Ug(n:Nat)(w:aJ)(e:dX)(w':aJ):Prop:=∃A c L er,e=aT (bC #[aH A (aA (L:List Lg)) c,aG aF er])/\su w' A c L/\(∀y∈L,y.ok)/\aA L<=n/\aa w.heap.size w w'
theorem aK5(t:Td)(w:aJ)(hI:t.ok):
 aQ aM 91 #[t.val] w (Ug 4 w):=by
 obtain⟨t0,t1,t2,t3,t4,t5⟩:=t;obtain⟨i1,i2,i3,i4,i5⟩:=hI;simp only at i1 i2 i3 i4 i5;have HI:=η (kh i1 (kh i2 (kh i3 i4)));have HM:=η (λW=>aK7 t4 t5 W i4 i5);have Ed:Hid (aL (gU (t4*t5))):=η (V7 _);have aY:Hid (β w (w.alloc (aK #[ν t0,ν t1,ν t2,ν t3,ν t4,ν t5] 153))):=η σ;have cu:Hid ((w.alloc (aK #[ν t0,ν t1,ν t2,ν t3,ν t4,ν t5] 153)).heap[w.heap.size]? =aC (aK #[ν t0,ν t1,ν t2,ν t3,ν t4,ν t5] 153 (0,0))):=η (cQ w _);have hz0:w.heap.size<(w.alloc (aK #[ν t0,ν t1,ν t2,ν t3,ν t4,ν t5] 153)).heap.size:=by simp
 obtain⟨i0,bu,sH,sJ,sK⟩:=dP Nf;clear i1 i2 i3 i4 i5;unfold Td.val;generalize gU (t4*t5)=v at*;generalize dR (t4*t5)=er at*;go_enter func91,ntmps91
 go_upto_region 1 with (fail)
 generalize w.alloc (aK #[ν t0,ν t1,ν t2,ν t3,ν t4,ν t5] 153)=w0 at*;obtain⟨bx,bU⟩:∃bx,bx=w.heap.size:=⟨_,rfl⟩;rw [<-bU] at cu hz0 ⊢;clear bU;have fQ:Hid (∀W,β w0 W->W.cell? ⟨bx,1,aB⟩=aC (ν t1)/\W.cell? ⟨bx,2,aB⟩=aC (ν t2)/\W.cell? ⟨bx,3,aB⟩=aC (ν t3)/\W.cell? ⟨bx,4,aB⟩=aC (ν t4)/\W.cell? ⟨bx,5,aB⟩=aC (ν t5)):=η (λW hW=>by have hd:=(hW.block bx hz0).trans cu.o;exact⟨ρ hd,ρ hd,ρ hd,ρ hd,ρ hd⟩);have eJ:Hid (∀W,β w0 W->β w W):=η (λW hW=>aY.o.trans (hW.mono aY.o.size));obtain⟨_,_,_,d4,d5⟩:=fQ.o w0 (aX _ _);go_upto_region 3 with (go_at_call 154;refine(HM.o _).mono ?_;rintro e w1 ⟨rfl,hb1⟩;have aR:Hid (β w0 w1):=η hb1;clear hb1)
 clear HM d4 d5 cu;obtain⟨d1,d2,d3,d4,_⟩:=fQ.o w1 aR.o;by_cases FD:er=0/\v≠-9223372036854775808/\t4≠-9223372036854775808
 case neg=>
  have Qn:∀W,β w0 W->Ug 4 w (aT (bC #[aH aB 0 0,ν 2])) W:=λW hW=>⟨aB,0,[],2,rfl,⟨aW.nil,λ_=>⟨rfl,rfl⟩⟩,by simp,by simp,eJ.o W hW⟩
  have rP:=η (Qn w1 aR.o);clear Qn;by_cases h1:er=0
  ·by_cases h2:v= -9223372036854775808
   ·subst h1 h2;clear FD;go_wp2_with fail
    go_ret2;exact rP.o
   have h3:t4= -9223372036854775808:=Classical.not_not.1 (λh=>FD ⟨h1,h2,h⟩);have hb2:(v== -9223372036854775808)=aP:=by simpa using h2
   subst h1 h3;clear FD;go_wp2_with fail
   go_ret2;exact rP.o
  have hb:(er==0)=aP:=by simpa using h1
  clear FD;go_wp2_with fail
  go_ret2;exact rP.o
 obtain⟨rfl,h2,h3⟩:=FD;have hb2:(v== -9223372036854775808)=aP:=by simpa using h2
 have hb3:(t4== -9223372036854775808)=aP:=by simpa using h3
 have oP:aL (-v):=by have h:=Ed.o;unfold aL at*;omega
 have nu:aL (-t4):=by have h:=HI.o.2.2.2;unfold aL at*;omega
 have hw2:aF.wrap (-v)= -v:=uy oP;have hw3:aF.wrap (-t4)= -t4:=uy nu;have qY:=η oP;have iV:=η nu;clear oP nu;have cF:Hid (w1.ownsRow w0.heap.size 76 3 (aH aB 0 0) 0 (bB [])):=η (gG _ _ _ _);have wR:Hid (β w1 (w1.alloc (aK #[ν t1,ν 0,ν v] 76))):=η σ;have mR:=η (iJ cF.o wR.o);go_wp2_with (at_builtin;refine jC _ rfl _ _ 39 rfl w0.heap.size 76 i0 _ 3 24 tG bu sH sJ sK rfl (by decide) _ 0 (bB []) rfl mR.o ⟨w1.heap.size,0,aB⟩ 1 1 [ν t1,ν 0,ν v] rfl rfl (dS w1 76 #[ν t1,ν 0,ν v] rfl) (Km ⟨t1,0,v⟩) (by decide) (by decide) (bz aR.o.size wR.o.size) ?_)
 intro v2 w2 eY hg2 _;have aV:Hid (β w0 w2):=η (Es (aR.o.trans (wR.o.mono aR.o.size)) hg2 (λk hk=>(mR.o.lt k hk).1) (bz aR.o.size wR.o.size));have dG:Hid (w2.ownsRow w0.heap.size 76 3 v2 1 (bB [⟨t1,0,v⟩])):=η eY;clear eY hg2 wR mR d1 d2 d3 d4;obtain⟨d1,d2,d3,d4,_⟩:=fQ.o w2 aV.o;have wS:Hid (β w2 (w2.alloc (aK #[ν t1,ν t3,ν (-t4)] 76))):=η σ;have nA:=η (iJ dG.o wS.o);go_wp2_with (at_builtin;refine jC _ rfl _ _ 39 rfl w0.heap.size 76 i0 _ 3 24 tG bu sH sJ sK rfl (by decide) _ 1 (bB [⟨t1,0,v⟩]) rfl nA.o ⟨w2.heap.size,0,aB⟩ 1 1 [ν t1,ν t3,ν (-t4)] rfl rfl (dS w2 76 #[ν t1,ν t3,ν (-t4)] rfl) (Km ⟨t1,t3,(-t4)⟩) (by decide) (by decide) (bz aV.o.size wS.o.size) ?_)
 intro v3 w3 j7 hg3 _;have af:Hid (β w0 w3):=η (Es (aV.o.trans (wS.o.mono aV.o.size)) hg3 (λk hk=>(nA.o.lt k hk).1) (bz aV.o.size wS.o.size));have cD:Hid (w3.ownsRow w0.heap.size 76 3 v3 2 (bB [⟨t1,0,v⟩,⟨t1,t3,-t4⟩])):=η j7;clear j7 hg3 wS nA d1 d2 d3 d4;obtain⟨d1,d2,d3,d4,_⟩:=fQ.o w3 af.o;have lN:Hid (β w3 (w3.alloc (aK #[ν t2,ν 0,ν (-v)] 76))):=η σ;have ou:=η (iJ cD.o lN.o);go_wp2_with (at_builtin;refine jC _ rfl _ _ 39 rfl w0.heap.size 76 i0 _ 3 24 tG bu sH sJ sK rfl (by decide) _ 2 (bB [⟨t1,0,v⟩,⟨t1,t3,-t4⟩]) rfl ou.o ⟨w3.heap.size,0,aB⟩ 1 1 [ν t2,ν 0,ν (-v)] rfl rfl (dS w3 76 #[ν t2,ν 0,ν (-v)] rfl) (Km ⟨t2,0,(-v)⟩) (by decide) (by decide) (bz af.o.size lN.o.size) ?_)
 intro v4 w4 iC hg4 _;have ar:Hid (β w0 w4):=η (Es (af.o.trans (lN.o.mono af.o.size)) hg4 (λk hk=>(ou.o.lt k hk).1) (bz af.o.size lN.o.size));have dY:Hid (w4.ownsRow w0.heap.size 76 3 v4 3 (bB [⟨t1,0,v⟩,⟨t1,t3,-t4⟩,⟨t2,0,-v⟩])):=η iC;clear iC hg4 lN ou d1 d2 d3 d4;obtain⟨d1,d2,d3,d4,_⟩:=fQ.o w4 ar.o;have rL:Hid (β w4 (w4.alloc (aK #[ν t2,ν t3,ν t4] 76))):=η σ;have Tv:=η (iJ dY.o rL.o);go_wp2_with (at_builtin;refine jC _ rfl _ _ 39 rfl w0.heap.size 76 i0 _ 3 24 tG bu sH sJ sK rfl (by decide) _ 3 (bB [⟨t1,0,v⟩,⟨t1,t3,-t4⟩,⟨t2,0,-v⟩]) rfl Tv.o ⟨w4.heap.size,0,aB⟩ 1 1 [ν t2,ν t3,ν t4] rfl rfl (dS w4 76 #[ν t2,ν t3,ν t4] rfl) (Km ⟨t2,t3,t4⟩) (by decide) (by decide) (bz ar.o.size rL.o.size) ?_)
 intro v5 w5 iY fA _;have cY:Hid (β w0 w5):=η (Es (ar.o.trans (rL.o.mono ar.o.size)) fA (λk hk=>(Tv.o.lt k hk).1) (bz ar.o.size rL.o.size));have fP:Hid (w5.ownsRow w0.heap.size 76 3 v5 4 (bB [⟨t1,0,v⟩,⟨t1,t3,-t4⟩,⟨t2,0,-v⟩,⟨t2,t3,t4⟩])):=η iY;clear iY fA rL Tv d1 d2 d3 d4;obtain⟨d1,d2,d3,d4,_⟩:=fQ.o w5 cY.o;go_wp2_with fail
 go_ret2;obtain⟨A5,c5,rfl⟩:=bL fP.o;exact⟨A5,c5,[⟨t1,0,v⟩,⟨t1,t3,-t4⟩,⟨t2,0,-v⟩,⟨t2,t3,t4⟩],0,rfl,⟨aW.cB fP.o,λe=>by have:=J1 fP.o e;exact this⟩,by
  intro y hy;have h:=HI.o;simp only [fG,List.not_mem_nil,or_false] at hy;rcases hy with rfl|rfl|rfl|rfl
  ·exact⟨h.1,(by decide:aL 0),Ed.o⟩
  ·exact⟨h.1,h.2.2.1,iV.o⟩
  ·exact⟨h.2.1,(by decide:aL 0),qY.o⟩
  exact⟨h.2.1,h.2.2.1,h.2.2.2⟩,by simp,eJ.o _ cY.o⟩
structure Ac where
 k:Int
 ts:List Td
 At:Option ai
 ct:Nat
 ls:List Lg
 Al:Option ai
 cl:Nat
 m:Int
 a:Int
 n:Int
 b:Bd
def Ac.val(x:Ac):aN:=bP #[aG aF x.k,aH x.At (aA x.ts) x.ct,aH x.Al (aA x.ls) x.cl,aG aF x.m,aG aF x.a,aG aF x.n,aG aF x.b.s,aG aF x.b.m,aG aF x.b.c,aG aF x.b.q,aG aF x.b.p]
def Ac.cells(x:Ac):List aN:= [aG aF x.k,aH x.At (aA x.ts) x.ct,aH x.Al (aA x.ls) x.cl,aG aF x.m,aG aF x.a,aG aF x.n,aG aF x.b.s,aG aF x.b.m,aG aF x.b.c,aG aF x.b.q,aG aF x.b.p]
structure Ac.ok(x:Ac):Prop where
 m:aL x.m
 a:aL x.a
 n:aL x.n
 b:x.b.ok
 t:∀y∈x.ts,y.ok
 l:∀y∈x.ls,y.ok
structure Ac.at(x:Ac)(w:aJ):Prop where
 t:aW w w.heap.size x.At (Yf x.ts)
 l:aW w w.heap.size x.Al (bB x.ls)
theorem Ac.at.below {x:Ac} {w w':aJ}(h:x.at w)(hb:aa w.heap.size w w'):x.at w':=⟨(h.t.below hb).mono hb.size,(h.l.below hb).mono hb.size⟩
def Uf(n:Nat)(w:aJ)(e:dX)(w':aJ):Prop:=∃A c L,e=aT (aH A (aA (L:List Lg)) c)/\aW w' w'.heap.size A (bB L)/\(∀y∈L,y.ok)/\aA L<=n/\aa w.heap.size w w'
theorem aHn(x:Ac)(w:aJ)(hx:x.ok)(ha:x.at w)(hn:aA x.ts<=30)(hl:aA x.ls<=60):
 aQ aM 39 #[x.val] w (Uf 120 w):=by
 obtain⟨xk,ts,At,ct,ls,Al,cl,xm,xa,xn,⟨bs,bm,bc,bq,bp⟩⟩:=x;have HT:Hid (∀y∈ts,y.ok):=η hx.t;have HL:Hid (∀y∈ls,y.ok):=η hx.l;have OJ:=η ha;simp only at hn hl;have aY:Hid (β w (w.alloc (aK #[ν xk,aH At (aA ts) ct,aH Al (aA ls) cl,ν xm,ν xa,ν xn,ν bs,ν bm,ν bc,ν bq,ν bp] 43))):=η σ;have cu:Hid ((w.alloc (aK #[ν xk,aH At (aA ts) ct,aH Al (aA ls) cl,ν xm,ν xa,ν xn,ν bs,ν bm,ν bc,ν bq,ν bp] 43)).heap[w.heap.size]? =aC (aK #[ν xk,aH At (aA ts) ct,aH Al (aA ls) cl,ν xm,ν xa,ν xn,ν bs,ν bm,ν bc,ν bq,ν bp] 43 (0,0))):=η (cQ w _);have hz0:w.heap.size<(w.alloc (aK #[ν xk,aH At (aA ts) ct,aH Al (aA ls) cl,ν xm,ν xa,ν xn,ν bs,ν bm,ν bc,ν bq,ν bp] 43)).heap.size:=by simp
 clear hx ha;unfold Ac.val;go_enter func39,ntmps39
 go_upto_region 1 with (fail)
 generalize w.alloc (aK #[ν xk,aH At (aA ts) ct,aH Al (aA ls) cl,ν xm,ν xa,ν xn,ν bs,ν bm,ν bc,ν bq,ν bp] 43)=w0 at*;obtain⟨bx,bU⟩:∃bx,bx=w.heap.size:=⟨_,rfl⟩;rw [<-bU] at cu hz0 ⊢;clear bU;have fQ:Hid (∀W,β w0 W->W.cell? ⟨bx,0,aB⟩=aC (ν xk)/\W.cell? ⟨bx,1,aB⟩=aC (aH At (aA ts) ct)/\W.cell? ⟨bx,2,aB⟩=aC (aH Al (aA ls) cl)):=η (λW hW=>by have hd:=(hW.block bx hz0).trans cu.o;exact⟨ρ hd,ρ hd,ρ hd⟩);have eJ:Hid (∀W,β w0 W->β w W):=η (λW hW=>aY.o.trans (hW.mono aY.o.size));obtain⟨d0,d1,d2⟩:=fQ.o w0 (aX _ _);by_cases h1:xk=0
 case neg=>
  have hb:(xk==0)=aP:=by simpa using h1
  have rP:Hid (Uf 120 w (aT (aH Al (aA ls) cl)) w0):=η ⟨Al,cl,ls,rfl,(OJ.o.below aY.o).l,HL.o,by omega,aY.o⟩;go_wp2_with fail
  go_ret;exact rP.o
 subst h1;clear d2 HL;have mQ:Hid (∃L:List Lg,w0.ownsRow w0.heap.size 76 3 (aH aB 0 0) (aA L) (bB L)/\(∀y∈L,y.ok)/\aA L<=0/\β w0 w0):=η ⟨[],gG _ _ _ _,by simp,by simp,aX _ _⟩;go_upto_region 5 with (fail)
 clear d0 d1;go_loopw [3,4,5,6] (λv i _ _ wr=>∃k:Nat,k<=aA ts/\i=ν (k:Int)/\Hid (∃L:List Lg,wr.ownsRow w0.heap.size 76 3 v (aA L) (bB L)/\(∀y∈L,y.ok)/\aA L<=4*k/\β w0 wr)) (λ_ i _ _ _=>aA ts-(ag i).toNat)
 case atStart=>exact⟨0,bM _,rfl,mQ⟩
 case round=>
  clear mQ;obtain⟨k,hk,rfl,vE⟩:=hrel;obtain⟨L,ho,dU,nH,hb⟩:=vE.o;obtain⟨v,hv⟩:∃v,v=u3:=⟨_,rfl⟩;have HO:=η ho;have HK:=η dU;have mP:=η nH;have HB:=η hb;clear vE ho dU nH;obtain⟨_,d1,_⟩:=fQ.o wr hb;clear hb;by_cases hlt:k<aA ts
  ·obtain⟨bl,ol,kJ,hbl,l0,l1,l2,l3,l4,l5⟩:=aLO ((OJ.o.below aY.o).below HB.o).t hlt;have ej:(0:Int)<=(k:Int):=by omega
   have hkb:(k:Int)<(aA ts:Int):=by omega
   have jU:=η (HT.o _ (cK hlt));have hAt:At=aC ⟨bl,ol,aB⟩:=kJ;clear kJ;subst hAt;generalize ts[k]=t at*;obtain⟨t0,t1,t2,t3,t4,t5⟩:=t;simp only at l0 l1 l2 l3 l4 l5;have Jj:Hid (aQ aM 91 #[bP #[ν t0,ν t1,ν t2,ν t3,ν t4,ν t5]] wr (Ug 4 wr)):=η (aK5 ⟨t0,t1,t2,t3,t4,t5⟩ wr jU.o);go_upto_region 8 with (go_at_call 91;refine Jj.o.mono ?_;rintro e w2 ⟨A2,c2,L2,er,rfl,hs2,hk2,hl2,hb2⟩;have aV:Hid (β w0 w2):=τ HB hb2;have dG:=η (iJ HO.o hb2);have cO:=η hs2;have lq:=η hk2;have Ci:=η hl2;clear hs2 hk2 hl2 hb2)
   clear Jj HO l0 l1 l2 l3 l4 l5 d1;go_wp2_with (at_builtin;refine a8d rfl _ _ rfl w0.heap.size _ (aA L) (bB L) rfl dG.o A2 c2 L2 rfl cO.o (by have:=mP.o;have:=Ci.o;omega) aV.o.size ?_)
   intro v3 w3 j7 hg3 _;have qX:Hid (∃L:List Lg,w3.ownsRow w0.heap.size 76 3 v3 (aA L) (bB L)/\(∀y∈L,y.ok)/\aA L<=4*(k+1)/\β w0 w3):=η ⟨L++L2,by rw [cN,show bB (L++L2)=bB L++bB L2 from by simp [bB]];exact j7,λy hy=>(gN.1 hy).elim (HK.o y) (lq.o y),by rw [cN];have:=mP.o;have:=Ci.o;omega,Es aV.o hg3 (λk hk=>(dG.o.lt k hk).1) aV.o.size⟩;clear j7 hg3 dG cO HK lq mP Ci aV HB;go_wp2_with fail
   go_roundw
   case rel=>exact⟨k+1,by omega,by go_num,qX⟩
   case measure=>simp [ag];omega
  obtain rfl:k=aA ts:=by omega
  have rP:Hid (∀A c,u3=aH A (aA L) c->Uf 120 w (aT (aH A (aA L) c)) wr):=η (λA c e=>by have ho:=HO.o;rw [e] at ho;exact⟨A,c,L,rfl,aW.cB ho,HK.o,by have:=mP.o;omega,eJ.o _ HB.o⟩);obtain⟨A9,c9,h9⟩:=bL HO.o;have cJ:=η (rP.o A9 c9 h9);subst hv;subst h9;go_wp2_with fail
  go_ret;exact cJ.o
structure a0U(D:Dk)(x:Ac):Prop where
 ok:fZ D
 top:aL (1099511627776-balA (aA D.x.ms) (aA D.x.ss+1) D.l 8 x.m 0)
 due:D.st=1->TA D
 ml:aA D.x.ms<=100000
 sl:aA D.x.ss<=100000
 bd:aL D.x.bT
 sh:D.st=2->nY D.x x.b=0->aL (balA (aA D.x.ms) (aA D.x.ss+1) D.l 1 0 x.b.c)
 set:D.st=2->Ud D
 en:JL D
 nt:∀L:List Lg,aA L<=120->(∀y∈L,y.ok)->Ua D L
inductive vR(D:Dk)(x:Ac):Dk->Prop
 |pay:x.k=1->vR D x (zv D (pU D x.m x.a x.n 7 x.m 1 0 5 (j9 x.m x.a x.n D.ob) (kg x.m x.a x.n D.ob)))
 |back:x.k=2->vR D x (zv D (pU D x.m x.a x.n 1 0 7 x.m 6 (lK x.m x.a x.n D.ob) (o7 x.m x.a x.n D.ob)))
 |top:x.k=3->vR D x (Ah D x.m x.n)
 |take:x.k=4->vR D x (Ae D x.m x.n)
 |due:x.k=5->vR D x (DX D)
 |MR:x.k=6->vR D x (qL D x.b)
 |set {D':Dk}:x.k=7->K0 D D'->vR D x D'
 |KG:x.k=8->vR D x (vX D)
 |az {L:List Lg}:(x.k<1\/8<x.k)->aA L<=120->(∀y∈L,y.ok)->vR D x (xt D L)
def Ran(db:Nat)(p:Dp)(D:Dk)(x:Ac)(w:aJ)(e:dX)(w':aJ):Prop:=e=aT (bC #[])/\∃D',vR D x D'/\aq db p D' w w'
theorem aKM(db:Nat)(p:Dp)(D:Dk)(x:Ac)(w:aJ)(H:bV w db p D)(hx:x.ok)(ha:x.at w)(hn:aA x.ts<=30)(hl:aA x.ls<=60)(P:a0U D x):
 aQ aM 12 #[π db,x.val] w (Ran db p D x w):=by
 obtain⟨xk,ts,At,ct,ls,Al,cl,xm,xa,xn,⟨bs,bm,bc,bq,bp⟩⟩:=x;obtain⟨im,ia,pS,ib,it,il⟩:=hx;obtain⟨Kk,a5B,a4q,iml,isl,ibd,ish,a4z,ien,int⟩:=P;have aY:Hid (β w (w.alloc (aK #[ν xk,aH At (aA ts) ct,aH Al (aA ls) cl,ν xm,ν xa,ν xn,ν bs,ν bm,ν bc,ν bq,ν bp] 43))):=η σ;have cu:Hid ((w.alloc (aK #[ν xk,aH At (aA ts) ct,aH Al (aA ls) cl,ν xm,ν xa,ν xn,ν bs,ν bm,ν bc,ν bq,ν bp] 43)).heap[w.heap.size]? =aC (aK #[ν xk,aH At (aA ts) ct,aH Al (aA ls) cl,ν xm,ν xa,ν xn,ν bs,ν bm,ν bc,ν bq,ν bp] 43 (0,0))):=η (cQ w _);have hz0:w.heap.size<(w.alloc (aK #[ν xk,aH At (aA ts) ct,aH Al (aA ls) cl,ν xm,ν xa,ν xn,ν bs,ν bm,ν bc,ν bq,ν bp] 43)).heap.size:=by simp
 have HP:Hid (∀W D',β w W->∀W',aq db p D' W W'->aq db p D' w W'):=η (λW D' hW W' h=>aq.trans (bA.bY _ hW) (λ_ h=> .inl h) ⟨rfl,rfl,rfl,rfl⟩ h);have rP:Hid (∀W D',vR D ⟨xk,ts,At,ct,ls,Al,cl,xm,xa,xn,⟨bs,bm,bc,bq,bp⟩⟩ D'->aq db p D' w W->Ran db p D ⟨xk,ts,At,ct,ls,Al,cl,xm,xa,xn,⟨bs,bm,bc,bq,bp⟩⟩ w (aT (bC #[])) W):=η (λW D' h1 h2=>⟨rfl,D',h1,h2⟩);have C1:=η (λW (hW:β w W)=>a2f db p D xm xa xn W (H.below hW) Kk im ia pS);have C2:=η (λW (hW:β w W)=>aEo db p D xm xa xn W (H.below hW) Kk im ia pS);have C3:=η (λW (hW:β w W)=>aEq db p D xm xn W (H.below hW) Kk im pS a5B);have C4:=η (λW (hW:β w W)=>aEp db p D xm xn W (H.below hW) Kk im pS);have C5:=η (λW (hW:β w W)=>a2d db p D W (H.below hW) a4q);have C6:=η (λW (hW:β w W)=>aEl db p D ⟨bs,bm,bc,bq,bp⟩ W (H.below hW) Kk ib iml isl ibd ish);have C7:=η (λW (hW:β w W)=>a2g db p D W (H.below hW) a4z);have C8:=η (λW (hW:β w W)=>a2e db p D W (H.below hW) ien);have C9:=η (λW (hW:β w W) L A c (hs:aW W W.heap.size A (bB L)) (hI:∀y∈L,y.ok) (hl:aA L<=120)=>VQ db p D L A c W (H.below hW) hs hI (by omega) (int L hl hI));have C0:=η (λW (hW:β w W)=>aHn ⟨xk,ts,At,ct,ls,Al,cl,xm,xa,xn,⟨bs,bm,bc,bq,bp⟩⟩ W ⟨im,ia,pS,ib,it,il⟩ (ha.below hW) hn hl);clear H im ia pS ib it il Kk a5B a4q iml isl ibd ish a4z ien int ha hn hl;unfold Ac.val at C0 ⊢;unfold Bd.val at C6;go_enter func12,ntmps12
 go_upto_region 1 with (fail)
 generalize w.alloc (aK #[ν xk,aH At (aA ts) ct,aH Al (aA ls) cl,ν xm,ν xa,ν xn,ν bs,ν bm,ν bc,ν bq,ν bp] 43)=w0 at*;obtain⟨bx,bU⟩:∃bx,bx=w.heap.size:=⟨_,rfl⟩;rw [<-bU] at cu hz0 ⊢;clear bU;have fQ:Hid (w0.cell? ⟨bx,0,aB⟩=aC (ν xk)/\w0.cell? ⟨bx,1,aB⟩=aC (aH At (aA ts) ct)/\w0.cell? ⟨bx,2,aB⟩=aC (aH Al (aA ls) cl)/\w0.cell? ⟨bx,3,aB⟩=aC (ν xm)/\w0.cell? ⟨bx,4,aB⟩=aC (ν xa)/\w0.cell? ⟨bx,5,aB⟩=aC (ν xn)/\w0.cell? ⟨bx,6,aB⟩=aC (ν bs)/\w0.cell? ⟨bx,7,aB⟩=aC (ν bm)/\w0.cell? ⟨bx,8,aB⟩=aC (ν bc)/\w0.cell? ⟨bx,9,aB⟩=aC (ν bq)/\w0.cell? ⟨bx,10,aB⟩=aC (ν bp)):=η (by have hd:=cu.o;exact⟨ρ hd,ρ hd,ρ hd,ρ hd,ρ hd,ρ hd,ρ hd,ρ hd,ρ hd,ρ hd,ρ hd⟩);obtain⟨d0,d1,d2,d3,d4,d5,d6,d7,d8,d9,d10⟩:=fQ.o;clear cu fQ hz0;go_upto_region 3 with (fail)
 by_cases h1:xk=1
 ·subst h1;clear C0 C9;go_wp2_with fail
  go_at_call 27
  refine(C1.o _ aY.o).mono ?_;rintro e w1 ⟨rfl,hp⟩;have HQ:=η (rP.o w1 _ (.pay rfl) (HP.o _ _ aY.o _ hp));clear hp;go_wp2_with fail
  go_end0
  exact HQ.o
 have b1:(xk==1)=aP:=by simpa using h1
 clear C1;by_cases h2:xk=2
 ·subst h2;clear C0 C9;go_wp2_with fail
  go_at_call 35
  refine(C2.o _ aY.o).mono ?_;rintro e w1 ⟨rfl,hp⟩;have HQ:=η (rP.o w1 _ (.back rfl) (HP.o _ _ aY.o _ hp));clear hp;go_wp2_with fail
  go_end0
  exact HQ.o
 have b2:(xk==2)=aP:=by simpa using h2
 clear C2;by_cases h3:xk=3
 ·subst h3;clear C0 C9;go_wp2_with fail
  go_at_call 36
  refine(C3.o _ aY.o).mono ?_;rintro e w1 ⟨rfl,hp⟩;have HQ:=η (rP.o w1 _ (.top rfl) (HP.o _ _ aY.o _ hp));clear hp;go_wp2_with fail
  go_end0
  exact HQ.o
 have b3:(xk==3)=aP:=by simpa using h3
 clear C3;by_cases h4:xk=4
 ·subst h4;clear C0 C9;go_wp2_with fail
  go_at_call 37
  refine(C4.o _ aY.o).mono ?_;rintro e w1 ⟨rfl,hp⟩;have HQ:=η (rP.o w1 _ (.take rfl) (HP.o _ _ aY.o _ hp));clear hp;go_wp2_with fail
  go_end0
  exact HQ.o
 have b4:(xk==4)=aP:=by simpa using h4
 clear C4;by_cases h5:xk=5
 ·subst h5;clear C0 C9;go_wp2_with fail
  go_at_call 28
  refine(C5.o _ aY.o).mono ?_;rintro e w1 ⟨rfl,hp⟩;have HQ:=η (rP.o w1 _ (.due rfl) (HP.o _ _ aY.o _ hp));clear hp;go_wp2_with fail
  go_end0
  exact HQ.o
 have b5:(xk==5)=aP:=by simpa using h5
 clear C5;by_cases h6:xk=6
 ·subst h6;clear C0 C9;go_wp2_with fail
  go_at_call 38
  refine(C6.o _ aY.o).mono ?_;rintro e w1 ⟨rfl,hp⟩;have HQ:=η (rP.o w1 _ (.MR rfl) (HP.o _ _ aY.o _ hp));clear hp;go_wp2_with fail
  go_end0
  exact HQ.o
 have b6:(xk==6)=aP:=by simpa using h6
 clear C6;by_cases h7:xk=7
 ·subst h7;clear C0 C9;go_wp2_with fail
  go_at_call 29
  refine(C7.o _ aY.o).mono ?_;rintro e w1 ⟨rfl,D2,hr,hp⟩;have HQ:=η (rP.o w1 _ (.set rfl hr) (HP.o _ _ aY.o _ hp));clear hp;go_wp2_with fail
  go_end0
  exact HQ.o
 have b7:(xk==7)=aP:=by simpa using h7
 clear C7;by_cases h8:xk=8
 ·subst h8;clear C0 C9;go_wp2_with fail
  go_at_call 25
  refine(C8.o _ aY.o).mono ?_;rintro e w1 ⟨rfl,hp⟩;have HQ:=η (rP.o w1 _ (.KG rfl) (HP.o _ _ aY.o _ hp));clear hp;go_wp2_with fail
  go_end0
  exact HQ.o
 have b8:(xk==8)=aP:=by simpa using h8
 clear C8;go_wp2_with fail
 go_at_call 39
 refine(C0.o _ aY.o).mono ?_;rintro e w1 ⟨A1,c1,L1,rfl,hs1,AG,oO,hb1⟩;have sZ:=η (C9.o w1 (aY.o.trans (hb1.mono aY.o.size)) L1 A1 c1 hs1 AG oO);have Lb:=η AG;have vF:=η oO;have aR:=τ aY hb1;clear hs1 AG oO hb1;go_wp2_with fail
 go_at_call 26
 refine sZ.o.mono ?_;rintro e w2 ⟨rfl,jb⟩;have HQ:=η (rP.o w2 _ (.az (by simp only;omega) vF.o Lb.o) (HP.o _ _ aR.o _ jb));clear jb;go_wp2_with fail
 go_end0
 exact HQ.o
def kC(n:Int)(e:Bool):Int:=n*580000000000000000+(if e=aO then 1099511627776 else 0)
theorem AR {n:Int}(e:Bool)(h0:0<=n)(h1:n<=4):0<=kC n e/\kC n e<=2320001099511627776:=by grind [kC]
theorem aHT(n:Int)(e:Bool):kC n e=kC (n-1) e+580000000000000000:=by unfold kC;omega
structure Inv(g:Nat)(D:Dk):Prop where
 st:D.st=0\/D.st=1\/D.st=2
 CH:D.st=0->aw (kC D.aj D.en+576460752303423488) g D/\o8 (kC D.aj D.en) D/\D.h= []/\∀x∈D.ob,ew x=aO->False
 yx:D.st=1->aw (kC (D.aj-1) D.en+576460752303423488) g D/\o8 (kC (D.aj-1) D.en) D/\qI D.h/\1<=D.aj
 JA:D.st=2->aw (kC (D.aj-1) D.en+576460752303423488+140737488355328) g D/\D.h= []/\(∀x∈D.ob,ew x=aO->x.az<0)/\1<=D.aj
theorem Inv.jZ {g:Nat} {D:Dk}(H:Inv g D):∃C,aw C g D/\C<=2896602589303406592:=by
 rcases H.st with h|h|h
 ·have K:=H.CH h;have:=AR D.en K.1.aj.1 K.1.aj.2;grind
 ·have K:=H.yx h;have:=AR (n:=D.aj-1) D.en (by omega) (by have:=K.1.aj;omega);grind
 have K:=H.JA h;have:=AR (n:=D.aj-1) D.en (by omega) (by have:=K.1.aj;omega);grind
theorem Inv.wide {g g':Nat} {D:Dk}(H:Inv g D)(hg:g<=g'):Inv g' D:=
 ⟨H.st,λh=>by have K:=H.CH h;exact⟨K.1.wide (dM _) K.1.bF.big hg,K.2⟩,λh=>by have K:=H.yx h;exact⟨K.1.wide (dM _) K.1.bF.big hg,K.2⟩,λh=>by have K:=H.JA h;exact⟨K.1.wide (dM _) K.1.bF.big hg,K.2⟩⟩
theorem Inv.J5 {g:Nat} {D:Dk}(H:Inv g D)(hg:g+1700<=90000)(x:Ac):a0U D x:=by
 obtain⟨C,K,hC⟩:=H.jZ;have ir:=K.hs.ml;have jt:=K.hs.sl;have a4N:=K.aj;refine⟨K.ok (by omega), ?_,λh=> ?_,by omega,by omega, ?_,λ_ _=> ?_,λh=> ?_, ?_,λL hl hI=> ?_⟩
 ·have h8:=K.bF.tP x.m 0;have h8n:=K.bF.ok.nn (k:=8) rfl x.m 0;unfold aL;omega
 ·obtain⟨G,_,hu,h1⟩:=H.yx h;have:=AR (n:=D.aj-1) D.en (by omega) (by omega);exact(G.due hu (by omega) (by omega)).1
 ·have:=K.hs.bd;unfold aL;omega
 ·have:=K.house x.b.c;unfold aL;omega
 ·obtain⟨G,hh,ho,h1⟩:=H.JA h;have:=AR (n:=D.aj-1) D.en (by omega) (by omega);exact(G.settled hh ho (by unfold jf;omega) (by omega)).1
 ·exact(K.KG (by omega) (by omega)).1
 by_cases h:D.st=0
 ·obtain⟨G,F,hh,_⟩:=H.CH h;exact(G.az F (λ_=>hh) hl hI (by omega)).1
 have pP:=a5w L;refine⟨K.ok (by omega),by omega,by omega,⟨by unfold aL;omega,by omega⟩,by omega,λh0=> ?_⟩;grind [lZ]
theorem aD6 {M A:Nat} {l:List Int} {k m a:Int}(h:(A:Int)<=a):balA M A l k m a=0:=by grind [Hj,plcA]
structure DB(D:Dk)(y:Ac)(D':Dk):Prop where
 cf:D'.x=D.x
 lg:∃t,D'.log=D.log++t/\((∃e∈t,e.k=15)->y.k=7/\mJ D'=0)
theorem DB.same(D:Dk)(x:Ac):DB D x D:=⟨rfl,[],by simp,by simp⟩
theorem JC {D D':Dk} {x:Ac}(hx:D'.x=D.x)(h:∃t,D'.log=D.log++t/\∀e∈t,e.k≠15):DB D x D':=by obtain⟨t,e,h⟩:=h;exact⟨hx,t,e,λ⟨y,hy,hk⟩=>absurd hk (h y hy)⟩
theorem Inv.swp {g:Nat} {D D':Dk}(H:Inv g D)(hc:∀C,aw C g D->aw C (g+1) D')(S:DA D D'):Inv (g+1) D':=by
 refine⟨by rw [S.st];exact H.st,λh=> ?_,λh=> ?_,λh=> ?_⟩
 ·rw [S.st] at h;have K:=H.CH h;rw [S.aj,S.en,S.h,S.ob];exact⟨hc _ K.1,K.2.1.swp S,K.2.2⟩
 ·rw [S.st] at h;have K:=H.yx h;rw [S.aj,S.en,S.h];exact⟨hc _ K.1,K.2.1.swp S,K.2.2⟩
 rw [S.st] at h;have K:=H.JA h;rw [S.aj,S.en,S.h,S.ob];grind
theorem o8.a3J {K C:Int} {g:Nat} {D D':Dk}(F:o8 K D)(E:OI C g D D'):o8 (K+1099511627776) D':=
 ⟨λa=>by rw [E.k1,E.ob];exact F.hd a,λm a=>by have:=E.lo m a;have:=F.lo m a;rw [E.ob];omega,λm a=>by have:=E.hi m a;have:=F.hi m a;rw [E.ob];omega,λa=>by have:=F.es a;rw [E.k2];omega⟩
theorem XT(n:Int):kC n aO=kC n aP+1099511627776:=by unfold kC;simp
theorem Inv.step {g:Nat} {D D':Dk} {x:Ac}(H:Inv g D)(hg:g+1700<=90000)(h:vR D x D'):Inv (g+1700) D'/\DB D x D':=by
 have same:∀E,E=D->Inv (g+1700) E/\DB D x E:=λE e=>by subst e;exact⟨H.wide (by omega),DB.same _ _⟩
 have QK:∀E,(D.st=1->aw (kC (D.aj-1) D.en+576460752303423488) (g+1) E/\o8 (kC (D.aj-1) D.en) E/\D8 D E)->Inv (g+1700) (zv D E)/\DB D x (zv D E):=λE hE=>by
  unfold zv;by_cases hs:D.st=1
  ·rw [ifP hs];obtain⟨G,F,P⟩:=hE hs;have K:=H.yx hs;have est:=P.st.trans hs;refine⟨⟨.inr (.inl est),λh=>by omega,λ_=> ?_,λh=>by omega⟩,JC P.x P.lg⟩;rw [P.aj,P.en,P.h];exact⟨G.wide (dM _) G.bF.big (by omega),F,K.2.2⟩
  grind
 cases h with
 |pay hk=>exact QK _ (λhs=>(H.yx hs).1.pay (H.yx hs).2.1 _ _ _)
 |back hk=>exact QK _ (λhs=>(H.yx hs).1.aJz (H.yx hs).2.1 _ _ _)
 |top hk=>
  obtain⟨C,K,_⟩:=H.jZ;have S:=(K.top x.m x.n).2;exact⟨(H.swp (λC K=>(K.top x.m x.n).1) S).wide (by omega),JC S.x S.lg⟩
 |take hk=>
  obtain⟨C,K,_⟩:=H.jZ;have S:=(K.take x.m x.n).2;exact⟨(H.swp (λC K=>(K.take x.m x.n).1) S).wide (by omega),JC S.x S.lg⟩
 |due hk=>
  unfold DX;by_cases hs:D.st=1
  ·rw [ifP hs];obtain⟨G,_,hu,h1⟩:=H.yx hs;have a4N:=G.aj;have:=AR (n:=D.aj-1) D.en (by omega) (by omega);have W:=(G.due hu (by omega) (by omega)).2;refine⟨⟨.inr (.inr W.st),λh=>by have:=W.st;omega,λh=>by have:=W.st;omega,λ_=> ?_⟩,JC W.x W.lg⟩;rw [W.aj,W.en];exact⟨W.jZ.wide (dM _) W.jZ.bF.big (by omega),W.h,W.op,h1⟩
  grind
 |MR hk=>
  obtain⟨C,K,_⟩:=H.jZ;have S:=(K.MR x.b).2;refine⟨⟨by rw [S.st];exact H.st,λh=> ?_,λh=> ?_,λh=> ?_⟩,JC S.x S.lg⟩
  ·rw [S.st] at h;have K:=H.CH h;have e:qL D x.b=D:=by
    grind [qL,xJ]
   rw [e];exact⟨K.1.wide (dM _) K.1.bF.big (by omega),K.2⟩
  ·rw [S.st] at h;have K:=H.yx h;have e:qL D x.b=D:=by
    grind [qL,xJ]
   rw [e];exact⟨K.1.wide (dM _) K.1.bF.big (by omega),K.2⟩
  rw [S.st] at h;have K:=H.JA h;rw [S.aj,S.en,S.h,S.ob];exact⟨(K.1.MR x.b).1.wide (dM _) K.1.bF.big (by omega),K.2⟩
 |set hk hR=>
  rcases hR with⟨_,rfl⟩|⟨hs,E,hB,rfl⟩
  ·exact same _ rfl
  obtain⟨G,hh,ho,h1⟩:=H.JA hs;have a4N:=G.aj;have hkb:=AR (n:=D.aj-1) D.en (by omega) (by omega);have W:=(G.settled hh ho (by unfold jf;omega) (by omega)).2 E hB;have hz:∀a,B (pX E) 1 0 a=0:=λa=>by
   by_cases ha:a<=(aA D.x.ss:Int)
   ·exact W.hz a ha
   exact aD6 (by rw [W.x];push_cast;omega)
  have vz:=aHT D.aj D.en;have hw:kC (D.aj-1) D.en+576460752303423488+140737488355328+8*jf+140737488355328<=kC D.aj D.en:=by unfold jf;omega
  have hk4:=AR (n:=D.aj) D.en (by omega) (by omega);have hd0:∀m a,dW (oI m a) (pX E).ob=0:=λm a=>E4 λy hy=>by unfold oI;rw [ifN (λe=>W.op y hy (uq.2 e.1))]
  have Dd:∀a,dW (oJ a) (pX E).ob=0:=λa=>E4 λy hy=>by unfold oJ;rw [ifN (λe=>W.op y hy (uq.2 e.1))]
  refine⟨⟨.inl W.st,λ_=> ?_,λh=>by have:=W.st;omega,λh=>by have:=W.st;omega⟩,W.x, ?_⟩
  ·rw [W.aj,W.en];refine⟨W.jZ.wide (by omega) (by omega) (aZ _),⟨λa=> ?_,λm a=> ?_,λm a=> ?_,λa=> ?_⟩,W.h,W.op⟩
   ·rw [hz,Dd]
   ·have h2:=W.jZ.bF.lo m a;grind
   ·have h2:=W.jZ.bF.hi m a;grind
   have h2:=W.jZ.bF.es a;grind
  obtain⟨t,e,ht⟩:=W.lg;grind
 |KG hk=>
  obtain⟨C,K,hC⟩:=H.jZ;have key:∀C,aw C g D->C<=2896602589303406592->vX D=D\/OI C g D (vX D):=λC K hC=>(K.KG (by omega) (by omega)).2
  rcases key C K hC with e|W
  ·exact same _ e
  have lg:∃t,(vX D).log=D.log++t/\∀e∈t,e.k≠15:=⟨[],by rw [W.log];simp,by simp⟩;have ne:vX D≠D:=λe=>by have h1:=W.en;rw [e] at h1;rw [h1.1] at h1;exact absurd h1.2 (by simp)
  have XU:∀C,aw C g D->C<=2896602589303406592->OI C g D (vX D):=λC K hC=>(key C K hC).resolve_left ne
  refine⟨⟨by rw [W.st];exact H.st,λh=> ?_,λh=> ?_,λh=> ?_⟩,JC W.x lg⟩
  ·rw [W.st] at h;obtain⟨G,F,hh,ho⟩:=H.CH h;rw [W.en.1] at G F;have hk:=AR (n:=D.aj) aP G.aj.1 G.aj.2;have V:=XU _ G (by omega);rw [W.aj,W.en.2,XT,W.h,W.ob];exact⟨V.jZ.wide (by omega) (by omega) (by omega),F.a3J V,hh,ho⟩
  ·rw [W.st] at h;obtain⟨G,F,hh,ho⟩:=H.yx h;rw [W.en.1] at G F;have hk:=AR (n:=D.aj-1) aP (by omega) (by have:=G.aj;omega);have V:=XU _ G (by omega);rw [W.aj,W.en.2,XT,W.h];exact⟨V.jZ.wide (by omega) (by omega) (by omega),F.a3J V,hh,ho⟩
  rw [W.st] at h;obtain⟨G,hh,ho,h1⟩:=H.JA h;rw [W.en.1] at G;have hk:=AR (n:=D.aj-1) aP (by omega) (by have:=G.aj;omega);have V:=XU _ G (by omega);rw [W.aj,W.en.2,XT,W.h,W.ob];exact⟨V.jZ.wide (by omega) (by omega) (by omega),hh,ho,h1⟩
 |az hk hl hI=>
  rename_i L;unfold xt;by_cases h0:lZ D L=0
  ·rw [ifP h0];have hs:D.st=0:=by
    grind [lZ]
   obtain⟨G,F,hh,_⟩:=H.CH hs;have W:=(G.az F (λ_=>hh) hl hI (by omega)).2 h0;refine⟨⟨.inr (.inl W.st),λh=>by have:=W.st;omega,λ_=> ?_,λh=>by have:=W.st;omega⟩,JC W.x W.lg⟩;rw [W.aj,W.en,show D.aj+1-1=D.aj by omega];exact⟨W.jZ.wide (dM _) W.jZ.bF.big (by omega),W.QK,W.up,by have:=G.aj;omega⟩
  grind
theorem Bp {n a b:Int}(h:bg n a b=aO):a<=n/\n<=b:=by grind [bg]
theorem RB {x:ak}(h:okB x=aO):Gd x:=by
 unfold okB at h;simp only [ji] at h;obtain⟨⟨⟨⟨⟨⟨⟨h1,h2⟩,h3⟩,h4⟩,h5⟩,h6⟩,h7⟩,h8⟩:=h;unfold kZ at h1;unfold lJ at h2;unfold lW at h3;simp only [ji] at h1 h2 h3;have a1:=Bp h1.2;have a2:=Bp h2.2;have a3:=Bp h3.2.1;refine⟨by omega,by omega,by omega,λy hy=> ?_,λy hy=> ?_,Bp h4,Bp h5,Bp h8⟩
 ·have:=List.all_eq_true.1 h1.1 y hy;unfold um at this;simp only [ji] at this;exact⟨Bp this.1,Bp this.2⟩
 have:=List.all_eq_true.1 h2.1 y hy;unfold uu at this;simp only [ji] at this;exact⟨Bp this.1,Bp this.2⟩
theorem a7u:∀ {l:List Int},(∀y∈l,y=0)->sumI l=0
 | [],_=>rfl
 |x::l,h=>by rw [a7q,h x (by simp),a7u (λy hy=>h y (dx _ hy))];rfl
theorem aD8(M A n:Nat)(k m a:Int):balA M A (gP n 0) k m a=0:=by grind [balA]
theorem a4x {x:ak}(hx:Gd x):Inv 0 (Bx x):=by
 have hz:∀k m a,balA (aA x.ms) (aA x.ss+1) (Bx x).l k m a=0:=λk m a=>aD8 _ _ _ k m a
 have hL:nT (aA x.ms) (aA x.ss+1) (Bx x).l:=by
  refine⟨BN,λa _=>a7u λy hy=> ?_,λk m a n _ _=>by rw [hz];omega,λy hy=> ?_⟩
  ·unfold E7 at hy;exact(aA9.1 (List.mem_of_mem_drop (List.mem_of_mem_take hy))).2
  obtain⟨_,rfl⟩:=aA9.1 hy;decide
 have hk:kC 0 aP=0:=rfl;have hB:∀k m a,B (Bx x) k m a=0:=hz;refine⟨.inl rfl,λ_=>⟨?_,⟨λa=> ?_,λm a=> ?_,λm a=> ?_,λa=> ?_⟩,rfl,λy hy=>(by cases hy)⟩,λh=>(by cases h),λh=>(by cases h)⟩
 ·show aw (kC 0 aP+576460752303423488) 0 (Bx x);rw [hk];refine⟨hx,⟨hL,λm a=> ?_,λm a=> ?_,λa=> ?_,λa=> ?_,λm a=> ?_,λm a=> ?_,λa=> ?_,by omega,by omega⟩,λr hr=>(by cases hr),by show (0:Nat)<=16;omega,λa=>(hz 1 0 a).symm,⟨λe he=>(by cases he),λk a=> ?_⟩,aZ 0,⟨UO,λm hm=>(by cases hm)⟩,⟨λy hy=>(by cases hy),λy hy=>(by cases hy),UO,λa=> ?_,λa=> ?_,by show ((0:Nat):Int)<=120*0;omega⟩,λd hd=>(by cases hd),by show (0:Nat)<=32;omega,by omega,by show (0:Int)<=0/\(0:Int)<=4;omega⟩
  ·grind
  ·grind
  ·grind
  ·grind
  ·grind
  ·grind
  ·grind
  ·have e:((Bx x).log.take k)= []:=List.take_nil;rw [e];show (0:Int)<=0/\(0:Int)<=_;omega
  ·have:=xj a;show (0:Int)<=_;omega
  have:=xj a;show (0:Int)<=_;omega
 ·rw [hB];rfl
 ·grind [dW,Bx]
 ·grind [dW,Bx]
 show _<=kC 0 aP;rw [hB,hk];omega
theorem aIW {g:Nat} {D:Dk}(H:Inv g D):(lZ D []=0\/lZ D []=6)↔D.st=0:=by
 unfold lZ;by_cases hs:D.st=0
 ·rw [ifN (by omega)];by_cases hc:(aA D.x.cy:Int)<=D.aj
  ·omega
  rw [ifN hc];obtain⟨G,_,_,ho⟩:=H.CH hs;have e1:mG D.x []=0:=rfl;have e2:gh []= []:=rfl;have e3:∀(ks:List Nat),oX [] ks 0=0:=by
   intro ks;induction ks with
   |nil=>rfl
   |cons a ks ih=>
    unfold oX;have hm:=xj (a:Int);have hb:ED [] (a:Int)=aP:=by unfold ED;have s1:yw [] (a:Int)=0:=rfl;have s2:jy [] (a:Int)=0:=rfl;have s3:ld [] (a:Int)=0:=rfl;grind
    rw [hb];have s4:jy [] (a:Int)=ld [] (a:Int):=rfl;grind
  rw [ifN (by rw [e1];simp),e2,e3,ifN (by simp)];unfold rF;have hl:=G.ob.len;have hcy:=G.aj;rw [ifN (by grind),ifN,ifN,ifN]
  ·simp [hs]
  ·simp [Ep]
  ·intro h;obtain⟨y,hy,nM⟩:=kE.1 h;have:=(G.ob.each y hy).c;grind
  grind
 omega
def K4(l:List Ac):List aN:=l.flatMap Ac.cells
theorem a1a {w:aJ} {B:Nat} {A:Option ai} {l:List Ac}(h:aW w B A (K4 l)) {k:Nat}(hk:k<aA l):
 ∃b o,A=aC ⟨b,o,aB⟩/\b<B/\w.cell? ⟨b,o+k*11,aB⟩=aC (ν l[k].k)/\w.cell? ⟨b,o+k*11+1,aB⟩=aC (aH l[k].At l[k].ts.length l[k].ct)/\w.cell? ⟨b,o+k*11+2,aB⟩=aC (aH l[k].Al l[k].ls.length l[k].cl)/\w.cell? ⟨b,o+k*11+3,aB⟩=aC (ν l[k].m)/\w.cell? ⟨b,o+k*11+4,aB⟩=aC (ν l[k].a)/\w.cell? ⟨b,o+k*11+5,aB⟩=aC (ν l[k].n)/\w.cell? ⟨b,o+k*11+6,aB⟩=aC (ν l[k].b.s)/\w.cell? ⟨b,o+k*11+7,aB⟩=aC (ν l[k].b.m)/\w.cell? ⟨b,o+k*11+8,aB⟩=aC (ν l[k].b.c)/\w.cell? ⟨b,o+k*11+9,aB⟩=aC (ν l[k].b.q)/\w.cell? ⟨b,o+k*11+10,aB⟩=aC (ν l[k].b.p):=by
 obtain⟨b,o,e,hb,hc⟩:=h.run (i:=k*11) (y:=ν l[k].k) (t:= [aH l[k].At l[k].ts.length l[k].ct,aH l[k].Al l[k].ls.length l[k].cl,ν l[k].m,ν l[k].a,ν l[k].n,ν l[k].b.s,ν l[k].b.m,ν l[k].b.c,ν l[k].b.q,ν l[k].b.p]) (λj u hu=>tT Ac.cells 11 (λ_=>rfl) l k hk j u hu);exact⟨b,o,e,hb,hc 0 _ rfl,hc 1 _ rfl,hc 2 _ rfl,hc 3 _ rfl,hc 4 _ rfl,hc 5 _ rfl,hc 6 _ rfl,hc 7 _ rfl,hc 8 _ rfl,hc 9 _ rfl,hc 10 _ rfl⟩
def zZ(x:Ac):Bool:=decide (aA x.ts<=30)&&decide (aA x.ls<=60)
def I6(x:ak)(l:List Ac):Bool:=Ey x&&(decide (aA l<=40)&&l.all zZ)
theorem aFV(x:ak)(l:List Ac)(A:Option ai)(c:Nat)(w:aJ)(hm:aA x.ms<=bO)(hs:aA x.ss<=bO)(hc:aA x.cy<=bO)(hl:aA l<=bO)(hL:∀y∈l,aA y.ts<=bO/\aA y.ls<=bO)(nJ:aW w w.heap.size A (K4 l)):
 aQ aM 7 #[x.val,aH A (aA l) c] w λe w'=>e=aT (bK (I6 x l))/\β w w':=by
 have aY:=η (mY w x);have jQ:=η (zl w x);have zG:Hid (∀W,aQ aM 22 #[x.val] W λe w'=>e=aT (bK (Ey x))/\β W w'):=η λW=>aFX x W hm hs hc
 have HL:=η hL;have HS:=η ((nJ.below aY.o).mono aY.o.size);have HF:=η (show I6 x l=(Ey x&&(decide (aA l<=40)&&l.all zZ)) from rfl);unfold bO at hl;clear hm hs hc hL nJ;generalize I6 x l=fb at*;generalize Ey x=fx at*;have c0:=jQ.o.c0;have c1:=jQ.o.c1;have c2:=jQ.o.c2;have c3:=jQ.o.c3;have c4:=jQ.o.c4;have c5:=jQ.o.c5;have c6:=jQ.o.c6;have c7:=jQ.o.c7;unfold ak.val at*;have cC:Hid (∀W,aa (w.alloc (aK #[aH x.Am (aA x.ms) x.cm,aH x.As (aA x.ss) x.cs,aH x.Ac (aA x.cy) x.cc,ν x.line,ν x.bW,ν x.lead,ν x.tr,ν x.bT] 26)).heap.size (w.alloc (aK #[aH x.Am (aA x.ms) x.cm,aH x.As (aA x.ss) x.cs,aH x.Ac (aA x.cy) x.cc,ν x.line,ν x.bW,ν x.lead,ν x.tr,ν x.bT] 26)) W->β w W/\aW W W.heap.size A (K4 l)):=η λW hW=>⟨aY.o.trans (hW.mono aY.o.size),(HS.o.below hW).mono hW.size⟩
 have JS:=η (zG.o (w.alloc (aK #[aH x.Am (aA x.ms) x.cm,aH x.As (aA x.ss) x.cs,aH x.Ac (aA x.cy) x.cc,ν x.line,ν x.bW,ν x.lead,ν x.tr,ν x.bT] 26)));clear zG aY HS jQ;go_enter func7,ntmps7
 cases fx
 ·have HG:Hid (aP=fb):=by grind
  clear HF;go_wp2_with (go_at_call 22;refine JS.o.mono ?_;rintro e w1 ⟨rfl,hb1⟩;have aR:=η (cC.o _ hb1).1;clear hb1)
  go_ret;exact⟨fT HG.o,aR.o⟩
 by_cases h40:aA l<=40
 ·have aGK:¬(40:Int)<(aA l:Int):=by omega
  have cJ:Hid (fb=l.all zZ):=by grind
  clear HF;go_wp2_with (go_at_call 22;refine JS.o.mono ?_;rintro e w1 ⟨rfl,hb1⟩;have aR:=η (cC.o _ hb1).1;have cj:=η (cC.o _ hb1).2;clear hb1 c0 c1 c2 c3 c4 c5 c6 c7)
  go_loop [5] (λi=>∃k:Nat,k<=aA l/\i=ν k/\Hid ((l.take k).all zZ=aO)) (λi=>aA l-(ag i).toNat)
  case atStart=>exact⟨0,bM _,rfl,rfl⟩
  case round=>
   obtain⟨k,hk,rfl,HK⟩:=hrel;by_cases hlt:k<aA l
   ·obtain⟨b,o,rfl,hb,d0,d1,d2,d3,d4,d5,d6,d7,d8,d9,d10⟩:=a1a cj.o hlt;have pP:=HL.o l[k] (cK hlt);unfold bO at pP;clear d0 d3 d4 d5 d6 d7 d8 d9 d10;by_cases h30:l[k].ts.length<=30
    ·by_cases h60:l[k].ls.length<=60
     ·have HA:Hid ((l.take (k+1)).all zZ=aO):=by
       grind [fH,zZ]
      go_wp2_with fail
      go_round
      case rel=>grind
      case measure=>simp [ag];omega
     have hA:aP=l.all zZ:=by symm;grind [cK,zZ]
     have HA:=η hA;clear hA;go_wp2_with fail
     go_ret;exact⟨fT (HA.o.trans cJ.o.symm),aR.o⟩
    have hA:aP=l.all zZ:=by symm;grind [cK,zZ]
    have HA:=η hA;clear hA;go_wp2_with fail
    go_ret;exact⟨fT (HA.o.trans cJ.o.symm),aR.o⟩
   obtain rfl:k=aA l:=by omega
   have hA:=HK.o;rw [cU] at hA;have HA:=η hA;clear hA;go_wp2_with fail
   go_ret;exact⟨fT (HA.o.symm.trans cJ.o.symm),aR.o⟩
 have aGK:(40:Int)<(aA l:Int):=by omega
 have HG:Hid (aP=fb):=by grind
 clear HF;go_wp2_with (go_at_call 22;refine JS.o.mono ?_;rintro e w1 ⟨rfl,hb1⟩;have aR:=η (cC.o _ hb1).1;clear hb1)
 go_ret;exact⟨fT HG.o,aR.o⟩
theorem aFm(k m a n o:Int)(w:aJ)(h:aL (kW ⟨k,m,a,n,o⟩)):aQ aM 16 #[bP #[aG aF k,aG aF m,aG aF a,aG aF n,aG aF o]] w λe w'=>e=aT (aG aF (kW ⟨k,m,a,n,o⟩))/\aa w.heap.size w w':=by
 have HB:Hid (β w (w.alloc (aK #[ν k,ν m,ν a,ν n,ν o] 45))):=η σ;have d0:(w.alloc (aK #[ν k,ν m,ν a,ν n,ν o] 45)).cell? ⟨w.heap.size,0,aB⟩=aC (ν k):=cM w _ _ 0 rfl;have d3:(w.alloc (aK #[ν k,ν m,ν a,ν n,ν o] 45)).cell? ⟨w.heap.size,3,aB⟩=aC (ν n):=cM w _ _ 3 rfl;by_cases h5:k=5
 ·subst h5;have HR:Hid (kW ⟨5,m,a,n,o⟩=n):=η rfl;rw [HR.o];go_enter Gv,Gy
  go_wp2
  go_ret;exact⟨rfl,HB.o⟩
 by_cases h10:k=10
 ·subst h10;have HR:Hid (kW ⟨10,m,a,n,o⟩=n):=η rfl;rw [HR.o];go_enter Gv,Gy
  go_wp2
  go_ret;exact⟨rfl,HB.o⟩
 by_cases h12:k=12
 ·subst h12;have HR:Hid (kW ⟨12,m,a,n,o⟩=n):=η rfl;rw [HR.o];go_enter Gv,Gy
  go_wp2
  go_ret;exact⟨rfl,HB.o⟩
 by_cases h6:k=6
 ·subst h6;have HR:Hid (kW ⟨6,m,a,n,o⟩= -n):=η rfl;rw [HR.o] at h ⊢;have HW:=η (wrap64_in h);go_enter Gv,Gy
  go_wp2
  go_ret;exact⟨cW (by rw [HW.o]),HB.o⟩
 by_cases h13:k=13
 ·subst h13;have HR:Hid (kW ⟨13,m,a,n,o⟩= -n):=η rfl;rw [HR.o] at h ⊢;have HW:=η (wrap64_in h);go_enter Gv,Gy
  go_wp2
  go_ret;exact⟨cW (by rw [HW.o]),HB.o⟩
 by_cases h16:k=16
 ·subst h16;have HR:Hid (kW ⟨16,m,a,n,o⟩= -n):=η rfl;rw [HR.o] at h ⊢;have HW:=η (wrap64_in h);go_enter Gv,Gy
  go_wp2
  go_ret;exact⟨cW (by rw [HW.o]),HB.o⟩
 by_cases h19:k=19
 ·subst h19;have HR:Hid (kW ⟨19,m,a,n,o⟩= -n):=η rfl;rw [HR.o] at h ⊢;have HW:=η (wrap64_in h);go_enter Gv,Gy
  go_wp2
  go_ret;exact⟨cW (by rw [HW.o]),HB.o⟩
 have HR:Hid (kW ⟨k,m,a,n,o⟩=0):=η (by grind [kW]);rw [HR.o];go_enter Gv,Gy
 go_wp2
 go_ret;exact⟨rfl,HB.o⟩
theorem aHB(db:Nat)(p:Dp)(D:Dk)(g:Nat)(w:aJ)(H:bV w db p D)(I:Inv g D)(hg:g+1700<=90000):
 aQ aM 17 #[π db] w λe w'=>e=aT (bK (decide (D.st=0)))/\β w w':=by
 obtain⟨C,K,hC⟩:=I.jZ;have CX:=η (aEm db p D w H (K.ok (by omega)));have R:=I.J5 hg ⟨0,[],aB,0,[],aB,0,0,0,0,⟨0,0,0,0,0⟩⟩;have qc:=η (λBX p2 W (H2:bV W BX p2 D)=>VQ BX p2 D [] aB 0 W H2 (λj u hu=>by simp [bB] at hu) (by simp) (by simp) (R.nt [] (by simp) (by simp)));have HI:=η (aIW I);clear H I K R hC hg;have fg:Hid (D.st=0->lZ D []=0\/lZ D []=6):=η λh=>HI.o.2 h
 have qX:Hid (¬D.st=0->¬lZ D []=0/\¬lZ D []=6):=η λh=>⟨λe=>h (HI.o.1 (.inl e)),λe=>h (HI.o.1 (.inr e))⟩
 clear HI;obtain⟨E,hE⟩:∃E,E=lZ D []:=⟨_,rfl⟩;have Tq:=η (λBX p2 W (H2:bV W BX p2 D)=>(show aQ aM 26 #[π BX,aH aB 0 0] W λe w'=>e=aT (ν E)/\aq BX p2 (xt D []) W w' from by rw [hE];exact qc.o BX p2 W H2));rw [<-hE] at fg qX;clear qc hE;by_cases hs:D.st=0
 ·rw [decide_eq_true hs];have HI:=fg.o hs;clear fg qX hs;rcases HI with h|h
  ·subst h;go_enter a0d,a0x
   go_wp2_with (first|(go_at_call 42;refine CX.o.mono ?_;rintro e w1 ⟨BX,p2,rfl,h2,hs2,hb1⟩;have od:=η h2;have cO:=η hs2;have aR:=η hb1;clear h2 hs2 hb1)|(go_at_call 26;refine(Tq.o _ _ _ od.o).mono ?_;rintro e w2 ⟨rfl,jb⟩;have aV:Hid (β w w2):=η (by obtain⟨_,_,_,_,_,_,hu,_⟩:=jb;exact aR.o.trans (hu.toBelow aR.o.size (λk hk=>cO.o k hk)));clear jb))
   go_ret;exact⟨rfl,aV.o⟩
  subst h;go_enter a0d,a0x
  go_wp2_with (first|(go_at_call 42;refine CX.o.mono ?_;rintro e w1 ⟨BX,p2,rfl,h2,hs2,hb1⟩;have od:=η h2;have cO:=η hs2;have aR:=η hb1;clear h2 hs2 hb1)|(go_at_call 26;refine(Tq.o _ _ _ od.o).mono ?_;rintro e w2 ⟨rfl,jb⟩;have aV:Hid (β w w2):=η (by obtain⟨_,_,_,_,_,_,hu,_⟩:=jb;exact aR.o.trans (hu.toBelow aR.o.size (λk hk=>cO.o k hk)));clear jb))
  go_ret;exact⟨rfl,aV.o⟩
 rw [decide_eq_false hs];obtain⟨n0,n6⟩:=qX.o hs;have n0':(E==0)=aP:=by simpa using n0
 have n6':(E==6)=aP:=by simpa using n6
 clear fg qX hs;go_enter a0d,a0x
 go_wp2_with (first|(go_at_call 42;refine CX.o.mono ?_;rintro e w1 ⟨BX,p2,rfl,h2,hs2,hb1⟩;have od:=η h2;have cO:=η hs2;have aR:=η hb1;clear h2 hs2 hb1)|(go_at_call 26;refine(Tq.o _ _ _ od.o).mono ?_;rintro e w2 ⟨rfl,jb⟩;have aV:Hid (β w w2):=η (by obtain⟨_,_,_,_,_,_,hu,_⟩:=jb;exact aR.o.trans (hu.toBelow aR.o.size (λk hk=>cO.o k hk)));clear jb))
 go_ret;exact⟨rfl,aV.o⟩
structure pF(w:aJ)(db hb:Nat)(x:ak)(g:Nat)(D:Dk)(W:aJ):Prop where
 pl:∃p,bV W db p D/\∀k,eW db p k->w.heap.size<=k/\k≠hb
 bl:β w W
 inv:Inv g D
 ms:D.x.ms=x.ms
 ss:D.x.ss=x.ss
 hb:hb<W.heap.size
theorem pF.below {w W W':aJ} {db hb g:Nat} {x:ak} {D:Dk}(h:pF w db hb x g D W)(hW:aa W.heap.size W W'):pF w db hb x g D W':=by obtain⟨p,H,hs⟩:=h.pl;exact⟨⟨p,H.below hW,hs⟩,h.bl.trans (hW.mono h.bl.size),h.inv,h.ms,h.ss,cL h.hb hW.size⟩
theorem pF.step {w W W':aJ} {db hb g:Nat} {x:ak} {D D':Dk} {y:Ac} {p:Dp}(h:pF w db hb x g D W)(hs:∀k,eW db p k->w.heap.size<=k/\k≠hb)(hg:g+1700<=90000)(hR:vR D y D')(hP:aq db p D' W W'):pF w db hb x (g+1700) D' W'/\DB D y D'/\W'.heap[hb]? =W.heap[hb]? :=by obtain⟨I,T⟩:=h.inv.step hg hR;obtain⟨p',H',_,_,_,_,hu,hs'⟩:=hP;have hz:=h.bl.size;have hh:=h.hb;refine⟨⟨⟨p',H',λk hk=> ?_⟩,h.bl.trans (hu.toBelow hz (λk hk=>(hs k hk).1)),I,by rw [T.cf];exact h.ms,by rw [T.cf];exact h.ss,cL hh hu.size⟩,T,hu.keep hb hh (λe=>(hs hb e).2 rfl)⟩;grind
def aAZ(w:aJ)(db hb:Nat)(x:ak)(g:Nat)(D:Dk)(y:Ac)(W:aJ)(e:dX)(W':aJ):Prop:=e=aT (bC #[])/\∃D',pF w db hb x (g+1700) D' W'/\DB D y D'/\W'.heap[hb]? =W.heap[hb]?
theorem aHg {w W:aJ} {db hb g:Nat} {x:ak} {D:Dk} {y:Ac}(h:pF w db hb x g D W)(hg:g+1700<=90000)(hy:y.ok)(ha:y.at w)(hn:aA y.ts<=30)(hl:aA y.ls<=60):
 aQ aM 12 #[π db,y.val] W (aAZ w db hb x g D y W):=by
 obtain⟨p,H,hs⟩:=h.pl;refine(aKM db p D y W H hy (ha.below h.bl) hn hl (h.inv.J5 hg y)).mono ?_;rintro e W' ⟨rfl,D',hR,hP⟩;exact⟨rfl,D',h.step hs hg hR hP⟩
theorem aHd {w W:aJ} {db hb g:Nat} {x:ak} {D:Dk}(h:pF w db hb x g D W)(hg:g+1700<=90000):
 aQ aM 17 #[π db] W λe W'=>e=aT (bK (decide (D.st=0)))/\β W W':=by
 obtain⟨p,H,_⟩:=h.pl;exact aHB db p D g W H h.inv hg
theorem aHc {w W:aJ} {db hb g:Nat} {x:ak} {D:Dk}(h:pF w db hb x g D W)(hg:g<=90000):
 aQ aM 11 #[π db] W (pg 45 5 (aA D.log) (qP D.log) W):=by
 obtain⟨p,H,_⟩:=h.pl;obtain⟨C,K,_⟩:=h.inv.jZ;exact aEn db p D W H (by have:=K.gl;omega)
theorem aHb {w W:aJ} {db hb g:Nat} {x:ak} {D:Dk}(h:pF w db hb x g D W)(k m a:Int)(hk:aL k)(hm:aL m):
 aQ aM 14 #[π db,bP #[ν k,ν m],ν a] W λe W'=>e=aT (bC #[ν (B D k m a),ν (nN (plcA (aA D.x.ms) (aA D.x.ss+1) k m a))])/\β W W':=by
 obtain⟨p,H,_⟩:=h.pl;grind [a2c]
def a9E(w:aJ)(hb:Nat)(x:ak)(W:aJ)(e:dX)(W':aJ):Prop:=∃db D,e=aT (bC #[bD (aC ⟨db,0,aB⟩),aG aF 0])/\pF w db hb x 0 D W'/\aa W.heap.size W W'/\D.log= []/\W.heap.size<=db
theorem aHe {w W:aJ} {hb:Nat} {x:ak}(hB:aa w.heap.size w W)(hh:hb<W.heap.size)(h:uz W x)(dU:okB x=aO):
 aQ aM 10 #[x.val] W (a9E w hb x W):=by
 have hx:=RB dU;have hm:=hx.ml;have hs:=hx.sl;have hc:=hx.cl;refine(a2U x W h (by grind [zm]) (by omega) (by omega) (by omega)).mono ?_;rintro e W' ⟨db,p,Am,cm,As,cs,Ac,cc,rfl,H,hS,hb'⟩;have hx2:Gd {x with Am:=Am,cm:=cm,As:=As,cs:=cs,Ac:=Ac,cc:=cc}:=⟨hx.ml,hx.sl,hx.cl,hx.mI,hx.sI,hx.li,hx.ca,hx.bd⟩;have hz:=hB.size;exact⟨db,_,rfl,⟨⟨p,H,λk hk=>by grind⟩,hB.trans (hb'.mono hz),a4x hx2,rfl,rfl,cL hh hb'.size⟩,hb',rfl,hS db (.inl rfl)⟩
theorem pF.aK0 {w W W':aJ} {db hb hb' g:Nat} {x:ak} {D:Dk}(h:pF w db hb x g D W)(hW:aa W.heap.size W W')(h1:W.heap.size<=hb')(h2:hb'<W'.heap.size):pF w db hb' x g D W':=by obtain⟨p,H,hs⟩:=h.pl;exact⟨⟨p,H.below hW,λk hk=>⟨(hs k hk).1,by have:=H.td hk;omega⟩⟩,h.bl.trans (hW.mono h.bl.size),h.inv,h.ms,h.ss,h2⟩
theorem bV.house {w w':aJ} {db:Nat} {p:Dp} {D:Dk} {hb:Nat}(H:bV w db p D)(hu:bA (λk=>k=hb) w w')(hT:Ty w [2] hb)(hV:∀k,eW db p k->k≠hb):bV w' db p D:=by
 have no:∀ {T:List bZ} {k:Nat},Ty w T k->(∀t∈T,t∉ [2])->¬k=hb:=λhk hd hs=>hk.apart (hs▸hT) hd
 exact⟨(hu.keep db H.lt (no H.ty (by decide))).trans H.blk,H.cf.upd hu (λk hk=>no hk (by decide)),H.vt.upd hu (λk hk=>hV k (.inr (.inl hk))),H.sh.upd hu (λk hk=>no hk (by decide)),H.bx.upd hu (λk hk=>no hk (by decide)),H.CN.upd hu (λk hk=>no hk (by decide)),H.same,hu.own H.who (λk hk=>no (Ty.own H.who hk) (by decide)),hu.own H.log (λk hk=>no (Ty.own H.log hk) (by decide))⟩
theorem pF.house {w W W':aJ} {db hb g:Nat} {x:ak} {D:Dk} {xs:List Int}(h:pF w db hb x g D W)(hw:w.heap.size<=hb)(hR:eE W hb 2 xs)(hu:bA (λk=>k=hb) W W'):pF w db hb x g D W':=by obtain⟨p,H,hs⟩:=h.pl;exact⟨⟨p,H.house hu ⟨_,_,List.mem_singleton.2 rfl,hR⟩ (λk hk=>(hs k hk).2),hs⟩,h.bl.trans (hu.toBelow h.bl.size (λk hk=>by omega)),h.inv,h.ms,h.ss,cL h.hb hu.size⟩
theorem Inv.fair {g:Nat} {D:Dk}(I:Inv g D):(∀k m a,tU k=aP->0<=B D k m a)/\(D.st=0->∀m a,B D 1 m a=0)/\(D.st=0->∀y∈D.ob,y.st≠1):=by
 obtain⟨C,K,_⟩:=I.jZ;refine⟨λk m a h=>K.bF.ok.nn h m a,λhs m a=> ?_,λhs y hy e=>(I.CH hs).2.2.2 y hy (uq.2 e)⟩;obtain⟨_,F,_,ho⟩:=I.CH hs;by_cases hm:m=0
 ·subst hm;rw [F.hd];grind [E4,oJ,uq]
 grind [Hj,plcA,jw]
section
theorem aFQ {w:aJ} {B:Nat} {A:Option ai} {l:List Ev}(h:aW w B A (qP l)) {k:Nat}(hk:k<aA l):
 ∃b o,A=aC ⟨b,o,aB⟩/\b<B/\w.cell? ⟨b,o+k*5,aB⟩=aC (ν l[k].k)/\w.cell? ⟨b,o+k*5+1,aB⟩=aC (ν l[k].m)/\w.cell? ⟨b,o+k*5+2,aB⟩=aC (ν l[k].a)/\w.cell? ⟨b,o+k*5+3,aB⟩=aC (ν l[k].n)/\w.cell? ⟨b,o+k*5+4,aB⟩=aC (ν l[k].o):=by
 obtain⟨b,o,e,hb,hc⟩:=h.run (i:=k*5) (y:=ν l[k].k) (t:= [ν l[k].m,ν l[k].a,ν l[k].n,ν l[k].o]) (λj u hu=>tT Ev.cells 5 (λ_=>rfl) l k hk j u hu);exact⟨b,o,e,hb,hc 0 _ rfl,hc 1 _ rfl,hc 2 _ rfl,hc 3 _ rfl,hc 4 _ rfl⟩
theorem aFW {x:ak} {l:List Ac}(h:I6 x l=aO):(aA x.ms<=20/\aA x.ss<=20/\aA x.cy<=20)/\aA l<=40/\∀y∈l,aA y.ts<=30/\aA y.ls<=60:=by grind [I6,Ey,zZ]
def DN(Am:Option ai)(cm:Nat)(As:Option ai)(cs:Nat)(Ac:Option ai)(cc:Nat):ak:=⟨[⟨1000,100⟩,⟨1000,100⟩,⟨1000,100⟩],Am,cm,[⟨10,12⟩],As,cs,[⟨4,7,9,10⟩],Ac,cc,500,200,1,64,32⟩
def K6:List Lg:= [⟨1,0,30⟩,⟨1,1,-10⟩,⟨3,0,-30⟩,⟨3,1,10⟩]
section
variable (x:ak)
def VA:Dk:=Bx x
def MO:Dk:=vX (VA x)
def vV:Dk:=xt (MO x) K6
def MP:Dk:=zv (vV x) (pU (vV x) 3 1 10 7 3 1 0 5 (j9 3 1 10 (vV x).ob) (kg 3 1 10 (vV x).ob))
def zg:Dk:=DX (MP x)
def yV:Dk:=pX (zg x)
end
def awB(x:ak):Bool:=decide (Mc (VA x)=0)&&decide (lZ (MO x) K6=0)&&decide (KJ (vV x) (Bw (vV x) 3 1 (j9 3 1 10 (vV x).ob) (kg 3 1 10 (vV x).ob))=0)&&decide (KI (vV x) (Bv (vV x) 3 1 (j9 3 1 10 (vV x).ob) (kg 3 1 10 (vV x).ob))=0)&&(Hy (MP x)==aP)&&decide (Hx (MP x)=0)&&decide (J7 (zg x)=0)&&decide ((zg x).st=2)&&decide (jP (zg x) 1=0)&&decide (B (yV x) 2 0 1=10)&&decide (B (yV x) 8 1 0=970)
theorem aCw(Am:Option ai)(cm:Nat)(As:Option ai)(cs:Nat)(Ac:Option ai)(cc:Nat):awB (DN Am cm As cs Ac cc)=aO:=by kernel_rfl
end
section
structure kR(w:aJ)(db:Nat)(g:Nat)(D:Dk)(W:aJ):Prop where
 pl:∃p,bV W db p D/\∀k,eW db p k->w.heap.size<=k
 bl:β w W
 inv:Inv g D
theorem kR.below {w W W':aJ} {db g:Nat} {D:Dk}(h:kR w db g D W)(hW:aa W.heap.size W W'):kR w db g D W':=by obtain⟨p,H,hs⟩:=h.pl;exact⟨⟨p,H.below hW,hs⟩,h.bl.trans (hW.mono h.bl.size),h.inv⟩
theorem kR.step {w W W':aJ} {db g:Nat} {D D':Dk} {p:Dp}(y:Ac)(h:kR w db g D W)(hs:∀k,eW db p k->w.heap.size<=k)(hg:g+1700<=90000)(hR:vR D y D')(hP:aq db p D' W W'):kR w db (g+1700) D' W':=by obtain⟨I,_⟩:=h.inv.step hg hR;obtain⟨p',H',_,_,_,_,hu,hs'⟩:=hP;have hz:=h.bl.size;refine⟨⟨p',H',λk hk=> ?_⟩,h.bl.trans (hu.toBelow hz (λk hk=>hs k hk)),I⟩;grind
def BR(k m a n:Int):Ac:=⟨k,[],aB,0,[],aB,0,m,a,n,⟨0,0,0,0,0⟩⟩
section
variable {w W:aJ} {db g:Nat} {D:Dk} (h:kR w db g D W) (hg:g+1700<=90000)
include h hg
theorem aCy:aQ aM 25 #[bD (aC ⟨db,0,aB⟩)] W λe W'=>e=aT (aG aF (Mc D))/\kR w db (g+1700) (vX D) W':=by obtain⟨p,H,hs⟩:=h.pl;refine(a2e db p D W H (h.inv.J5 hg (BR 8 0 0 0)).en).mono ?_;rintro e W' ⟨rfl,hP⟩;exact⟨rfl,h.step (BR 8 0 0 0) hs hg (.KG rfl) hP⟩
theorem aCz(L:List Lg)(A:Option ai)(c:Nat)(hS:aW W W.heap.size A (bB L))(hI:∀y∈L,y.ok)(hl:aA L<=120):aQ aM 26 #[bD (aC ⟨db,0,aB⟩),aH A (aA L) c] W λe W'=>e=aT (aG aF (lZ D L))/\kR w db (g+1700) (xt D L) W':=by obtain⟨p,H,hs⟩:=h.pl;refine(VQ db p D L A c W H hS hI (by omega) ((h.inv.J5 hg (BR 0 0 0 0)).nt L hl hI)).mono ?_;rintro e W' ⟨rfl,hP⟩;exact⟨rfl,h.step (BR 0 0 0 0) hs hg (.az (.inl (by decide)) hl hI) hP⟩
theorem aD0(m a n:Int)(hm:aL m)(ha:aL a)(hn:aL n):aQ aM 27 #[bD (aC ⟨db,0,aB⟩),aG aF m,aG aF a,aG aF n] W λe W'=>e=aT (bC #[aG aF (KJ D (Bw D m a (j9 m a n D.ob) (kg m a n D.ob))),aG aF (KI D (Bv D m a (j9 m a n D.ob) (kg m a n D.ob)))])/\kR w db (g+1700) (zv D (pU D m a n 7 m 1 0 5 (j9 m a n D.ob) (kg m a n D.ob))) W':=by obtain⟨p,H,hs⟩:=h.pl;refine(a2f db p D m a n W H (h.inv.J5 hg (BR 1 m a n)).ok hm ha hn).mono ?_;rintro e W' ⟨rfl,hP⟩;exact⟨rfl,h.step (BR 1 m a n) hs hg (.pay rfl) hP⟩
theorem aCx:aQ aM 28 #[bD (aC ⟨db,0,aB⟩)] W λe W'=>e=aT (bC #[bK (Hy D),aG aF (Hx D)])/\kR w db (g+1700) (DX D) W':=by obtain⟨p,H,hs⟩:=h.pl;refine(a2d db p D W H (h.inv.J5 hg (BR 5 0 0 0)).due).mono ?_;rintro e W' ⟨rfl,hP⟩;exact⟨rfl,h.step (BR 5 0 0 0) hs hg (.due rfl) hP⟩
theorem aD2:aQ aM 29 #[bD (aC ⟨db,0,aB⟩)] W λe W'=>e=aT (aG aF (J7 D))/\∃D',K0 D D'/\kR w db (g+1700) D' W':=by obtain⟨p,H,hs⟩:=h.pl;refine(a2g db p D W H (h.inv.J5 hg (BR 7 0 0 0)).set).mono ?_;rintro e W' ⟨rfl,D',hR,hP⟩;exact⟨rfl,D',hR,h.step (BR 7 0 0 0) hs hg (.set rfl hR) hP⟩
omit hg in
theorem a1q(k m a:Int)(hk:aL k)(hm:aL m):
 aQ aM 14 #[π db,bP #[ν k,ν m],ν a] W λe W'=>e=aT (bC #[ν (B D k m a),ν (nN (plcA (aA D.x.ms) (aA D.x.ss+1) k m a))])/\kR w db g D W':=by
 obtain⟨p,H,_⟩:=h.pl;refine(a2c db p D k m a W H hk hm).mono ?_;rintro e W' ⟨rfl,hb⟩;exact⟨rfl,h.below hb⟩
end
theorem aD1 {x:ak} {D':Dk}(h1:(zg x).st=2)(h2:jP (zg x) 1=0)(hs:(zg x).x.ss.length=1)(h:K0 (zg x) D'):D'=yV x:=by
 rcases h with⟨hn,_⟩|⟨_,E,hB,rfl⟩
 ·exact absurd h1 hn
 rw [hs] at hB;cases hB with
 |succ hB hR=>
  cases hB with
  |zero=>
   rcases hR with⟨_,rfl⟩|⟨hn,_⟩
   ·rfl
   exact absurd h2 hn
theorem aKW(W:aJ):aW (W.alloc (aK #[aG aF 1,aG aF 0,aG aF 30,aG aF 1,aG aF 1,aG aF (-10),aG aF 3,aG aF 0,aG aF (-30),aG aF 3,aG aF 1,aG aF 10] 76)) (W.alloc (aK #[aG aF 1,aG aF 0,aG aF 30,aG aF 1,aG aF 1,aG aF (-10),aG aF 3,aG aF 0,aG aF (-30),aG aF 3,aG aF 1,aG aF 10] 76)).heap.size (aC ⟨W.heap.size,0,aB⟩) (bB K6):=λj u hu=>
 ⟨W.heap.size,0,rfl,by simp,by have:=dS W 76 #[ν 1,ν 0,ν 30,ν 1,ν 1,ν (-10),ν 3,ν 0,ν (-30),ν 3,ν 1,ν 10] rfl j u hu;grind [DL]⟩
def aAb(w:aJ)(db:Nat)(x:ak)(e:dX)(W':aJ):Prop:=e=aT (aG aF 0)/\kR w db 8500 (yV x) W'
theorem VB(w:aJ):aQ aM 9 #[] w λe w'=>e=aT (bK aO)/\aa w.heap.size w w':=by
 have eR:=η (aJU w);have Ov:=η (λW x (h:uz W x) (hk:zm x=0) (hm:aA x.ms<=16) (hs:aA x.ss<=8) (hc:aA x.cy<=100)=>a2U x W h hk hm hs hc);go_enter func9,ntmps9
 go_wp2_with fail
 refine eR.o.mono ?_;rintro e w1 ⟨Am,cm,As,cs,Ac,cc,rfl,Ii,hb1⟩;have aR:=η hb1;have vH:=η (Ov.o w1 _ Ii (by kernel_rfl) (by show 3<=16;omega) (by show 1<=8;omega) (by show 1<=100;omega));unfold ak.val at vH ⊢;go_wp2_with fail
 refine vH.o.mono ?_;rintro e w2 ⟨db,p,CP,DO,CQ,DU,CO,DM,rfl,H2,hS2,hb2⟩;have hx:Gd (DN CP DO CQ DU CO DM):=RB (by kernel_rfl);have hz1:=aR.o.size;have fg:Hid (kR w db 0 (VA (DN CP DO CQ DU CO DM)) w2):=η ⟨⟨p,H2,λk hk=>by grind⟩,aR.o.trans (hb2.mono hz1),a4x hx⟩;have hall:=aCw CP DO CQ DU CO DM;have RG:(zg (DN CP DO CQ DU CO DM)).x.ss.length=1:=by kernel_rfl
 have kM:nN (plcA (yV (DN CP DO CQ DU CO DM)).x.ms.length ((yV (DN CP DO CQ DU CO DM)).x.ss.length+1) 2 0 1)=0:=by kernel_rfl
 have oP:nN (plcA (yV (DN CP DO CQ DU CO DM)).x.ms.length ((yV (DN CP DO CQ DU CO DM)).x.ss.length+1) 8 1 0)=0:=by kernel_rfl
 generalize DN CP DO CQ DU CO DM=x at*;unfold awB at hall;simp only [ji,decide_eq_true_eq,beq_iff_eq] at hall;obtain⟨⟨⟨⟨⟨⟨⟨⟨⟨⟨f1,f2⟩,f3⟩,f4⟩,f5⟩,f6⟩,f7⟩,f8⟩,f9⟩,f10⟩,f11⟩:=hall;have T1:Hid (aQ aM 25 #[π db] w2 λe W'=>e=aT (ν 0)/\kR w db 1700 (MO x) W'):=η (by have:=aCy fg.o (by omega);rw [f1] at this;exact this);have T2:=η (λW (h:kR w db 1700 (MO x) W) A c (hS:aW W W.heap.size A (bB K6))=>(show aQ aM 26 #[π db,aH A 4 c] W λe W'=>e=aT (ν 0)/\kR w db 3400 (vV x) W' from by have:=aCz h (by omega) K6 A c hS (by intro y hy;simp [K6] at hy;rcases hy with rfl|rfl|rfl|rfl<;>exact⟨by decide,by decide,by decide⟩) (by decide);rw [f2] at this;exact this));have T3:=η (λW (h:kR w db 3400 (vV x) W)=>(show aQ aM 27 #[π db,ν 3,ν 1,ν 10] W λe W'=>e=aT (bC #[ν 0,ν 0])/\kR w db 5100 (MP x) W' from by have:=aD0 h (by omega) 3 1 10 (by decide) (by decide) (by decide);rw [f3,f4] at this;exact this));have T4:=η (λW (h:kR w db 5100 (MP x) W)=>(show aQ aM 28 #[π db] W λe W'=>e=aT (bC #[bK aP,ν 0])/\kR w db 6800 (zg x) W' from by have:=aCx h (by omega);rw [f5,f6] at this;exact this));have T5:=η (λW (h:kR w db 6800 (zg x) W)=>(show aQ aM 29 #[π db] W (aAb w db x) from by refine(aD2 h (by omega)).mono ?_;rintro e W' ⟨rfl,D',hR,hI⟩;obtain rfl:=aD1 f8 f9 RG hR;exact⟨by rw [f7],hI⟩));have T6:=η (λW (h:kR w db 8500 (yV x) W)=>(show aQ aM 14 #[π db,bP #[ν 2,ν 0],ν 1] W λe W'=>e=aT (bC #[ν 10,ν 0])/\kR w db 8500 (yV x) W' from by have:=a1q h 2 0 1 (by decide) (by decide);rw [f10,kM] at this;exact this));have T7:=η (λW (h:kR w db 8500 (yV x) W)=>(show aQ aM 14 #[π db,bP #[ν 8,ν 1],ν 0] W λe W'=>e=aT (bC #[ν 970,ν 0])/\kR w db 8500 (yV x) W' from by have:=a1q h 8 1 0 (by decide) (by decide);rw [f11,oP] at this;exact this));go_wp2_with fail
 refine T1.o.mono ?_;rintro e w3 ⟨rfl,h3⟩;have H3:=η h3;go_upto_region 3 with (fail)
 have H4:Hid (kR w db 1700 (MO x) (w3.alloc (aK #[ν 1,ν 0,ν 30,ν 1,ν 1,ν (-10),ν 3,ν 0,ν (-30),ν 3,ν 1,ν 10] 76))):=η (H3.o.below σ);have T2':=η (T2.o _ H4.o _ 4 (aKW w3));go_wp2_with fail
 refine T2'.o.mono ?_;rintro e w4 ⟨rfl,h4⟩;have H5:=η h4;go_wp2_with fail
 refine(T3.o _ H5.o).mono ?_;rintro e w5 ⟨rfl,h5⟩;have H6:=η h5;go_wp2_with fail
 refine(T4.o _ H6.o).mono ?_;rintro e w6 ⟨rfl,h6⟩;have H7:=η h6;go_wp2_with fail
 refine(T5.o _ H7.o).mono ?_;rintro e w7 ⟨rfl,h7⟩;have H8:=η h7;go_wp2_with fail
 refine(T6.o _ H8.o).mono ?_;rintro e w8 ⟨rfl,h8⟩;have H9:=η h8;go_wp2_with fail
 refine(T7.o _ H9.o).mono ?_;rintro e w9 ⟨rfl,h9⟩;have H10:=η h9.bl;go_wp2_with fail
 go_ret;exact⟨rfl,H10.o⟩
end
section
open Go.ChangeShapes Go.WideShapes Go.ChangeAt Go.Joins Go.Deep
theorem Vi {α:Type}(f:α->List aN)(n:Nat)(hf:∀a,aA (f a)=n):∀(l:List α) (J:Nat) (u:aN),(l.flatMap f)[J]? =aC u->∃(k:Nat) (hk:k<aA l) (j:Nat),J=k*n+j/\(f l[k])[j]? =aC u
 | [],J,u,h=>by simp at h
 |a::l,J,u,h=>by
  rw [xB] at h;by_cases hJ:J<n
  ·rw [List.getElem?_append_left (by rw [hf];exact hJ)] at h;exact⟨0,by simp,J,by simp,h⟩
  rw [List.getElem?_append_right (by rw [hf];omega),hf] at h;obtain⟨k,hk,j,e,hj⟩:=Vi f n hf l _ u h;refine⟨k+1,by simpa using hk,j, ?_,hj⟩;rw [Nat.succ_mul];omega
theorem a1e {w:aJ} {a:ai} {v:aN}(h:w.cell? a=aC v):a=⟨a.block,a.off,aB⟩/\a.block<w.heap.size:=by
 obtain⟨b,o,s⟩:=a;unfold World.cell? at h;cases hb:w.heap[b]? with
 |none=>simp [hb] at h
 |some ob=>
  refine⟨?_,(fY.1 hb).1⟩;cases ob<;>simp [hb] at h;cases s with
  |none=>rfl
  |some x=>simp at h
theorem a1c(b o n:Nat):(⟨b,o,aB⟩:ai).add n=⟨b,o+n,aB⟩:=by unfold Addr.add;split<;>simp_all
theorem a9o {n:Int}(h:(Lit.int aF n).wf=aO):aL n:=by simp only [Lit.wf,IntKind.min,IntKind.max,IntKind.signed,a0F,ji,decide_eq_true_eq,if_true] at h;unfold aL;omega
section
variable {H:Type} {enc:bZ×aN->H} {P:Program} {w:aJ}
def Reads(enc:bZ×aN->H)(P:Program)(w:aJ)(t:bZ)(v:aN):Prop:=∃n x,a8n enc P w 0 (λ_=>aO) aO n t [v]=aC x
theorem Reads.int {t:bZ} {v:aN}(ht:P.underlying t=aC (.int aF))(h:Reads enc P w t v):∃n,v= .int aF n/\aL n:=by obtain⟨n,x,h⟩:=h;obtain⟨y,e1,_,wy⟩:=DataW.trod_int ht h;simp only [List.cons.injEq,and_true] at e1;exact⟨y,e1,a9o wy⟩
theorem aJy {t:bZ} {v:aN} {d:DataW H} {p:List MemPlace}(hc:v.cells.toList= [v])(h:DataW.Trod enc P w 0 (λ_=>aO) aO t v d p):Reads enc P w t v:=by obtain⟨n,h⟩:=h;rw [hc] at h;exact⟨n,_,h⟩
structure Uc(enc:bZ×aN->H)(P:Program)(w:aJ)(fs:Array Field)(x:List aN):Prop where
 len:aA x=fs.size
 cell:∀(j:Nat) (f:Field) (v:aN),fs[j]? =aC f->x[j]? =aC v->Reads enc P w f.type v
theorem Ky {t e:bZ} {fs:Array Field} {v:aN}(ht:P.underlying t=aC (.slice e))(he:P.underlying e=aC (.struct fs))(Kb:oneCellFields P fs=aO)(hC:P.cellsOf e=fs.size)(h0:0<fs.size)
 (h:Reads enc P w t v):
 ∃(A:Option ai) (c:Nat) (rows:List (List aN)),v= .slice A (aA rows) c/\aA rows<=c/\c<=bO/\(∀x∈rows,Uc enc P w fs x)/\aW w w.heap.size A (rows.flatMap id):=by
 obtain⟨fuel,x,hf⟩:=h;rcases open_slice ht hf with⟨hcs,_⟩|⟨a,len,cap,m,n,D,Pl,hcs,hb,hl,hm,mZ,hx,hi⟩
 ·simp at hcs;subst hcs;exact⟨aB,0,[],rfl,by simp,by simp,by simp,aW.nil⟩
 simp at hcs;subst hcs;simp only [if_true] at mZ;subst mZ;have hrow:∀i,∃x:List aN,i<len->Uc enc P w fs x/\∀j y,x[j]? =aC y->w.cell? (a.add (i*fs.size+j))=aC y:=by
  intro i;by_cases nk:i<len
  ·obtain⟨cs',hc,AP⟩:=hi i (by omega);rw [hC] at hc;obtain⟨ys,n',KY,hy,hlen,Bn,gZ⟩:=Z6 he AP;obtain⟨_,kL,hat⟩:=aCQ hc;refine⟨cs',λ_=>⟨⟨kL, ?_⟩, ?_⟩⟩
   ·intro j f v N4 hv;obtain⟨ho,hk⟩:=hone_of Kb j _ N4;have h1:=gZ j _ N4;have rD:=(zU.1 hv).1;rw [ho,hk] at h1;have Wx:(cs'.drop j).take 1= [v]:=by
     rw [Ju rD,(zU.1 hv).2];rfl
    rw [Wx] at h1;have IW:j<aA ys:=by omega
    rw [iG IW] at h1;exact⟨_,_,h1⟩
   intro j y hy;have rD:=(zU.1 hy).1;rw [<-a1d,hat j (by omega)];exact hy
  exact⟨[],λh=>absurd h nk⟩
 obtain⟨g,hg⟩:=Z2.1 hrow;have Fb:aA ((dQ len).map g)=len:=by simp
 refine⟨aC a,_,(dQ len).map g,by rw [Fb],by rw [Fb];exact hl,hm, ?_, ?_⟩
 ·intro x hx;obtain⟨i,hi',rfl⟩:=di.1 hx;exact(hg i (nV.1 hi')).1
 intro J u hu;have XB:((dQ len).flatMap g)[J]? =aC u:=by rw [aA1] at hu;exact hu
 have X1:∀i,aA (if i<len then g i else gP fs.size (aG aF 0))=fs.size:=by
  intro i;split
  ·rename_i nk;exact(hg i nk).1.len
  simp
 have vy:((dQ len).flatMap (λi=>if i<len then g i else gP fs.size (aG aF 0)))[J]? =aC u:=by
  have e:(dQ len).flatMap (λi=>if i<len then g i else gP fs.size (aG aF 0))=(dQ len).flatMap g:=by rw [UU,UU];congr 1;exact Jv λi hi=>by rw [ifP (nV.1 hi)]
  rw [e];exact XB
 obtain⟨k,hk,j,rfl,hj⟩:=Vi _ fs.size X1 _ J u vy;have eK:k<len:=by simpa using hk
 have ek:(dQ len)[k]=k:=by simp
 rw [ek,ifP eK] at hj;have hc:=(hg k eK).2 j u hj;obtain⟨x,hx0⟩:∃x,(g 0)[0]? =aC x:=by have hl0:=(hg 0 (by omega)).1.len;exact⟨_,iG (by rw [hl0];exact h0)⟩
 have hc0:=(hg 0 (by omega)).2 0 x hx0;have ea:a.add (0*fs.size+0)=a:=by simp [Addr.add]
 rw [ea] at hc0;obtain⟨e1,e2⟩:=a1e hc0;refine⟨a.block,a.off,by rw [<-e1],e2, ?_⟩;rw [<-a1c,<-e1];exact hc
end
theorem Fw {α:Type}(f:α->List aN)(R:α->Prop):∀(rows:List (List aN)),(∀x∈rows,∃a,x=f a/\R a)->∃l:List α,aA l=aA rows/\rows.flatMap id=l.flatMap f/\∀a∈l,R a
 | [],_=>⟨[],rfl,rfl,by simp⟩
 |x::rows,h=>by
  obtain⟨a,rfl,ha⟩:=h x (by simp);obtain⟨l,h1,h2,h3⟩:=Fw f R rows λy hy=>h y (by simp [hy])
  refine⟨a::l,by simp [h1],by simp [h2], ?_⟩;intro b hb;rcases fG.1 hb with rfl|hb
  ·exact ha
  exact h3 b hb
end
section
open Go.ChangeShapes Go.WideShapes Go.ChangeAt Go.Joins Go.Deep
section
variable {H:Type} {enc:bZ×aN->H} {w:aJ}
theorem Xj {P:Program} {t e:bZ} {A:Option ai} {n c:Nat}(ht:P.underlying t=aC (.slice e))(h:Reads enc P w t (.slice A n c)):A=aB->n=0/\c=0:=by
 obtain⟨fuel,x,hf⟩:=h;rcases open_slice ht hf with⟨hcs,_⟩|⟨a,len,cap,m,n',D,Pl,hcs,_⟩
 ·simp at hcs;exact λ_=>hcs.2
 simp at hcs;intro h;rw [hcs.1] at h;cases h
end
end
section
open Go.ChangeShapes Go.WideShapes Go.ChangeAt Go.Joins Go.Deep
section
variable {H:Type} {enc:bZ×aN->H} {P:Program} {w:aJ}
def qJ(enc:bZ×aN->H)(P:Program)(w:aJ)(t:bZ)(cs:List aN):Prop:=∃n x,a8n enc P w 0 (λ_=>aO) aO n t cs=aC x
theorem qJ.fields {t:bZ} {fs:Array Field} {cs:List aN}(ht:P.underlying t=aC (.struct fs))(h:qJ enc P w t cs):
 ∀(i:Nat) (f:Field),fs[i]? =aC f->qJ enc P w f.type ((cs.drop f.offset).take (P.cellsOf f.type)):=by
 obtain⟨fuel,x,h⟩:=h;obtain⟨xs,n,rfl,rfl,hl,nK,gZ⟩:=Z6 ht h;intro i f hf;have hi:=(fY.1 hf).1;have h1:=gZ i f hf;rw [iG (show i<(aA xs) by omega)] at h1;exact⟨n,_,h1⟩
theorem aIp {t e:bZ} {N:Nat} {v:aN}(ht:P.underlying t=aC (.slice e))(hC:P.cellsOf e=N)(h0:0<N)
 (h:Reads enc P w t v):
 ∃(A:Option ai) (c:Nat) (rows:List (List aN)),v= .slice A (aA rows) c/\aA rows<=c/\c<=bO/\(∀x∈rows,aA x=N/\qJ enc P w e x)/\aW w w.heap.size A (rows.flatMap id):=by
 obtain⟨fuel,x,hf⟩:=h;rcases open_slice ht hf with⟨hcs,_⟩|⟨a,len,cap,m,n,D,Pl,hcs,hb,hl,hm,mZ,hx,hi⟩
 ·simp at hcs;subst hcs;exact⟨aB,0,[],rfl,by simp,by simp,by simp,aW.nil⟩
 simp at hcs;subst hcs;simp only [if_true] at mZ;subst mZ;have hrow:∀i,∃x:List aN,i<len->(aA x=N/\qJ enc P w e x)/\∀j y,x[j]? =aC y->w.cell? (a.add (i*N+j))=aC y:=by
  intro i;by_cases nk:i<len
  ·obtain⟨cs',hc,AP⟩:=hi i (by omega);rw [hC] at hc;obtain⟨_,kL,hat⟩:=aCQ hc;refine⟨cs',λ_=>⟨⟨kL,⟨_,_,AP⟩⟩, ?_⟩⟩;intro j y hy;have rD:=(zU.1 hy).1;rw [<-a1d,hat j (by omega)];exact hy
  exact⟨[],λh=>absurd h nk⟩
 obtain⟨g,hg⟩:=Z2.1 hrow;have Fb:aA ((dQ len).map g)=len:=by simp
 refine⟨aC a,_,(dQ len).map g,by rw [Fb],by rw [Fb];exact hl,hm, ?_, ?_⟩
 ·intro x hx;obtain⟨i,hi',rfl⟩:=di.1 hx;exact(hg i (nV.1 hi')).1
 intro J u hu;have XB:((dQ len).flatMap g)[J]? =aC u:=by rw [aA1] at hu;exact hu
 have X1:∀i,aA (if i<len then g i else gP N (aG aF 0))=N:=by
  intro i;split
  ·rename_i nk;exact(hg i nk).1.1
  simp
 have vy:((dQ len).flatMap (λi=>if i<len then g i else gP N (aG aF 0)))[J]? =aC u:=by
  have e:(dQ len).flatMap (λi=>if i<len then g i else gP N (aG aF 0))=(dQ len).flatMap g:=by rw [UU,UU];congr 1;exact Jv λi hi=>by rw [ifP (nV.1 hi)]
  rw [e];exact XB
 obtain⟨k,hk,j,rfl,hj⟩:=Vi _ N X1 _ J u vy;have eK:k<len:=by simpa using hk
 have ek:(dQ len)[k]=k:=by simp
 rw [ek,ifP eK] at hj;have hc:=(hg k eK).2 j u hj;obtain⟨x,hx0⟩:∃x,(g 0)[0]? =aC x:=by have hl0:=(hg 0 (by omega)).1.1;exact⟨_,iG (by rw [hl0];exact h0)⟩
 have hc0:=(hg 0 (by omega)).2 0 x hx0;have ea:a.add (0*N+0)=a:=by simp [Addr.add]
 rw [ea] at hc0;obtain⟨e1,e2⟩:=a1e hc0;refine⟨a.block,a.off,by rw [<-e1],e2, ?_⟩;rw [<-a1c,<-e1];exact hc
end
end
section
open Go.ChangeShapes Go.WideShapes Go.ChangeAt Go.Joins Go.Deep
section
variable {H:Type} {enc:bZ×aN->H} {w:aJ}
theorem aIs {P:Program} {r:Reach} {b0:Nat} {t:bZ} {fs:Array Field} {v:aN} {d:DataW H} {p:List MemPlace}(hs:P.underlying t=aC (.struct fs))(Kb:oneCellFields P fs=aO)(hC:P.cellsOf t=fs.size)
 (hv:Value.okWide P w r b0 t v) (h:DataW.Trod enc P w 0 (λ_=>aO) aO t v d p):∃l:List aN,v= .agg l.toArray/\Uc enc P w fs l:=by
 obtain⟨⟨l⟩,rfl,hsz⟩:=okWide_struct hs hv;obtain⟨fuel,hf⟩:=h;obtain⟨ys,n,_,_,_,Bn,gZ⟩:=Z6 hs hf;have hl:aA l=fs.size:=hsz.trans hC;refine⟨l,rfl,⟨hl, ?_⟩⟩;intro j f v N4 hv;obtain⟨ho,hk⟩:=hone_of Kb j _ N4;have h1:=gZ j _ N4;have rD:j<aA l:=(zU.1 hv).1;rw [ho,hk] at h1;have Wx:((Value.agg ⟨l⟩).cells.toList.drop j).take 1= [v]:=by show (l.drop j).take 1= [v];rw [Ju rD,(zU.1 hv).2];rfl
 rw [Wx] at h1;have IW:j<aA ys:=by omega
 rw [iG IW] at h1;exact⟨_,_,h1⟩
theorem aIr {v:aN}(h:Reads enc aM w 22 v):∃(A:Option ai) (c:Nat) (l:List Pr),v=aH A (aA l) c/\aA l<=bO/\aW w w.heap.size A (je l):=by
 obtain⟨A,c,rows,rfl,hl,hc,hr,hs⟩:=Ky underlying22 underlying67 (by kernel_rfl) (by kernel_rfl) (by decide) h;obtain⟨l,e1,e2,_⟩:=Fw Pr.cells (λ_=>True) rows λx hx=>by
  have hx:=hr x hx
  match x,hx.len with
  | [x0,x1],_=>
   obtain⟨x0,rfl,_⟩:=(hx.cell 0 _ _ rfl rfl).int (by kernel_rfl);obtain⟨x1,rfl,_⟩:=(hx.cell 1 _ _ rfl rfl).int (by kernel_rfl);exact⟨⟨x0,x1⟩,rfl,trivial⟩
 rw [e2] at hs;rw [<-e1] at hl ⊢;exact⟨A,c,l,rfl,bz hl hc,hs⟩
theorem aNJ {v:aN}(h:Reads enc aM w 23 v):∃(A:Option ai) (c:Nat) (l:List Pr),v=aH A (aA l) c/\aA l<=bO/\aW w w.heap.size A (je l):=by
 obtain⟨A,c,rows,rfl,hl,hc,hr,hs⟩:=Ky underlying23 aCK (by kernel_rfl) (by kernel_rfl) (by decide) h;obtain⟨l,e1,e2,_⟩:=Fw Pr.cells (λ_=>True) rows λx hx=>by
  have hx:=hr x hx
  match x,hx.len with
  | [x0,x1],_=>
   obtain⟨x0,rfl,_⟩:=(hx.cell 0 _ _ rfl rfl).int (by kernel_rfl);obtain⟨x1,rfl,_⟩:=(hx.cell 1 _ _ rfl rfl).int (by kernel_rfl);exact⟨⟨x0,x1⟩,rfl,trivial⟩
 rw [e2] at hs;rw [<-e1] at hl ⊢;exact⟨A,c,l,rfl,bz hl hc,hs⟩
theorem aIo {v:aN}(h:Reads enc aM w 24 v):∃(A:Option ai) (c:Nat) (l:List Cy),v=aH A (aA l) c/\aA l<=bO/\aW w w.heap.size A (uZ l):=by
 obtain⟨A,c,rows,rfl,hl,hc,hr,hs⟩:=Ky underlying24 underlying71 (by kernel_rfl) (by kernel_rfl) (by decide) h;obtain⟨l,e1,e2,_⟩:=Fw Cy.cells (λ_=>True) rows λx hx=>by
  have hx:=hr x hx
  match x,hx.len with
  | [x0,x1,x2,x3],_=>
   obtain⟨x0,rfl,_⟩:=(hx.cell 0 _ _ rfl rfl).int (by kernel_rfl);obtain⟨x1,rfl,_⟩:=(hx.cell 1 _ _ rfl rfl).int (by kernel_rfl);obtain⟨x2,rfl,_⟩:=(hx.cell 2 _ _ rfl rfl).int (by kernel_rfl);obtain⟨x3,rfl,_⟩:=(hx.cell 3 _ _ rfl rfl).int (by kernel_rfl);exact⟨⟨x0,x1,x2,x3⟩,rfl,trivial⟩
 rw [e2] at hs;rw [<-e1] at hl ⊢;exact⟨A,c,l,rfl,bz hl hc,hs⟩
end
end
section
open Go.ChangeShapes Go.WideShapes Go.ChangeAt Go.Joins Go.Deep
section
variable {H:Type} {enc:bZ×aN->H} {w:aJ}
theorem aIt {v:aN}(h:Reads enc aM w 23 v):∃(A:Option ai) (c:Nat) (l:List Pr),v=aH A (aA l) c/\aA l<=bO/\(∀y∈l,aL y.a/\aL y.b)/\aW w w.heap.size A (je l):=by
 obtain⟨A,c,rows,rfl,hl,hc,hr,hs⟩:=Ky underlying23 aCK (by kernel_rfl) (by kernel_rfl) (by decide) h;obtain⟨l,e1,e2,e3⟩:=Fw Pr.cells (λy=>aL y.a/\aL y.b) rows λx hx=>by
  have hx:=hr x hx
  match x,hx.len with
  | [x0,x1],_=>
   obtain⟨x0,rfl,h0⟩:=(hx.cell 0 _ _ rfl rfl).int (by kernel_rfl);obtain⟨x1,rfl,h1⟩:=(hx.cell 1 _ _ rfl rfl).int (by kernel_rfl);exact⟨⟨x0,x1⟩,rfl,h0,h1⟩
 rw [e2] at hs;rw [<-e1] at hl ⊢;exact⟨A,c,l,rfl,bz hl hc,e3,hs⟩
end
end
section
open Go.ChangeShapes Go.WideShapes Go.ChangeAt Go.Joins Go.Deep
section
variable {H:Type} {enc:bZ×aN->H} {w:aJ}
theorem aIq {v:aN}(h:Reads enc aM w 39 v):
 ∃(A:Option ai) (c:Nat) (l:List Lg),v=aH A (aA l) c/\aA l<=c/\c<=bO/\(∀y∈l,aL y.m/\aL y.a/\aL y.n)/\aW w w.heap.size A (bB l):=by
 obtain⟨A,c,rows,rfl,hl,hc,hr,hs⟩:=Ky tG underlying76 (by kernel_rfl) (by kernel_rfl) (by decide) h;obtain⟨l,e1,e2,e3⟩:=Fw Lg.cells (λy=>aL y.m/\aL y.a/\aL y.n) rows λx hx=>by
  have hx:=hr x hx
  match x,hx.len with
  | [a,b,d],_=>
   obtain⟨a,rfl,ha⟩:=(hx.cell 0 _ _ rfl rfl).int (by kernel_rfl);obtain⟨b,rfl,hb⟩:=(hx.cell 1 _ _ rfl rfl).int (by kernel_rfl);obtain⟨d,rfl,hd⟩:=(hx.cell 2 _ _ rfl rfl).int (by kernel_rfl);exact⟨⟨a,b,d⟩,rfl,ha,hb,hd⟩
 rw [e2] at hs;rw [<-e1] at hl ⊢;exact⟨A,c,l,rfl,hl,hc,e3,hs⟩
end
end
section
open Go.ChangeShapes Go.WideShapes Go.ChangeAt Go.Joins Go.Deep
section
variable {H:Type} {enc:bZ×aN->H} {w:aJ}
theorem aIn {r:Reach} {b0:Nat} {v:aN} {d:DataW H} {p:List MemPlace}(hv:Value.okWide aM w r b0 26 v)
 (h:DataW.Trod enc aM w 0 (λ_=>aO) aO 26 v d p):∃x:ak,v=x.val/\uz w x/\aA x.ms<=bO/\aA x.ss<=bO/\aA x.cy<=bO:=by
 obtain⟨l,rfl,hx⟩:=aIs underlying26 (by kernel_rfl) (by kernel_rfl) hv h
 match l,hx.len with
 | [x0,x1,x2,x3,x4,x5,x6,x7],_=>
  have g0:=hx.cell 0 _ _ rfl rfl;have g1:=hx.cell 1 _ _ rfl rfl;have g2:=hx.cell 2 _ _ rfl rfl;obtain⟨Am,cm,ms,rfl,hm,sm⟩:=aIr g0;obtain⟨As,cs,ss,rfl,hs,hI,sss⟩:=aIt g1;obtain⟨Ac,cc,cy,rfl,hc,sc⟩:=aIo g2;obtain⟨x3,rfl,_⟩:=(hx.cell 3 _ _ rfl rfl).int (by kernel_rfl);obtain⟨x4,rfl,_⟩:=(hx.cell 4 _ _ rfl rfl).int (by kernel_rfl);obtain⟨x5,rfl,_⟩:=(hx.cell 5 _ _ rfl rfl).int (by kernel_rfl);obtain⟨x6,rfl,_⟩:=(hx.cell 6 _ _ rfl rfl).int (by kernel_rfl);obtain⟨x7,rfl,_⟩:=(hx.cell 7 _ _ rfl rfl).int (by kernel_rfl);have n0:=Xj underlying22 g0;have n1:=Xj underlying23 g1;have n2:=Xj underlying24 g2;exact⟨⟨ms,Am,cm,ss,As,cs,cy,Ac,cc,x3,x4,x5,x6,x7⟩,rfl,⟨⟨sm,sss,sc⟩,λe=>(n0 e).1,λe=>(n1 e).1,λe=>(n2 e).1⟩,hm,hs,hc⟩
theorem aIu {v:aN}(h:Reads enc aM w 38 v):
 ∃(A:Option ai) (c:Nat) (l:List Td),v=aH A (aA l) c/\aA l<=c/\c<=bO/\(∀y∈l,y.ok)/\aW w w.heap.size A (Yf l):=by
 obtain⟨A,c,rows,rfl,hl,hc,hr,hs⟩:=Ky underlying38 underlying153 (by kernel_rfl) (by kernel_rfl) (by decide) h;obtain⟨l,e1,e2,e3⟩:=Fw Td.cells (λy=>y.ok) rows λx hx=>by
  have hx:=hr x hx
  match x,hx.len with
  | [a,b,c,d,e,f],_=>
   obtain⟨a,rfl,ha⟩:=(hx.cell 0 _ _ rfl rfl).int (by kernel_rfl);obtain⟨b,rfl,hb⟩:=(hx.cell 1 _ _ rfl rfl).int (by kernel_rfl);obtain⟨c,rfl,hc⟩:=(hx.cell 2 _ _ rfl rfl).int (by kernel_rfl);obtain⟨d,rfl,hd⟩:=(hx.cell 3 _ _ rfl rfl).int (by kernel_rfl);obtain⟨e,rfl,he⟩:=(hx.cell 4 _ _ rfl rfl).int (by kernel_rfl);obtain⟨f,rfl,hf⟩:=(hx.cell 5 _ _ rfl rfl).int (by kernel_rfl);exact⟨⟨a,b,c,d,e,f⟩,rfl,hb,hc,hd,he,hf⟩
 rw [e2] at hs;rw [<-e1] at hl ⊢;exact⟨A,c,l,rfl,hl,hc,e3,hs⟩
def Sv(w:aJ)(y:Ac):Prop:=y.ok/\y.at w/\aA y.ts<=bO/\aA y.ls<=bO
theorem aCV {x:List aN}(nK:aA x=11)(hx:qJ enc aM w 43 x):∃y:Ac,x=y.cells/\Sv w y:=by
 have k0:aM.cellsOf 3=1:=by kernel_rfl
 have k1:aM.cellsOf 38=1:=by kernel_rfl
 have k2:aM.cellsOf 39=1:=by kernel_rfl
 have k3:aM.cellsOf 2=1:=by kernel_rfl
 have k4:aM.cellsOf 41=5:=by kernel_rfl
 match x,nK with
 | [a,b,c,d,e,f,g,h,i,j,k],_=>
  have hf:=hx.fields underlying43;have h0:qJ enc aM w 3 (([a,b,c,d,e,f,g,h,i,j,k].drop 0).take (aM.cellsOf 3)):=hf 0 _ rfl;have h1:qJ enc aM w 38 (([a,b,c,d,e,f,g,h,i,j,k].drop 1).take (aM.cellsOf 38)):=hf 1 _ rfl;have h2:qJ enc aM w 39 (([a,b,c,d,e,f,g,h,i,j,k].drop 2).take (aM.cellsOf 39)):=hf 2 _ rfl;have h3:qJ enc aM w 3 (([a,b,c,d,e,f,g,h,i,j,k].drop 3).take (aM.cellsOf 3)):=hf 3 _ rfl;have h4:qJ enc aM w 3 (([a,b,c,d,e,f,g,h,i,j,k].drop 4).take (aM.cellsOf 3)):=hf 4 _ rfl;have h5:qJ enc aM w 2 (([a,b,c,d,e,f,g,h,i,j,k].drop 5).take (aM.cellsOf 2)):=hf 5 _ rfl;have h6:qJ enc aM w 41 (([a,b,c,d,e,f,g,h,i,j,k].drop 6).take (aM.cellsOf 41)):=hf 6 _ rfl;rw [k0] at h0 h3 h4;rw [k1] at h1;rw [k2] at h2;rw [k3] at h5;rw [k4] at h6;have hg:=qJ.fields underlying41 h6;have g0:qJ enc aM w 3 (([g,h,i,j,k].drop 0).take (aM.cellsOf 3)):=hg 0 _ rfl;have g1:qJ enc aM w 3 (([g,h,i,j,k].drop 1).take (aM.cellsOf 3)):=hg 1 _ rfl;have g2:qJ enc aM w 3 (([g,h,i,j,k].drop 2).take (aM.cellsOf 3)):=hg 2 _ rfl;have g3:qJ enc aM w 2 (([g,h,i,j,k].drop 3).take (aM.cellsOf 2)):=hg 3 _ rfl;have g4:qJ enc aM w 2 (([g,h,i,j,k].drop 4).take (aM.cellsOf 2)):=hg 4 _ rfl;rw [k0] at g0 g1 g2;rw [k3] at g3 g4;have r0:Reads enc aM w 3 a:=h0;have r1:Reads enc aM w 38 b:=h1;have r2:Reads enc aM w 39 c:=h2;have r3:Reads enc aM w 3 d:=h3;have r4:Reads enc aM w 3 e:=h4;have r5:Reads enc aM w 2 f:=h5;have q0:Reads enc aM w 3 g:=g0;have q1:Reads enc aM w 3 h:=g1;have q2:Reads enc aM w 3 i:=g2;have q3:Reads enc aM w 2 j:=g3;have q4:Reads enc aM w 2 k:=g4;obtain⟨a,rfl,_⟩:=r0.int (by kernel_rfl);obtain⟨At,ct,ts,rfl,t1,t2,t3,t4⟩:=aIu r1;obtain⟨Al,cl,ls,rfl,l1,l2,l3,l4⟩:=aIq r2;obtain⟨d,rfl,w3⟩:=r3.int (by kernel_rfl);obtain⟨e,rfl,w4⟩:=r4.int (by kernel_rfl);obtain⟨f,rfl,w5⟩:=r5.int (by kernel_rfl);obtain⟨g,rfl,u0⟩:=q0.int (by kernel_rfl);obtain⟨h,rfl,u1⟩:=q1.int (by kernel_rfl);obtain⟨i,rfl,u2⟩:=q2.int (by kernel_rfl);obtain⟨j,rfl,u3⟩:=q3.int (by kernel_rfl);obtain⟨k,rfl,u4⟩:=q4.int (by kernel_rfl);exact⟨⟨a,ts,At,ct,ls,Al,cl,d,e,f,⟨g,h,i,j,k⟩⟩,rfl,⟨w3,w4,w5,⟨u0,u1,u2,u3,u4⟩,t3,λy hy=>⟨(l3 y hy).1,(l3 y hy).2.1,(l3 y hy).2.2⟩⟩,⟨t4,l4⟩,bz t1 t2,bz l1 l2⟩
theorem aIm {v:aN}(h:Reads enc aM w 27 v):
 ∃(A:Option ai) (c:Nat) (l:List Ac),v=aH A (aA l) c/\aA l<=c/\c<=bO/\(∀y∈l,Sv w y)/\aW w w.heap.size A (K4 l):=by
 obtain⟨A,c,rows,rfl,hl,hc,hr,hs⟩:=aIp (N:=11) underlying27 (by kernel_rfl) (by decide) h;obtain⟨l,e1,e2,e3⟩:=Fw Ac.cells (λy=>Sv w y) rows λx hx=>aCV (hr x hx).1 (hr x hx).2
 rw [e2] at hs;rw [<-e1] at hl ⊢;exact⟨A,c,l,rfl,hl,hc,e3,hs⟩
end
end
theorem F2(n:Nat)(f:Nat->Int):aA (cZ n f)=n:=by unfold cZ;simp
theorem Ez(n:Nat)(f:Nat->Int) {i:Nat}(h:i<aA (cZ n f)):(cZ n f)[i]=f i:=by
 have:∀(L:List Int) (e:L=(dQ n).map f) (h:i<aA L),L[i]=f i:=λL e h=>by subst e;simp
 exact this _ rfl h
theorem aFo {n:Nat} {f g:Nat->Int} {i:Nat}(h:∀a,a≠i->f a=g a):(cZ n f).set i (g i)=cZ n g:=by
 refine Gf (by rw [xD,F2,F2]) (λa h1 h2=> ?_);rw [PH,Ez,Ez];by_cases e:i=a
 ·rw [ifP e,e]
 rw [ifN e,h a (λx=>e x.symm)]
theorem aFl {l:List Ev} {j:Nat}(h:j<aA l)(a:Int):dt (l.take (j+1)) a=dt (l.take j) a+if l[j].a=a then kW l[j] else 0:=by rw [fH h,Bb,Bc]
theorem Inv.aFk {g:Nat} {D:Dk}(I:Inv g D):(∀j (h:j<aA D.log),I5 (aA D.x.ss) D.log[j])/\(∀j a,0<=dt (D.log.take j) a/\dt (D.log.take j) a<=5000000000000000000)/\(∀a,B D 1 0 a=dt D.log a)/\aA D.log<=g:=by obtain⟨C,K,_⟩:=I.jZ;exact⟨λj h=>K.lg.ev _ (cK h),λj a=>K.lg.pre j a,λa=>(K.fl a).symm,K.gl⟩
theorem aFn(x:ak)(l:List Ac)(A:Option ai)(c:Nat)(w:aJ)(h:uz w x)(hm:aA x.ms<=bO)(hs:aA x.ss<=bO)(hc:aA x.cy<=bO)(hl:aA l<=bO)(hL:∀y∈l,aA y.ts<=bO/\aA y.ls<=bO)(nJ:aW w w.heap.size A (K4 l))(dU:∀y∈l,y.ok/\y.at w):
 aQ aM 4 #[x.val,aH A (aA l) c] w λe w'=>e=aT (bK aO)/\β w w':=by
 have aY:=η (mY w x);have jQ:=η (zl w x);have mQ:=η (h.below aY.o);have qE:=η ((nJ.below aY.o).mono aY.o.size);have xA:=η (λy (hy:y∈l)=>kh (dU y hy).1 ((dU y hy).2.below aY.o));have zG:=η (λW (hW:aW W W.heap.size A (K4 l))=>aFV x l A c W hm hs hc hl hL hW);have HLEN:Hid (I6 x l=aO->(aA x.ms<=20/\aA x.ss<=20/\aA x.cy<=20)/\aA l<=40/\∀y∈l,aA y.ts<=30/\aA y.ls<=60):=η aFW;clear h hm hs hc hL nJ dU;unfold bO at hl;cases Qm:I6 x l
 ·rw [Qm] at zG;clear HLEN xA mQ;unfold ak.val at*;go_enter PW,a1I
  obtain⟨c0,c1,c2,c3,c4,c5,c6,c7,jL⟩:=jQ.o;go_wp2_with fail
  refine(zG.o _ qE.o).mono ?_;rintro e w2 ⟨rfl,hb⟩;have aV:Hid (β w w2):=τ aY hb;clear hb zG aY jQ qE c0 c1 c2 c3 c4 c5 c6 c7 jL;go_wp2_with fail
  refine(VB _).mono ?_;rintro e w3 ⟨rfl,hb⟩;have af:Hid (β w w3):=τ aV hb;clear hb;go_wp2_with fail
  go_ret;exact⟨rfl,af.o⟩
 obtain⟨⟨l1,l2,l3⟩,l40,hL⟩:=HLEN.o Qm;have mP:=η hL;rw [Qm] at zG;have lV:=η (λW (hW:uz W x)=>aKO x W hW.ok (by omega) (by omega) (by omega));clear Qm HLEN hL;cases FQ:okB x
 ·have HX:=η (a8e FQ);generalize iU x=ws at*;clear FQ xA mP;unfold ak.val at*;go_enter PW,a1I
  obtain⟨c0,c1,c2,c3,c4,c5,c6,c7,jL⟩:=jQ.o;go_wp2_with fail
  refine(zG.o _ qE.o).mono ?_;rintro e w2 ⟨rfl,hb⟩;have aV:Hid (β w w2):=τ aY hb;have kS:=η (jQ.o.below hb);have dG:=η (mQ.o.below hb);clear hb zG aY jQ qE mQ c0 c1 c2 c3 c4 c5 c6 c7 jL;obtain⟨c0,c1,c2,c3,c4,c5,c6,c7,jL⟩:=kS.o;go_wp2_with fail
  refine(lV.o _ dG.o).mono ?_;rintro e w3 ⟨rfl,hb⟩;have af:Hid (β w w3):=τ aV hb;clear hb lV aV kS dG c0 c1 c2 c3 c4 c5 c6 c7 jL;rcases HX.o with rfl|rfl|rfl|rfl|rfl|rfl|rfl|rfl
  all_goals
   clear HX;go_wp2_with fail
   refine(VB _).mono ?_;rintro e w4 ⟨rfl,hb⟩;have ar:Hid (β w w4):=τ af hb;clear hb;go_wp2_with fail
   go_ret;exact⟨rfl,ar.o⟩
 have HE:=η (a8f FQ);have aMT:=η FQ;have Ov:=η (λ(w0 W:aJ) (hb:Nat) (h1:β w0 W) (h2:hb<W.heap.size) (h3:uz W x)=>aHe (hb:=hb) h1 h2 h3 FQ);have aNA:aA x.ss<=8:=(RB FQ).sl.2;have aN3:aA x.ms<=16:=(RB FQ).ml.2;clear FQ;rw [HE.o] at lV;clear HE;unfold ak.val at*;go_enter PW,a1I
 go_upto_region 1 with (fail)
 generalize w.alloc (aK #[aH x.Am (aA x.ms) x.cm,aH x.As (aA x.ss) x.cs,aH x.Ac (aA x.cy) x.cc,ν x.line,ν x.bW,ν x.lead,ν x.tr,ν x.bT] 26)=w0 at*;obtain⟨bx,bU⟩:∃bx,bx=w.heap.size:=⟨_,rfl⟩;rw [<-bU] at jQ ⊢;clear bU;have bU:=jQ.o.lt;have cC:=η (λW (hW:β w0 W)=>aY.o.trans (hW.mono aY.o.size));have eJ:=η (λW (hW:β w0 W)=>jQ.o.below hW);have HSW:=η (λW (hW:β w0 W)=>(qE.o.below hW).mono hW.size);obtain⟨c0,c1,c2,c3,c4,c5,c6,c7,jL⟩:=jQ.o;go_wp2_with fail
 refine(zG.o _ qE.o).mono ?_;rintro e w1 ⟨rfl,hb⟩;have aR:=η hb;have cF:=η (mQ.o.below hb);clear hb zG c0 c1 c2 c3 c4 c5 c6 c7 jL qE jQ aY mQ;obtain⟨c0,c1,c2,c3,c4,c5,c6,c7,jL⟩:=eJ.o _ aR.o;go_wp2_with fail
 refine(lV.o _ cF.o).mono ?_;rintro e w2 ⟨rfl,hb⟩;have aV:=τ aR hb;have dG:=η (cF.o.below hb);have hz2:=aV.o.size;clear hb lV c0 c1 c2 c3 c4 c5 c6 c7 jL aR cF;obtain⟨c0,c1,c2,c3,c4,c5,c6,c7,jL⟩:=eJ.o _ aV.o;go_wp2_with fail
 refine(Ov.o w0 _ bx aV.o jL dG.o).mono ?_;rintro e w3 ⟨db,D0,rfl,hi,hb,a4X,-⟩;have GJ:=η hi;have Lf:=η a4X;clear hi hb a4X Ov aV dG c0 c1 c2 c3 c4 c5 c6 c7 jL;obtain⟨q,hq⟩:∃q:Nat,q=aA x.ss+1:=⟨_,rfl⟩;have sD:(aA x.ss:Int)+1=(q:Int):=by omega
 have yi:q<=9:=by omega
 have HQ:=η hq;clear hq;have AL:=Rh q (by omega) w3;obtain⟨c0,c1,c2,c3,c4,c5,c6,c7,jL⟩:=eJ.o _ GJ.o.bl;have Tb:=η (GJ.o.aK0 ((aX _ _).alloc (aZ _) (aK (jh q (aG aF 0)) 2)) (aZ _) (by simp));have jm:Hid (eE (w3.alloc (aK (jh q (aG aF 0)) 2)) w3.heap.size 2 (cZ q λa=>dt D0.log (a:Int))):=η (by
  have e:(cZ q λa=>dt D0.log (a:Int))=gP q 0:=by rw [Lf.o];exact Gf (by rw [F2,BN]) (λi h1 h2=>by rw [Ez,PG];rfl)
  rw [e];have:=cQ w3 (aK (jh q (aG aF 0)) 2);unfold eE;rw [List.map_replicate,List.toArray_replicate];exact this)
 have hb3:w0.heap.size<=w3.heap.size:=GJ.o.bl.size;clear GJ c0 c2 c3 c4 c5 c6 c7;go_wp2_with fail
 clear AL c1 jL;generalize w3.alloc (aK (jh q (aG aF 0)) 2)=w4 at*;obtain⟨hb,hhb⟩:∃hb,hb=w3.heap.size:=⟨_,rfl⟩;rw [<-hhb] at Tb jm hb3 ⊢;clear hhb;have dJ:=η (show¬bx=hb from by omega);go_loopw [8,9,10,11,12,13,14,15] (λt i _ _ _ _ _ _ wr=>∃(k:Nat) (D:Dk),k<=aA l/\i=ν (k:Int)/\t=ν (aA D.log:Int)/\Hid (pF w0 db hb x (1700*k) D wr)/\Hid (eE wr hb 2 (cZ q λa=>dt D.log (a:Int)))) (λ_ i _ _ _ _ _ _ _=>aA l-(ag i).toNat)
 case atStart=>exact⟨0,D0,bM _,rfl,by rw [Lf.o];rfl,Tb,jm⟩
 case round=>
  clear Tb jm Lf;obtain⟨k,D,hk,rfl,rfl,HI,HR⟩:=hrel;by_cases hlt:k<aA l
  ·have hg:1700*k+1700<=90000:=by omega
   have hg2:1700*k+1700+1700<=90000:=by omega
   have ej:(0:Int)<=(k:Int):=by omega
   have hkb:(k:Int)<(aA l:Int):=by omega
   obtain⟨ba,oa,rfl,nG,d0,d1,d2,d3,d4,d5,d6,d7,d8,d9,d10⟩:=a1a (HSW.o wr HI.o.bl) hlt;have HYK:=η (xA.o l[k] (cK hlt));have kT:=η (mP.o l[k] (cK hlt));have U6:=η (aHg HI.o hg HYK.o.1 HYK.o.2 kT.o.1 kT.o.2);unfold Ac.val at U6;go_wp2_with fail
   refine U6.o.mono ?_;rintro e w5 ⟨rfl,D5,h5,t5,e5⟩;have GK:=η h5;have Ct:=η t5;have ZR:=η e5;clear h5 t5 e5 U6 d0 d1 d2 d3 d4 d5 d6 d7 d8 d9 d10;have HR5:Hid (eE w5 hb 2 (cZ q λa=>dt D.log (a:Int))):=η (HR.o.of_block ZR.o);have hnN:aA D.log<=aA D5.log:=by obtain⟨t,et,_⟩:=Ct.o.lg;rw [et,cN];omega
   have Tw:Hid (D5.log.take (aA D.log)=D.log):=η (by obtain⟨t,et,_⟩:=Ct.o.lg;rw [et];exact List.take_left' rfl);have vD:=η GK.o.inv.aFk;have jr:=vD.o.2.2.2;obtain⟨n,hn⟩:∃n,n=aA D.log:=⟨_,rfl⟩;rw [<-hn] at Tw hnN ⊢;have a0A:Hid (eE w5 hb 2 (cZ q λa=>dt (D5.log.take n) (a:Int))):=η (by rw [Tw.o];exact HR5.o);clear HI HR ZR Ct HR5 Tw hn;have aGe:=GK.o.hb;go_wp2_with fail
   refine(aHc GK.o (by omega)).mono ?_;rintro e w6 ⟨v6,rfl,sB,iQ⟩;obtain⟨A6,k6,rfl⟩:=bL sB;have uL:=η (GK.o.below iQ);have U2:=η (a0A.o.below aGe iQ);have GX:=η (aW.cB sB);have LH:Hid (∀b o,A6=aC ⟨b,o,aB⟩->¬b=hb):=η (λb o e=>by have:=eU sB b (by rw [e];rfl);omega);have Qp:=uL.o.hb;clear sB iQ GK a0A;obtain⟨c0,c1,c2,c3,c4,c5,c6,c7,jL⟩:=eJ.o _ uL.o.bl;have uH:=η c1;have a4F:=jL;clear c0 c1 c2 c3 c4 c5 c6 c7 jL;go_wp2_with fail
   go_loopw [8,11] (λt _ wr=>∃j:Nat,n<=j/\j<=aA D5.log/\t=ν (j:Int)/\Hid (bA (λb=>b=hb) w6 wr)/\Hid (eE wr hb 2 (cZ q λa=>dt (D5.log.take j) (a:Int)))) (λt _ _=>aA D5.log-(ag t).toNat)
   case atStart=>exact⟨n,aZ _,hnN,rfl,η (bA.refl _ _),U2⟩
   case round=>
    obtain⟨j,hnj,fJ,rfl,HU,HR⟩:=hrel;by_cases Wk:j<aA D5.log
    ·obtain⟨be,oe,kJ,kY,e0,e1,e2,e3,e4⟩:=aFQ GX.o Wk;have KR:=LH.o be oe kJ;subst kJ;rw [<-HU.o.cell _ kY KR] at e0 e1 e2 e3 e4;have c1:=uH.o;rw [<-HU.o.cell _ a4F dJ.o] at c1;have uf:be<wr.heap.size:=cL kY HU.o.size;have aMk:bx<wr.heap.size:=cL a4F HU.o.size;have Dj:hb<wr.heap.size:=cL Qp HU.o.size;have AE:(0:Int)<=(j:Int):=by omega
     have hjb:(j:Int)<(aA D5.log:Int):=by omega
     have De:=vD.o.1 j Wk;have jU:=η (aFl Wk);have mR:=η (vD.o.2.1 (j+1));have iF:=η (vD.o.2.1 j);obtain⟨ev,a4P⟩:∃ev,ev=D5.log[j]:=⟨_,rfl⟩;rw [<-a4P] at e0 e1 e2 e3 e4 De jU;clear a4P;obtain⟨ek,em,ea,en,eo⟩:=ev;unfold I5 at De;simp only at e0 e1 e2 e3 e4 De;rw [uL.o.ss] at De;obtain⟨ha0,ha1,aGb⟩:=De;obtain⟨an,rfl⟩:∃an:Nat,ea=(an:Int):=⟨ea.toNat,by omega⟩;have Qa:an<q:=by have:=HQ.o;omega
     have aMc:(an:Int)<(q:Int):=by omega
     have Fb:aA (cZ q λa=>dt (D5.log.take j) (a:Int))=q:=F2 _ _;have r0:wr.cell? ⟨hb,an,aB⟩=aC (ν (dt (D5.log.take j) (an:Int))):=by
      have:=HR.o.cell (i:=an) (by rw [Fb];exact Qa)
      rwa [Ez] at this
     have KV:dt (D5.log.take (j+1)) (an:Int)=dt (D5.log.take j) (an:Int)+kW ⟨ek,em,(an:Int),en,eo⟩:=by rw [jU.o,ifP rfl]
     have HFE:=η KV;have Cj:Hid ((cZ q λa=>dt (D5.log.take j) (a:Int)).set an (dt (D5.log.take (j+1)) (an:Int))=cZ q λa=>dt (D5.log.take (j+1)) (a:Int)):=η (aFo (n:=q) (f:=λa=>dt (D5.log.take j) (a:Int)) (g:=λa=>dt (D5.log.take (j+1)) (a:Int)) (i:=an) (λa h=>by show dt _ _=dt _ _;rw [jU.o,ifN (by simp only;omega)];omega));have gR:=iF.o (an:Int);have lX:=mR.o (an:Int);have JH:=η (λW=>aFm ek em (an:Int) en eo W (by unfold aL;omega));have hv0:¬dt (D5.log.take (j+1)) (an:Int)<0:=by omega
     have lV:Hid (fV (dt (D5.log.take j) (an:Int)+kW ⟨ek,em,(an:Int),en,eo⟩)=dt (D5.log.take (j+1)) (an:Int)):=η (by rw [<-KV];exact wrap64_in (by unfold aL;omega));have yP:Hid (aF.wrap (dt (D5.log.take j) (an:Int)+kW ⟨ek,em,(an:Int),en,eo⟩)=dt (D5.log.take (j+1)) (an:Int)):=η (by rw [<-KV];exact uy (by unfold aL;omega));generalize kW ⟨ek,em,(an:Int),en,eo⟩=fe at*;obtain⟨u,hu⟩:∃u,u=dt (D5.log.take j) (an:Int):=⟨_,rfl⟩;obtain⟨v,hv⟩:∃v,v=dt (D5.log.take (j+1)) (an:Int):=⟨_,rfl⟩;rw [<-hv] at Cj hv0 lV yP;rw [<-hu] at r0 lV yP;have qG:=η hv;clear hu hv;clear KV HFE jU mR iF gR lX Fb;have aGE:¬(an:Int)<0:=by omega
     have aMa:¬(aA x.ss:Int)<(an:Int):=by omega
     have key:¬en<1\/(en<1/\ek=4)\/(en<1/\ek=8):=by omega
     clear aGb;rcases key with hn|⟨hn,rfl⟩|⟨hn,rfl⟩
     ·go_upto_region 18 with (fail)
      refine CM (S:=λW=>W.cell? ⟨be,oe+j*5,aB⟩=aC (ν ek)/\W.cell? ⟨be,oe+j*5+1,aB⟩=aC (ν em)/\W.cell? ⟨be,oe+j*5+2,aB⟩=aC (ν (an:Int))/\W.cell? ⟨be,oe+j*5+3,aB⟩=aC (ν en)/\W.cell? ⟨be,oe+j*5+4,aB⟩=aC (ν eo)/\W.cell? ⟨hb,an,aB⟩=aC (ν u)) 13 (by kernel_rfl) ⟨e0,e1,e2,e3,e4,r0⟩ (λhHeld=> ?_);have bJ:Hid (∀W,β wr W->W.cell? ⟨be,oe+j*5,aB⟩=aC (ν ek)/\W.cell? ⟨be,oe+j*5+1,aB⟩=aC (ν em)/\W.cell? ⟨be,oe+j*5+2,aB⟩=aC (ν (an:Int))/\W.cell? ⟨be,oe+j*5+3,aB⟩=aC (ν en)/\W.cell? ⟨be,oe+j*5+4,aB⟩=aC (ν eo)/\W.cell? ⟨hb,an,aB⟩=aC (ν u)):=η (λW hW=>⟨(hW.cell (p:=⟨be,_,aB⟩) uf).trans e0,(hW.cell (p:=⟨be,_,aB⟩) uf).trans e1,(hW.cell (p:=⟨be,_,aB⟩) uf).trans e2,(hW.cell (p:=⟨be,_,aB⟩) uf).trans e3,(hW.cell (p:=⟨be,_,aB⟩) uf).trans e4,(hW.cell (p:=⟨hb,_,aB⟩) Dj).trans r0⟩);have LP:Hid (β wr wr.drew):=η (aX _ _).drew;clear e0 e1 e2 e3 e4 r0 c1;generalize wr.drew=wd at*;refine cP (i:=0) (v:=aH (aC ⟨hb,0,aB⟩) q q) rfl (by kernel_rfl) (by kernel_rfl) (by kernel_rfl) (by kernel_rfl) (by kernel_rfl) (λ_ _ _ h=>h) (aS ⟨by rfl,λw' hSw=>by obtain⟨s0,s1,s2,s3,s4,s5⟩:=hSw;go_simp⟩) hHeld ?_;refine cP (i:=1) (v:=ν (an:Int)) rfl (by kernel_rfl) (by kernel_rfl) (by kernel_rfl) (by kernel_rfl) (by kernel_rfl) (λ_ _ _ h=>h) (aS ⟨by rfl,λw' hSw=>by obtain⟨s0,s1,s2,s3,s4,s5⟩:=hSw;go_simp⟩) hHeld ?_;refine cP (i:=2) (v:=aH (aC ⟨hb,0,aB⟩) q q) rfl (by kernel_rfl) (by kernel_rfl) (by kernel_rfl) (by kernel_rfl) (by kernel_rfl) (λ_ _ _ h=>h) (aS ⟨by rfl,λw' hSw=>by obtain⟨s0,s1,s2,s3,s4,s5⟩:=hSw;go_simp⟩) hHeld ?_;refine cP (i:=3) (v:=ν (an:Int)) rfl (by kernel_rfl) (by kernel_rfl) (by kernel_rfl) (by kernel_rfl) (by kernel_rfl) (λ_ _ _ h=>h) (aS ⟨by rfl,λw' hSw=>by obtain⟨s0,s1,s2,s3,s4,s5⟩:=hSw;go_simp⟩) hHeld ?_;refine cP (i:=4) (v:=bD (aC ⟨hb,an,aB⟩)) rfl (by kernel_rfl) (by kernel_rfl) (by kernel_rfl) (by kernel_rfl) (by kernel_rfl) (λ_ _ _ h=>h) (aS ⟨by rfl,λw' hSw=>by obtain⟨s0,s1,s2,s3,s4,s5⟩:=hSw;go_simp⟩) hHeld ?_;refine cP (i:=5) (v:=ν u) rfl (by kernel_rfl) (by kernel_rfl) (by kernel_rfl) (by kernel_rfl) (by kernel_rfl) (λ_ _ _ h=>h) (aS ⟨by rfl,λw' hSw=>by obtain⟨s0,s1,s2,s3,s4,s5⟩:=hSw;go_simp⟩) hHeld ?_;refine cP (i:=6) (v:=aH (aC ⟨be,oe,aB⟩) (aA D5.log) k6) rfl (by kernel_rfl) (by kernel_rfl) (by kernel_rfl) (by kernel_rfl) (by kernel_rfl) (λ_ _ _ h=>h) (aS ⟨by rfl,λw' hSw=>by obtain⟨s0,s1,s2,s3,s4,s5⟩:=hSw;go_simp⟩) hHeld ?_;refine cP (i:=7) (v:=ν (j:Int)) rfl (by kernel_rfl) (by kernel_rfl) (by kernel_rfl) (by kernel_rfl) (by kernel_rfl) (λ_ _ _ h=>h) (aS ⟨by rfl,λw' hSw=>by obtain⟨s0,s1,s2,s3,s4,s5⟩:=hSw;go_simp⟩) hHeld ?_;refine cP (i:=8) (v:=bD (aC ⟨be,oe+j*5,aB⟩)) rfl (by kernel_rfl) (by kernel_rfl) (by kernel_rfl) (by kernel_rfl) (by kernel_rfl) (λ_ _ _ h=>h) (aS ⟨by rfl,λw' hSw=>by obtain⟨s0,s1,s2,s3,s4,s5⟩:=hSw;go_simp⟩) hHeld ?_;refine cP (i:=9) (v:=bP #[ν ek,ν em,ν (an:Int),ν en,ν eo]) rfl (by kernel_rfl) (by kernel_rfl) (by kernel_rfl) (by kernel_rfl) (by kernel_rfl) (λ_ _ _ h=>h) (aS ⟨by rfl,λw' hSw=>by obtain⟨s0,s1,s2,s3,s4,s5⟩:=hSw;go_simp⟩) hHeld ?_;clear hHeld;refine iv (rs:= [10]) (by kernel_rfl) (by simp) ?_;refine cX.cons rfl (λK hK=> ?_) cX.nil;go_simp
      go_at_call 16
      refine(JH.o _).mono ?_;rintro e w9 ⟨rfl,ez⟩;have gL:=τ LP ez;clear ez;go_wp2_with fail
      refine hK.o _ _ (λ_=>bJ.o _ gL.o) (λ_=> ?_);clear hK K;refine iv (rs:= [11]) (by kernel_rfl) (by simp) ?_;refine cX.cons rfl (λK hK=> ?_) cX.nil;go_simp
      first|rw [yP.o]|rw [lV.o]
      refine hK.o _ _ (λ_=>bJ.o _ gL.o) (λ_=> ?_);clear hK K;refine iv (rs:= [12]) (by kernel_rfl) (by simp) ?_;refine cX.cons rfl (λK hK=> ?_) cX.nil;go_simp
      refine hK.o _ _ (λ_=>bJ.o _ gL.o) (λ_=> ?_);clear hK K;have qF:Hid (bA (λb=>b=hb) w6 (w9.setCell ⟨hb,an,aB⟩ (ν v))):=η ((HU.o.trans (bA.bY _ gL.o) (λ_ h=> .inl h)).setCell (p:=⟨hb,an,aB⟩) (.inl rfl) _);have Ea:Hid (eE (w9.setCell ⟨hb,an,aB⟩ (ν v)) hb 2 (cZ q λa=>dt (D5.log.take (j+1)) (a:Int))):=η (by rw [<-Cj.o];exact(HR.o.below Dj gL.o).set an v);have pO:w9.frozen? ⟨hb,an,aB⟩=aP:=(HR.o.below Dj gL.o).free an;have r9:=(Ea.o.cell (i:=an) (by rw [F2];exact Qa));rw [Ez,<-qG.o] at r9;refine iv (rs:= [13]) (by kernel_rfl) (by simp) ?_;refine cX.cons rfl (λK hK=> ?_) cX.nil;go_simp
      refine hK.o _ _ (λh=>absurd rfl h) (λ_=> ?_);clear hK K bJ pO;refine CL (by kernel_rfl) ?_ _;clear lV yP JH;generalize w9.setCell ⟨hb,an,aB⟩ (ν v)=wA at*;have a4S:hb<wA.heap.size:=cL Qp qF.o.size;go_wp2_with fail
      go_roundw
      case rel=>exact⟨j+1,by omega,by omega,by go_num,qF,Ea⟩
      case measure=>simp [ag];omega
     ·go_upto_region 18 with (fail)
      refine CM (S:=λW=>W.cell? ⟨be,oe+j*5,aB⟩=aC (ν 4)/\W.cell? ⟨be,oe+j*5+1,aB⟩=aC (ν em)/\W.cell? ⟨be,oe+j*5+2,aB⟩=aC (ν (an:Int))/\W.cell? ⟨be,oe+j*5+3,aB⟩=aC (ν en)/\W.cell? ⟨be,oe+j*5+4,aB⟩=aC (ν eo)/\W.cell? ⟨hb,an,aB⟩=aC (ν u)) 13 (by kernel_rfl) ⟨e0,e1,e2,e3,e4,r0⟩ (λhHeld=> ?_);have bJ:Hid (∀W,β wr W->W.cell? ⟨be,oe+j*5,aB⟩=aC (ν 4)/\W.cell? ⟨be,oe+j*5+1,aB⟩=aC (ν em)/\W.cell? ⟨be,oe+j*5+2,aB⟩=aC (ν (an:Int))/\W.cell? ⟨be,oe+j*5+3,aB⟩=aC (ν en)/\W.cell? ⟨be,oe+j*5+4,aB⟩=aC (ν eo)/\W.cell? ⟨hb,an,aB⟩=aC (ν u)):=η (λW hW=>⟨(hW.cell (p:=⟨be,_,aB⟩) uf).trans e0,(hW.cell (p:=⟨be,_,aB⟩) uf).trans e1,(hW.cell (p:=⟨be,_,aB⟩) uf).trans e2,(hW.cell (p:=⟨be,_,aB⟩) uf).trans e3,(hW.cell (p:=⟨be,_,aB⟩) uf).trans e4,(hW.cell (p:=⟨hb,_,aB⟩) Dj).trans r0⟩);have LP:Hid (β wr wr.drew):=η (aX _ _).drew;clear e0 e1 e2 e3 e4 r0 c1;generalize wr.drew=wd at*;refine cP (i:=0) (v:=aH (aC ⟨hb,0,aB⟩) q q) rfl (by kernel_rfl) (by kernel_rfl) (by kernel_rfl) (by kernel_rfl) (by kernel_rfl) (λ_ _ _ h=>h) (aS ⟨by rfl,λw' hSw=>by obtain⟨s0,s1,s2,s3,s4,s5⟩:=hSw;go_simp⟩) hHeld ?_;refine cP (i:=1) (v:=ν (an:Int)) rfl (by kernel_rfl) (by kernel_rfl) (by kernel_rfl) (by kernel_rfl) (by kernel_rfl) (λ_ _ _ h=>h) (aS ⟨by rfl,λw' hSw=>by obtain⟨s0,s1,s2,s3,s4,s5⟩:=hSw;go_simp⟩) hHeld ?_;refine cP (i:=2) (v:=aH (aC ⟨hb,0,aB⟩) q q) rfl (by kernel_rfl) (by kernel_rfl) (by kernel_rfl) (by kernel_rfl) (by kernel_rfl) (λ_ _ _ h=>h) (aS ⟨by rfl,λw' hSw=>by obtain⟨s0,s1,s2,s3,s4,s5⟩:=hSw;go_simp⟩) hHeld ?_;refine cP (i:=3) (v:=ν (an:Int)) rfl (by kernel_rfl) (by kernel_rfl) (by kernel_rfl) (by kernel_rfl) (by kernel_rfl) (λ_ _ _ h=>h) (aS ⟨by rfl,λw' hSw=>by obtain⟨s0,s1,s2,s3,s4,s5⟩:=hSw;go_simp⟩) hHeld ?_;refine cP (i:=4) (v:=bD (aC ⟨hb,an,aB⟩)) rfl (by kernel_rfl) (by kernel_rfl) (by kernel_rfl) (by kernel_rfl) (by kernel_rfl) (λ_ _ _ h=>h) (aS ⟨by rfl,λw' hSw=>by obtain⟨s0,s1,s2,s3,s4,s5⟩:=hSw;go_simp⟩) hHeld ?_;refine cP (i:=5) (v:=ν u) rfl (by kernel_rfl) (by kernel_rfl) (by kernel_rfl) (by kernel_rfl) (by kernel_rfl) (λ_ _ _ h=>h) (aS ⟨by rfl,λw' hSw=>by obtain⟨s0,s1,s2,s3,s4,s5⟩:=hSw;go_simp⟩) hHeld ?_;refine cP (i:=6) (v:=aH (aC ⟨be,oe,aB⟩) (aA D5.log) k6) rfl (by kernel_rfl) (by kernel_rfl) (by kernel_rfl) (by kernel_rfl) (by kernel_rfl) (λ_ _ _ h=>h) (aS ⟨by rfl,λw' hSw=>by obtain⟨s0,s1,s2,s3,s4,s5⟩:=hSw;go_simp⟩) hHeld ?_;refine cP (i:=7) (v:=ν (j:Int)) rfl (by kernel_rfl) (by kernel_rfl) (by kernel_rfl) (by kernel_rfl) (by kernel_rfl) (λ_ _ _ h=>h) (aS ⟨by rfl,λw' hSw=>by obtain⟨s0,s1,s2,s3,s4,s5⟩:=hSw;go_simp⟩) hHeld ?_;refine cP (i:=8) (v:=bD (aC ⟨be,oe+j*5,aB⟩)) rfl (by kernel_rfl) (by kernel_rfl) (by kernel_rfl) (by kernel_rfl) (by kernel_rfl) (λ_ _ _ h=>h) (aS ⟨by rfl,λw' hSw=>by obtain⟨s0,s1,s2,s3,s4,s5⟩:=hSw;go_simp⟩) hHeld ?_;refine cP (i:=9) (v:=bP #[ν 4,ν em,ν (an:Int),ν en,ν eo]) rfl (by kernel_rfl) (by kernel_rfl) (by kernel_rfl) (by kernel_rfl) (by kernel_rfl) (λ_ _ _ h=>h) (aS ⟨by rfl,λw' hSw=>by obtain⟨s0,s1,s2,s3,s4,s5⟩:=hSw;go_simp⟩) hHeld ?_;clear hHeld;refine iv (rs:= [10]) (by kernel_rfl) (by simp) ?_;refine cX.cons rfl (λK hK=> ?_) cX.nil;go_simp
      go_at_call 16
      refine(JH.o _).mono ?_;rintro e w9 ⟨rfl,ez⟩;have gL:=τ LP ez;clear ez;go_wp2_with fail
      refine hK.o _ _ (λ_=>bJ.o _ gL.o) (λ_=> ?_);clear hK K;refine iv (rs:= [11]) (by kernel_rfl) (by simp) ?_;refine cX.cons rfl (λK hK=> ?_) cX.nil;go_simp
      first|rw [yP.o]|rw [lV.o]
      refine hK.o _ _ (λ_=>bJ.o _ gL.o) (λ_=> ?_);clear hK K;refine iv (rs:= [12]) (by kernel_rfl) (by simp) ?_;refine cX.cons rfl (λK hK=> ?_) cX.nil;go_simp
      refine hK.o _ _ (λ_=>bJ.o _ gL.o) (λ_=> ?_);clear hK K;have qF:Hid (bA (λb=>b=hb) w6 (w9.setCell ⟨hb,an,aB⟩ (ν v))):=η ((HU.o.trans (bA.bY _ gL.o) (λ_ h=> .inl h)).setCell (p:=⟨hb,an,aB⟩) (.inl rfl) _);have Ea:Hid (eE (w9.setCell ⟨hb,an,aB⟩ (ν v)) hb 2 (cZ q λa=>dt (D5.log.take (j+1)) (a:Int))):=η (by rw [<-Cj.o];exact(HR.o.below Dj gL.o).set an v);have pO:w9.frozen? ⟨hb,an,aB⟩=aP:=(HR.o.below Dj gL.o).free an;have r9:=(Ea.o.cell (i:=an) (by rw [F2];exact Qa));rw [Ez,<-qG.o] at r9;refine iv (rs:= [13]) (by kernel_rfl) (by simp) ?_;refine cX.cons rfl (λK hK=> ?_) cX.nil;go_simp
      refine hK.o _ _ (λh=>absurd rfl h) (λ_=> ?_);clear hK K bJ pO;refine CL (by kernel_rfl) ?_ _;clear lV yP JH;generalize w9.setCell ⟨hb,an,aB⟩ (ν v)=wA at*;have a4S:hb<wA.heap.size:=cL Qp qF.o.size;go_wp2_with fail
      go_roundw
      case rel=>exact⟨j+1,by omega,by omega,by go_num,qF,Ea⟩
      case measure=>simp [ag];omega
     go_upto_region 18 with (fail)
     refine CM (S:=λW=>W.cell? ⟨be,oe+j*5,aB⟩=aC (ν 8)/\W.cell? ⟨be,oe+j*5+1,aB⟩=aC (ν em)/\W.cell? ⟨be,oe+j*5+2,aB⟩=aC (ν (an:Int))/\W.cell? ⟨be,oe+j*5+3,aB⟩=aC (ν en)/\W.cell? ⟨be,oe+j*5+4,aB⟩=aC (ν eo)/\W.cell? ⟨hb,an,aB⟩=aC (ν u)) 13 (by kernel_rfl) ⟨e0,e1,e2,e3,e4,r0⟩ (λhHeld=> ?_);have bJ:Hid (∀W,β wr W->W.cell? ⟨be,oe+j*5,aB⟩=aC (ν 8)/\W.cell? ⟨be,oe+j*5+1,aB⟩=aC (ν em)/\W.cell? ⟨be,oe+j*5+2,aB⟩=aC (ν (an:Int))/\W.cell? ⟨be,oe+j*5+3,aB⟩=aC (ν en)/\W.cell? ⟨be,oe+j*5+4,aB⟩=aC (ν eo)/\W.cell? ⟨hb,an,aB⟩=aC (ν u)):=η (λW hW=>⟨(hW.cell (p:=⟨be,_,aB⟩) uf).trans e0,(hW.cell (p:=⟨be,_,aB⟩) uf).trans e1,(hW.cell (p:=⟨be,_,aB⟩) uf).trans e2,(hW.cell (p:=⟨be,_,aB⟩) uf).trans e3,(hW.cell (p:=⟨be,_,aB⟩) uf).trans e4,(hW.cell (p:=⟨hb,_,aB⟩) Dj).trans r0⟩);have LP:Hid (β wr wr.drew):=η (aX _ _).drew;clear e0 e1 e2 e3 e4 r0 c1;generalize wr.drew=wd at*;refine cP (i:=0) (v:=aH (aC ⟨hb,0,aB⟩) q q) rfl (by kernel_rfl) (by kernel_rfl) (by kernel_rfl) (by kernel_rfl) (by kernel_rfl) (λ_ _ _ h=>h) (aS ⟨by rfl,λw' hSw=>by obtain⟨s0,s1,s2,s3,s4,s5⟩:=hSw;go_simp⟩) hHeld ?_;refine cP (i:=1) (v:=ν (an:Int)) rfl (by kernel_rfl) (by kernel_rfl) (by kernel_rfl) (by kernel_rfl) (by kernel_rfl) (λ_ _ _ h=>h) (aS ⟨by rfl,λw' hSw=>by obtain⟨s0,s1,s2,s3,s4,s5⟩:=hSw;go_simp⟩) hHeld ?_;refine cP (i:=2) (v:=aH (aC ⟨hb,0,aB⟩) q q) rfl (by kernel_rfl) (by kernel_rfl) (by kernel_rfl) (by kernel_rfl) (by kernel_rfl) (λ_ _ _ h=>h) (aS ⟨by rfl,λw' hSw=>by obtain⟨s0,s1,s2,s3,s4,s5⟩:=hSw;go_simp⟩) hHeld ?_;refine cP (i:=3) (v:=ν (an:Int)) rfl (by kernel_rfl) (by kernel_rfl) (by kernel_rfl) (by kernel_rfl) (by kernel_rfl) (λ_ _ _ h=>h) (aS ⟨by rfl,λw' hSw=>by obtain⟨s0,s1,s2,s3,s4,s5⟩:=hSw;go_simp⟩) hHeld ?_;refine cP (i:=4) (v:=bD (aC ⟨hb,an,aB⟩)) rfl (by kernel_rfl) (by kernel_rfl) (by kernel_rfl) (by kernel_rfl) (by kernel_rfl) (λ_ _ _ h=>h) (aS ⟨by rfl,λw' hSw=>by obtain⟨s0,s1,s2,s3,s4,s5⟩:=hSw;go_simp⟩) hHeld ?_;refine cP (i:=5) (v:=ν u) rfl (by kernel_rfl) (by kernel_rfl) (by kernel_rfl) (by kernel_rfl) (by kernel_rfl) (λ_ _ _ h=>h) (aS ⟨by rfl,λw' hSw=>by obtain⟨s0,s1,s2,s3,s4,s5⟩:=hSw;go_simp⟩) hHeld ?_;refine cP (i:=6) (v:=aH (aC ⟨be,oe,aB⟩) (aA D5.log) k6) rfl (by kernel_rfl) (by kernel_rfl) (by kernel_rfl) (by kernel_rfl) (by kernel_rfl) (λ_ _ _ h=>h) (aS ⟨by rfl,λw' hSw=>by obtain⟨s0,s1,s2,s3,s4,s5⟩:=hSw;go_simp⟩) hHeld ?_;refine cP (i:=7) (v:=ν (j:Int)) rfl (by kernel_rfl) (by kernel_rfl) (by kernel_rfl) (by kernel_rfl) (by kernel_rfl) (λ_ _ _ h=>h) (aS ⟨by rfl,λw' hSw=>by obtain⟨s0,s1,s2,s3,s4,s5⟩:=hSw;go_simp⟩) hHeld ?_;refine cP (i:=8) (v:=bD (aC ⟨be,oe+j*5,aB⟩)) rfl (by kernel_rfl) (by kernel_rfl) (by kernel_rfl) (by kernel_rfl) (by kernel_rfl) (λ_ _ _ h=>h) (aS ⟨by rfl,λw' hSw=>by obtain⟨s0,s1,s2,s3,s4,s5⟩:=hSw;go_simp⟩) hHeld ?_;refine cP (i:=9) (v:=bP #[ν 8,ν em,ν (an:Int),ν en,ν eo]) rfl (by kernel_rfl) (by kernel_rfl) (by kernel_rfl) (by kernel_rfl) (by kernel_rfl) (λ_ _ _ h=>h) (aS ⟨by rfl,λw' hSw=>by obtain⟨s0,s1,s2,s3,s4,s5⟩:=hSw;go_simp⟩) hHeld ?_;clear hHeld;refine iv (rs:= [10]) (by kernel_rfl) (by simp) ?_;refine cX.cons rfl (λK hK=> ?_) cX.nil;go_simp
     go_at_call 16
     refine(JH.o _).mono ?_;rintro e w9 ⟨rfl,ez⟩;have gL:=τ LP ez;clear ez;go_wp2_with fail
     refine hK.o _ _ (λ_=>bJ.o _ gL.o) (λ_=> ?_);clear hK K;refine iv (rs:= [11]) (by kernel_rfl) (by simp) ?_;refine cX.cons rfl (λK hK=> ?_) cX.nil;go_simp
     first|rw [yP.o]|rw [lV.o]
     refine hK.o _ _ (λ_=>bJ.o _ gL.o) (λ_=> ?_);clear hK K;refine iv (rs:= [12]) (by kernel_rfl) (by simp) ?_;refine cX.cons rfl (λK hK=> ?_) cX.nil;go_simp
     refine hK.o _ _ (λ_=>bJ.o _ gL.o) (λ_=> ?_);clear hK K;have qF:Hid (bA (λb=>b=hb) w6 (w9.setCell ⟨hb,an,aB⟩ (ν v))):=η ((HU.o.trans (bA.bY _ gL.o) (λ_ h=> .inl h)).setCell (p:=⟨hb,an,aB⟩) (.inl rfl) _);have Ea:Hid (eE (w9.setCell ⟨hb,an,aB⟩ (ν v)) hb 2 (cZ q λa=>dt (D5.log.take (j+1)) (a:Int))):=η (by rw [<-Cj.o];exact(HR.o.below Dj gL.o).set an v);have pO:w9.frozen? ⟨hb,an,aB⟩=aP:=(HR.o.below Dj gL.o).free an;have r9:=(Ea.o.cell (i:=an) (by rw [F2];exact Qa));rw [Ez,<-qG.o] at r9;refine iv (rs:= [13]) (by kernel_rfl) (by simp) ?_;refine cX.cons rfl (λK hK=> ?_) cX.nil;go_simp
     refine hK.o _ _ (λh=>absurd rfl h) (λ_=> ?_);clear hK K bJ pO;refine CL (by kernel_rfl) ?_ _;clear lV yP JH;generalize w9.setCell ⟨hb,an,aB⟩ (ν v)=wA at*;have a4S:hb<wA.heap.size:=cL Qp qF.o.size;go_wp2_with fail
     go_roundw
     case rel=>exact⟨j+1,by omega,by omega,by go_num,qF,Ea⟩
     case measure=>simp [ag];omega
    obtain rfl:j=aA D5.log:=by omega
    rw [cU] at HR;have EP:=η (uL.o.house hb3 U2.o HU.o);have Z1:=η (aHd EP.o hg2);clear uL U2 HU GX LH;go_wp2_with fail
    refine Z1.o.mono ?_;rintro e w7 ⟨rfl,ft⟩;have a4T:=EP.o.hb;have GL:=η (EP.o.below ft);have U3:=η (HR.o.below a4T ft);have HZ:Hid (decide (D5.st=0)=aO->∀a,B D5 1 0 a=0):=η (λh a=>GL.o.inv.fair.2.1 (of_decide_eq_true h) 0 a);have rM:Hid (∀a,B D5 1 0 a=dt D5.log a):=η vD.o.2.2.1;have WQ:=GL.o.hb;clear ft Z1 EP HR a4T;generalize decide (D5.st=0)=r at*;go_wp2_with fail
    go_loopw [13,14,15] (λa _ _ wr=>∃m:Nat,m<=aA x.ss+1/\a=ν (m:Int)/\Hid (β w7 wr)) (λa _ _ _=>aA x.ss+1-(ag a).toNat)
    case atStart=>exact⟨0,bM _,rfl,η (aX _ _)⟩
    case round=>
     obtain⟨m,hm,rfl,HB⟩:=hrel;have JY:=η (GL.o.below HB.o);obtain⟨c0,c1,c2,c3,c4,c5,c6,c7,jL⟩:=eJ.o _ JY.o.bl;have Qu:aA x.ss<=20:=l2;by_cases hlm:m<aA x.ss+1
     ·have aMv:(m:Int)<=(aA x.ss:Int):=by omega
      have hmq:m<q:=by have:=HQ.o;omega
      have aN2:(m:Int)<(q:Int):=by omega
      have CB:=η (aHb JY.o 1 0 (m:Int) (by decide) (by decide));have hpl:nN (plcA (aA D5.x.ms) (aA D5.x.ss+1) 1 0 (m:Int))=0:=by obtain⟨n,hn⟩:=L3 (M:=aA D5.x.ms) (A:=aA D5.x.ss+1) (a:=(m:Int)) (by omega) (by rw [JY.o.ss];omega);rw [hn];rfl
      rw [hpl,rM.o] at CB;have Cx:=η (λh=>(rM.o (m:Int)).symm.trans (HZ.o h (m:Int)));have yB:Hid (∀W,β w7 W->W.cell? ⟨hb,m,aB⟩=aC (ν (dt D5.log (m:Int)))):=η (λW hW=>by
       have:=(U3.o.below WQ hW).cell (i:=m) (by rw [F2];exact hmq)
       rwa [Ez] at this)
      generalize dt D5.log (m:Int)=v at*;clear hpl;go_wp2_with fail
      refine CB.o.mono ?_;rintro e w8 ⟨rfl,kK⟩;have mN:=τ HB kK;have r8:=yB.o w8 mN.o;have aMs:hb<w8.heap.size:=cL WQ mN.o.size;clear kK CB JY HB yB c0 c1 c2 c3 c4 c5 c6 c7 jL;cases r
      ·go_wp2_with fail
       go_roundw
       case rel=>exact⟨m+1,by omega,by go_num,mN⟩
       case measure=>simp [ag];omega
      have hv:=Cx.o rfl;subst hv;go_wp2_with fail
      go_roundw
      case rel=>exact⟨m+1,by omega,by go_num,mN⟩
      case measure=>simp [ag];omega
     obtain rfl:m=aA x.ss+1:=by omega
     have GM:Hid (pF w0 db hb x (1700*(k+1)) D5 wr):=η (by have:=JY.o;rwa [show 1700*(k+1)=1700*k+1700 by omega]);have HRN:=η (U3.o.below WQ HB.o);clear JY HB U3 GL HZ rM vD
     push_cast
     go_wp2_with fail
     go_roundw
     case rel=>exact⟨k+1,D5,by omega,by go_num,rfl,GM,HRN⟩
     case measure=>simp [ag];omega
  obtain rfl:k=aA l:=by omega
  have wT:=η (cC.o _ HI.o.bl);go_wp2_with fail
  refine(VB _).mono ?_;rintro e w9 ⟨rfl,hb⟩;have gL:Hid (β w w9):=τ wT hb;clear hb;go_wp2_with fail
  go_ret;exact⟨rfl,gL.o⟩
end Go.Proofs.YtdokipdchlcmeaaGreat
namespace Go.Proofs.YtdokipdchlcmeaaGreat.flows
open Go.Proofs.Tryz
open Go.ChangeShapes Go.WideShapes Go.ChangeAt Go.RowKit
theorem contract(H:Type)(enc:bZ×aN->H)(W:aJ)(base:Nat)(args:Array aN)(ds gs:List (DataW H))(before:List MemPlace)
 (hval:∀(j:Nat) t v,El.params[j]? =aC t->args[j]? =aC v->Value.okWide aM W .any base t v)
 (hW:DataW.Whole enc aM El.params.toList Rows.cycleFlowsSpec.vars aP W args.toList ds gs before):
 aQ aM 4 args W λe W'=>∃v,e=aT v/\Rows.cycleFlowsSpec.post enc aM El aP aO aP aP W args v W':=by
 have F9:=hW;obtain⟨p,q,hA,hV,rfl,pO,vw⟩:=hW;rw [params4] at hA hval;obtain⟨v0,vs0,d0,ds0,p0,q0,aMd,rfl,rfl,h0,r0⟩:=trodAll_cons hA;obtain⟨v1,vs1,d1,ds1,p1,q1,rfl,rfl,rfl,h1,r1⟩:=trodAll_cons r0;obtain⟨rfl,rfl,rfl⟩:=trodAll_nil r1;obtain rfl:args= #[v0,v1]:=by cases args;simp_all
 obtain⟨x0,rfl,hC0,Qt,hs0,Kj⟩:=aIn (hval 0 _ v0 rfl rfl) h0;obtain⟨a1,n1,k1,rfl⟩:=okWide_slice underlying27 (hval 1 _ v1 rfl rfl);obtain⟨A1,c1,z1,e1,oO,hc1,Db,hz1⟩:=aIm (aJy rfl h1);rw [e1] at F9 ⊢;refine uD (aFn x0 z1 A1 c1 W hC0 Qt hs0 Kj (bz oO hc1) (λy hy=>⟨(Db y hy).2.2.1,(Db y hy).2.2.2⟩) hz1 (λy hy=>⟨(Db y hy).1,(Db y hy).2.1⟩)) λe W' ⟨he,xK⟩=> ?_
 exact⟨_,he,aHf XV (by kernel_rfl) BQ (by kernel_rfl) rfl F9 (λEu hd=>by
  have Dd:aA Eu=2:=hd
  match Eu,Dd with
  | [_,_],_=>rfl) xK⟩
theorem lifted(os:Os)(started:os.Started)(H:Type)(enc:bZ×aN->H):
 ReturnsInHanded {} a0X os 4 .any (Rows.cycleFlowsSpec.pre6 enc aM El Rows.cycleFlowsRow.domain aP) (Rows.cycleFlowsSpec.post enc aM El aP aO aP aP):=by
 refine returnsInHanded_of_change (C:=a0X) aJF started (by kernel_rfl) PW
  (ChangeSpec.witness6 (enc:=enc) (C:=a0X) aP ⟨#[], #[(bP #[aH aB 0 0,aH aB 0 0,aH aB 0 0,aG aF 0,aG aF 0,aG aF 0,aG aF 0,aG aF 0]:aN),aH aB 0 0],[]⟩ 8 (by kernel_rfl) (by kernel_rfl) (by kernel_rfl) (by kernel_rfl)) ?_
 intro W base args ds gs before hval hW _ _;exact contract H enc W base args ds gs before hval hW
theorem aCp {a b:Bool}(ha:a=aO)(hb:b=aO):(a&&b)=aO:=by rw [ha,hb];rfl
theorem facts:joinedFacts aM 4 El Rows.cycleFlowsSpec Rows.cycleFlowsRow=aO:=by
 unfold joinedFacts;repeat' with_reducible refine aCp ?_ ?_
 all_goals (as_aux_lemma=>kernel_rfl)
theorem named:aM.funcNamed Rows.cycleFlowsRow.func=aC 4:=by kernel_rfl
theorem inst:El.isInstance aM Rows.cycleFlowsRow.origin Rows.cycleFlowsRow.targs:=of_decide_eq_true (by kernel_rfl)
theorem wrap:El.isWrapper aM Rows.cycleFlowsRow.wrapper Rows.cycleFlowsRow.mainSum:=by unfold Func.isWrapper;first|(rw [ifP (by decide+kernel)];kernel_rfl)|(rw [ifN (by decide+kernel)];exact⟨rfl,rfl⟩)
theorem said:Rows.CycleFlowsSaid:=
 OpenClaim.holds_of_wide 4 El rfl rfl rfl rfl rfl rfl rfl ⟨rfl,rfl,rfl,rfl,rfl⟩ rfl rfl rfl rfl rfl named PW facts
  inst wrap (λos started H enc _=>lifted os started H enc)
end Go.Proofs.YtdokipdchlcmeaaGreat.flows
