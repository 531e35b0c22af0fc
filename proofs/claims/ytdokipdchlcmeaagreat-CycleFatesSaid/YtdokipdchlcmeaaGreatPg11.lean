/-
  PROVED: complinelaw30.CycleFates returns true for every input, its arguments read afterwards as before. No conditions.
  Several texts in one (printed by pack.py).
-/
import Derived.Test.YtdokipdchlcmeaaGreatPg10
import Derived.Deep.DeepCutAuto
set_option linter.all false
set_option maxRecDepth 100000
set_option maxHeartbeats 12800000
open And renaming intro→kT
open Array renaming getElem?_eq_some_iff→fW
open Bool renaming true→aO,false→aP,and_eq_true→jb
open Classical renaming skolem→Yn
open Go renaming World→aJ,Value→aN,Calls→aQ,Addr→aj,maxLen→bM,TypeId→bY,heap_alloc_new→cO,info_parts→dL,Ending→dU,wpList_append_own→j9
open Go.Calls renaming mono→tY,quiet_of_same→Iz
open Go.DataW renaming trod_struct→Yq,trod→a8f
open Go.Ending renaming returned→aT
open Go.IntKind renaming i64→aF,bits→a0C
open Go.Obj renaming cells→aK
open Go.Proofs renaming intOf→ag
open Go.Proofs.Tryz renaming prog→aM,underlying39→sZ,underlying4→BI,f5→EX,func5→PD,checked→a0U,func17→a0a,func23→a0g,ntmps17→a0u,ntmps23→a1A,ntmps5→a1F,ntmps8→aBw,underlying69→aCC
open Go.RowKit renaming Below→aa,wrap64→fS
open Go.RowKit.Below renaming refl→aX
open Go.Value renaming int→aG,slice→aH,tuple→bB,pointer→bF,bool→bJ,agg→bU
open Go.World renaming ownsRow_nil→gC,cells?_some→aCI
open Int renaming le_refl→dJ
open List renaming length→aA,getElem_mem→cK,length_append→cN,take_length→cT,range→dQ,mem_map→dW,mem_cons_of_mem→dh,mem_cons→fC,take_succ_eq_append_getElem→fE,mem_append→gJ,replicate→gP,getElem?_eq_getElem→iD,any_eq_true→jv,mem_range→nP,flatMap_cons→wZ,getElem?_eq_some_iff→zP,length_replicate→Cl,all_eq_false→JZ,drop_eq_getElem_cons→Ja,map_congr_left→Jb,flatMap_def→U9,flatMap_map→a9t,mem_replicate→aA1
open List.Pairwise renaming nil→U5
open Nat renaming le_refl→aZ,zero_le→bL,le_trans→bz,lt_of_lt_of_le→cP
open Option renaming none→aB,some→aC
namespace Go.Proofs.YtdokipdchlcmeaaGreat
open Go.Proofs.Tryz Go.RowKit
theorem s6(n a b:Int)(w:aJ):aQ aM 23 #[aG aF n,aG aF a,aG aF b] w λe w'=>e=aT (bJ (bg n a b))/\w=w':=by
 have HB:=η (show bg n a b=(decide (a<=n)&&decide (n<=b)) from rfl);by_cases h1:a<=n
 ·by_cases h2:n<=b
  ·go_enter a0g,a1A
   go_wp2
   go_ret;exact⟨fQ (by rw [HB.o];simp [h1,h2]),rfl⟩
  go_enter a0g,a1A
  go_wp2
  go_ret;exact⟨fQ (by rw [HB.o,decide_eq_false (show¬n<=b by omega)];simp),rfl⟩
 go_enter a0g,a1A
 go_wp2
 go_ret;exact⟨fQ (by rw [HB.o,decide_eq_false (show¬a<=n by omega)];simp),rfl⟩
theorem qz {a b:ByteArray}(h:a=b):aT (.string a)=aT (.string b):=by rw [h]
theorem NA {n a b:Int} {v:Bool}(h:bg n a b=v)(w:aJ):aQ aM 23 #[aG aF n,aG aF a,aG aF b] w λe w'=>e=aT (bJ v)/\w'=w:=by subst h;exact(s6 n a b w).mono λ_ _ h=>⟨h.1,h.2.symm⟩
theorem Xs:∀(l m:List Int) (p:Int),risesB p (l++m)=(risesB p l&&risesB (jW p l) m)
 | [],m,p=>by simp [risesB,jW]
 |a::l,m,p=>by rw [List.cons_append];simp only [risesB,jW];rw [Xs l m a,Bool.and_assoc]
theorem XF:∀(l m:List Int) (p:Int),jW p (l++m)=jW (jW p l) m
 | [],m,p=>rfl
 |a::l,m,p=>by rw [List.cons_append];simp only [jW];rw [XF l m a]
theorem a5H:∀(l:List Int) (p:Int),risesB p l=aO->p<=jW p l
 | [],p,_=>dJ p
 |a::l,p,h=>by simp only [risesB,jb,decide_eq_true_eq] at h;have:=a5H l a h.2;simp only [jW];omega
def M9(p:Int)(x:Cy):Prop:=p<x.a/\x.a<x.b/\x.b<x.c/\x.c<x.d/\x.d<=1000
theorem aLJ {l:List Cy} {k:Nat}(hk:k<aA l):iG l=iG (l.take k)++([l[k].a,l[k].b,l[k].c,l[k].d]++iG (l.drop (k+1))):=by
 have h:l=l.take k++(l[k]::l.drop (k+1)):=by rw [<-Ja hk,List.take_append_drop]
 have h2:iG l=iG (l.take k++(l[k]::l.drop (k+1))):=by rw [<-h]
 rw [h2];unfold iG;rw [List.flatMap_append,wZ]
theorem aEY {l:List Cy} {k:Nat}(hk:k<aA l)(h:¬M9 (jW 0 (iG (l.take k))) l[k]):lQ l=aP:=by
 cases hc:lQ l
 ·rfl
 exfalso;apply h;unfold lQ at hc;rw [aLJ hk] at hc;simp only [jb,decide_eq_true_eq,Xs,XF] at hc;obtain⟨⟨_,h1,h2⟩,_,h3⟩:=hc;simp only [risesB,jW,jb,decide_eq_true_eq,Bool.and_true] at h1 h2 h3;have:=a5H _ _ h2;unfold M9;omega
theorem aEb {l:List Cy} {k:Nat}(hk:k<aA l)(h:M9 (jW 0 (iG (l.take k))) l[k])(hr:risesB 0 (iG (l.take k))=aO):risesB 0 (iG (l.take (k+1)))=aO/\jW 0 (iG (l.take (k+1)))=l[k].d:=by unfold M9 at h;rw [a8D hk,Xs,XF,hr];simp only [risesB,jW,Bool.true_and,Bool.and_true,jb,decide_eq_true_eq,and_true];omega
theorem aEZ {l:List Cy}(h:bg (aA l) 1 4=aO)(hr:risesB 0 (iG l)=aO)(hl:jW 0 (iG l)<=1000):lQ l=aO:=by unfold lQ;rw [h,hr];simp [hl]
theorem aEa {l:List Cy}(h:bg (aA l) 1 4=aP):lQ l=aP:=by unfold lQ;rw [h];simp
theorem aHy {l:List Pr}(h:bg (aA l) 2 16=aP):kQ l=aP:=by unfold kQ;rw [h];simp
theorem aKM {l:List Pr}(h:bg (aA l) 1 8=aP):l9 l=aP:=by unfold l9;rw [h];simp
theorem a5i {l:List Pr} {k:Nat}(hk:k<aA l)(h:uY l[k]=aP):kQ l=aP:=by unfold kQ;rw [show l.all uY=aP from JZ.2 ⟨l[k],cK hk,by rw [h];simp⟩];rfl
theorem a7G {l:List Pr} {k:Nat}(hk:k<aA l)(h:ud l[k]=aP):l9 l=aP:=by unfold l9;rw [show l.all ud=aP from JZ.2 ⟨l[k],cK hk,by rw [h];simp⟩];rfl
theorem aLq {x:ak}:kQ x.ms=aP->⟨#[109,101,109,98,101,114,115]⟩=iO x:=by intro h0;unfold iO;simp [h0]
theorem aLr {x:ak}:kQ x.ms=aO->l9 x.ss=aP->⟨#[115,101,99,115]⟩=iO x:=by intro h0 h1;unfold iO;simp [h0,h1]
theorem aLs {x:ak}:kQ x.ms=aO->l9 x.ss=aO->lQ x.cy=aP->⟨#[99,121,99,108,101,115]⟩=iO x:=by intro h0 h1 h2;unfold iO;simp [h0,h1,h2]
theorem aLt {x:ak}:kQ x.ms=aO->l9 x.ss=aO->lQ x.cy=aO->bg x.line 0 1099511627776=aP->⟨#[108,105,110,101]⟩=iO x:=by intro h0 h1 h2 h3;unfold iO;simp [h0,h1,h2,h3]
theorem aLu {x:ak}:kQ x.ms=aO->l9 x.ss=aO->lQ x.cy=aO->bg x.line 0 1099511627776=aO->bg x.bV 0 1099511627776=aP->⟨#[99,97,112,105,116,97,108]⟩=iO x:=by intro h0 h1 h2 h3 h4;unfold iO;simp [h0,h1,h2,h3,h4]
theorem aLv {x:ak}:kQ x.ms=aO->l9 x.ss=aO->lQ x.cy=aO->bg x.line 0 1099511627776=aO->bg x.bV 0 1099511627776=aO->bg x.lead 0 1000=aP->⟨#[108,101,97,100]⟩=iO x:=by intro h0 h1 h2 h3 h4 h5;unfold iO;simp [h0,h1,h2,h3,h4,h5]
theorem aLw {x:ak}:kQ x.ms=aO->l9 x.ss=aO->lQ x.cy=aO->bg x.line 0 1099511627776=aO->bg x.bV 0 1099511627776=aO->bg x.lead 0 1000=aO->bg x.tr 1 64=aP->⟨#[116,114,97,100,101,115]⟩=iO x:=by intro h0 h1 h2 h3 h4 h5 h6;unfold iO;simp [h0,h1,h2,h3,h4,h5,h6]
theorem aLx {x:ak}:kQ x.ms=aO->l9 x.ss=aO->lQ x.cy=aO->bg x.line 0 1099511627776=aO->bg x.bV 0 1099511627776=aO->bg x.lead 0 1000=aO->bg x.tr 1 64=aO->bg x.bQ 1 32=aP->⟨#[98,105,100,115]⟩=iO x:=by intro h0 h1 h2 h3 h4 h5 h6 h7;unfold iO;simp [h0,h1,h2,h3,h4,h5,h6,h7]
theorem aLy {x:ak}:kQ x.ms=aO->l9 x.ss=aO->lQ x.cy=aO->bg x.line 0 1099511627776=aO->bg x.bV 0 1099511627776=aO->bg x.lead 0 1000=aO->bg x.tr 1 64=aO->bg x.bQ 1 32=aO->⟨#[]⟩=iO x:=by intro h0 h1 h2 h3 h4 h5 h6 h7;unfold iO;simp [h0,h1,h2,h3,h4,h5,h6,h7]
theorem aKF(x:ak)(w:aJ)(h:lX w x)(hm:aA x.ms<=100000)(hs:aA x.ss<=100000)(hc:aA x.cy<=100000):
 aQ aM 8 #[x.val] w λe w'=>e=aT (.string (iO x))/\aa w.heap.size w w':=by
 have aY:=η (mQ w x);have tj:=η (zg w x);have dP:=η (h.below (mQ w x));have mL:=η (@aLq x);have yI:=η (@aLr x);have gB:=η (@aLs x);have mM:=η (@aLt x);have zN:=η (@aLu x);have qC:=η (@aLv x);have HW6:=η (@aLw x);have Zx:=η (@aLx x);have HW8:=η (@aLy x);generalize iO x=ws at*;have c0:=tj.o.c0;have Vk:=tj.o.lt;unfold ak.val at*;clear h;cases h1:bg (aA x.ms) 2 16
 ·have HF:=η (mL.o (aHy h1));go_enter func8,aBw
  go_wp2_with fail
  refine(s6 _ _ _ _).mono ?_;rintro e w1 ⟨rfl,rfl⟩;rw [h1];go_wp2_with fail
  go_ret;exact⟨qz HF.o,aY.o⟩
 go_enter func8,aBw
 go_wp2_with fail
 refine(s6 _ _ _ _).mono ?_;rintro e w1 ⟨rfl,rfl⟩;rw [h1];generalize (w.alloc (aK #[aH x.Am (aA x.ms) x.cm,aH x.As (aA x.ss) x.cs,aH x.Ac (aA x.cy) x.cc,aG aF x.line,aG aF x.bV,aG aF x.lead,aG aF x.tr,aG aF x.bQ] 26))=W0 at*;have H1:=η h1;clear h1;go_wp2_with fail
 go_loop [3] (λi=>∃k:Nat,k<=aA x.ms/\i=aG aF k/\Hid ((x.ms.take k).all uY=aO)) (λi=>aA x.ms-(ag i).toNat)
 case atStart=>exact⟨0,bL _,rfl,rfl⟩
 case round=>
  obtain⟨k,hk,rfl,HK⟩:=hrel;by_cases hlt:k<aA x.ms
  ·obtain⟨b,o,e0,hb,d0,d1⟩:=FX dP.o.m hlt;have cG:=η (PS uY hlt);have HP:=η (show uY x.ms[k]=(bg x.ms[k].a 0 1099511627776&&bg x.ms[k].b 0 1099511627776) from rfl);rw [e0] at c0;clear e0;cases h1:bg x.ms[k].a 0 1099511627776
   ·have HF:=η (mL.o (a5i hlt (by rw [HP.o,h1];rfl)));go_wp2_with fail
    refine(s6 _ _ _ _).mono ?_;rintro e w1 ⟨rfl,rfl⟩;rw [h1];go_wp2_with fail
    go_ret;exact⟨qz HF.o,aY.o⟩
   cases h2:bg x.ms[k].b 0 1099511627776
   ·have HF:=η (mL.o (a5i hlt (by rw [HP.o,h1,h2];rfl)));go_wp2_with fail
    refine(s6 _ _ _ _).mono ?_;rintro e w1 ⟨rfl,rfl⟩;rw [h1];go_wp2_with fail
    refine(s6 _ _ _ _).mono ?_;rintro e w1 ⟨rfl,rfl⟩;rw [h2];go_wp2_with fail
    go_ret;exact⟨qz HF.o,aY.o⟩
   have HX:Hid ((x.ms.take (k+1)).all uY=aO):=by show _=_;rw [cG.o,HK.o,HP.o,h1,h2];rfl
   go_wp2_with fail
   refine(s6 _ _ _ _).mono ?_;rintro e w1 ⟨rfl,rfl⟩;rw [h1];go_wp2_with fail
   refine(s6 _ _ _ _).mono ?_;rintro e w1 ⟨rfl,rfl⟩;rw [h2];go_wp2_with fail
   go_round
   case rel=>exact⟨k+1,by omega,by go_num,HX⟩
   case measure=>simp [ag];omega
  obtain rfl:k=aA x.ms:=by omega
  have HM:Hid (kQ x.ms=aO):=by have h2:=HK.o;rw [cT] at h2;show _=_;unfold kQ;rw [h2,H1.o];rfl
  have c1:=tj.o.c1;cases h1:bg (aA x.ss) 1 8
  ·have HF:=η (yI.o HM.o (aKM h1));go_wp2_with fail
   refine(s6 _ _ _ _).mono ?_;rintro e w1 ⟨rfl,rfl⟩;rw [h1];go_wp2_with fail
   go_ret;exact⟨qz HF.o,aY.o⟩
  go_wp2_with fail
  refine(s6 _ _ _ _).mono ?_;rintro e w1 ⟨rfl,rfl⟩;rw [h1];have H8:=η h1;clear h1;go_wp2_with fail
  go_loopw [4] (λi wr=>∃k:Nat,k<=aA x.ss/\i=aG aF k/\Hid ((x.ss.take k).all ud=aO)/\Hid (aa w.heap.size w wr)/\Hid (aa W0.heap.size W0 wr)) (λi _=>aA x.ss-(ag i).toNat)
  case atStart=>exact⟨0,bL _,rfl,rfl,aY,aX _ _⟩
  case round=>
   obtain⟨k,hk,rfl,HK,oX,px⟩:=hrel;have c1:=(tj.o.below px.o).c1;by_cases hlt:k<aA x.ss
   ·obtain⟨b,o,e0,hb,d0,d1⟩:=FX ((dP.o.below px.o).s) hlt;have cG:=η (PS ud hlt);have HP:=η (show ud x.ss[k]=(bg x.ss[k].a 1 1048576&&bg x.ss[k].b x.ss[k].a 1048576) from rfl);rw [e0] at c1;clear e0;have hb1:(0:Int)<=k:=by omega
    have hb2:(k:Int)<aA x.ss:=by omega
    cases h1:bg x.ss[k].a 1 1048576
    ·have HF:=η (yI.o HM.o (a7G hlt (by rw [HP.o,h1];rfl)));go_wp2_with fail
     go_quiet ((go_at_call 23;exact Iz (NA h1 _)))
     go_wp2_with fail
     go_ret;exact⟨qz HF.o,below_drewN oX.o _⟩
    cases h2:bg x.ss[k].b x.ss[k].a 1048576
    ·have HF:=η (yI.o HM.o (a7G hlt (by rw [HP.o,h1,h2];rfl)));go_wp2_with fail
     go_quiet ((go_at_call 23;first|(with_reducible exact Iz (NA h1 _))|(with_reducible exact Iz (NA h2 _))))
     go_wp2_with fail
     go_ret;exact⟨qz HF.o,below_drewN oX.o _⟩
    have HX:Hid ((x.ss.take (k+1)).all ud=aO):=by show _=_;rw [cG.o,HK.o,HP.o,h1,h2];rfl
    go_wp2_with fail
    go_quiet ((go_at_call 23;first|(with_reducible exact Iz (NA h1 _))|(with_reducible exact Iz (NA h2 _))))
    go_wp2_with fail
    go_roundw
    case rel=>exact⟨k+1,by omega,by go_num,HX,below_drewN oX.o _,below_drewN px.o _⟩
    case measure=>simp [ag];omega
   obtain rfl:k=aA x.ss:=by omega
   have HS:Hid (l9 x.ss=aO):=by have h2:=HK.o;rw [cT] at h2;show _=_;unfold l9;rw [h2,H8.o];rfl
   have c2:=(tj.o.below px.o).c2;obtain⟨wo,rfl⟩:∃wo:aJ,wo=wr:=⟨_,rfl⟩;cases Q7:bg (aA x.cy) 1 4
   ·have HF:=η (gB.o HM.o HS.o (aEa Q7));go_wp2_with fail
    refine(s6 _ _ _ _).mono ?_;rintro e w1 ⟨rfl,rfl⟩;rw [Q7];go_wp2_with fail
    go_ret;exact⟨qz HF.o,oX.o⟩
   go_wp2_with fail
   refine(s6 _ _ _ _).mono ?_;rintro e w1 ⟨rfl,rfl⟩;rw [Q7];go_wp2_with fail
   go_loopw [5,6,7] (λa i _ wr=>∃k:Nat,k<=aA x.cy/\i=aG aF k/\a=aG aF (jW 0 (iG (x.cy.take k)))/\Hid (risesB 0 (iG (x.cy.take k))=aO)/\jW 0 (iG (x.cy.take k))<=1000/\Hid (aa w.heap.size w wr)/\Hid (aa W0.heap.size W0 wr)) (λ_ i _ _=>aA x.cy-(ag i).toNat)
   case atStart=>exact⟨0,bL _,rfl,rfl,rfl,by simp [iG,jW],oX,px⟩
   case round=>
    obtain⟨k,hk,rfl,rfl,HK,QD,HD,HR⟩:=hrel;have hsz:=HR.o.size;have c2:=(tj.o.below HR.o).c2;have Vk:=(tj.o.below HR.o).lt;by_cases hlt:k<aA x.cy
    ·obtain⟨b,o,e0,hb,d0,d1,d2,d3⟩:=a2W ((dP.o.below HR.o).c) hlt;have ir:=η (aEY (l:=x.cy) hlt);have HST:=η (aEb (l:=x.cy) hlt);generalize jW 0 (iG (x.cy.take k))=at0 at*;rw [e0] at c2;clear e0;have J9:Hid (∀o,aa w.heap.size w (wr.alloc o)):=λo=>HD.o.alloc (bz aY.o.size hsz) _
     have LQ:Hid (∀o,aa W0.heap.size W0 (wr.alloc o)):=λo=>HR.o.alloc hsz _
     by_cases tO:at0<x.cy[k].a
     rotate_left
     ·have hF:=gB.o HM.o HS.o (ir.o (λg=>tO g.1));have HF:=η hF;clear hF;go_wp2_with fail
      go_ret;exact⟨qz HF.o,J9.o _⟩
     by_cases ve:x.cy[k].a<x.cy[k].b
     rotate_left
     ·have hF:=gB.o HM.o HS.o (ir.o (λg=>ve g.2.1));have HF:=η hF;clear hF;go_wp2_with fail
      go_ret;exact⟨qz HF.o,J9.o _⟩
     by_cases KG:x.cy[k].b<x.cy[k].c
     rotate_left
     ·have hF:=gB.o HM.o HS.o (ir.o (λg=>KG g.2.2.1));have HF:=η hF;clear hF;go_wp2_with fail
      go_ret;exact⟨qz HF.o,J9.o _⟩
     by_cases pO:x.cy[k].c<x.cy[k].d
     rotate_left
     ·have hF:=gB.o HM.o HS.o (ir.o (λg=>pO g.2.2.2.1));have HF:=η hF;clear hF;go_wp2_with fail
      go_ret;exact⟨qz HF.o,J9.o _⟩
     by_cases Ba:x.cy[k].d<=1000
     rotate_left
     ·have hF:=gB.o HM.o HS.o (ir.o (λg=>Ba g.2.2.2.2));have HF:=η hF;clear hF;go_wp2_with fail
      go_ret;exact⟨qz HF.o,J9.o _⟩
     have a4M:M9 at0 x.cy[k]:=⟨tO,ve,KG,pO,Ba⟩;obtain⟨hs1,hs2⟩:=HST.o a4M HK.o;have cY:=η hs1;have cM:=η hs2;clear a4M hs1 hs2;go_wp2_with fail
     go_roundw
     case rel=>exact⟨k+1,by omega,by go_num,by rw [cM.o],cY,by rw [cM.o];exact Ba,J9.o _,LQ.o _⟩
     case measure=>simp [ag];omega
    obtain rfl:k=aA x.cy:=by omega
    have HC:Hid (lQ x.cy=aO):=by have h1:=HK.o;have h2:=QD;rw [cT] at h1 h2;exact aEZ Q7 h1 h2
    have CG:=η (tj.o.below HR.o);have c3:=CG.o.c3;have c4:=CG.o.c4;have c5:=CG.o.c5;have c6:=CG.o.c6;have c7:=CG.o.c7;clear QD;go_wp2_with fail
    refine(s6 _ _ _ _).mono ?_;rintro e w1 ⟨rfl,rfl⟩;cases h3:bg x.line 0 1099511627776
    ·have HF:=η (mM.o HM.o HS.o HC.o h3);go_wp2_with fail
     go_ret;exact⟨qz HF.o,HD.o⟩
    have G3:=η h3;clear h3;go_wp2_with fail
    refine(s6 _ _ _ _).mono ?_;rintro e w1 ⟨rfl,rfl⟩;cases h4:bg x.bV 0 1099511627776
    ·have HF:=η (zN.o HM.o HS.o HC.o G3.o h4);go_wp2_with fail
     go_ret;exact⟨qz HF.o,HD.o⟩
    have G4:=η h4;clear h4;go_wp2_with fail
    refine(s6 _ _ _ _).mono ?_;rintro e w1 ⟨rfl,rfl⟩;cases h5:bg x.lead 0 1000
    ·have HF:=η (qC.o HM.o HS.o HC.o G3.o G4.o h5);go_wp2_with fail
     go_ret;exact⟨qz HF.o,HD.o⟩
    have G5:=η h5;clear h5;go_wp2_with fail
    refine(s6 _ _ _ _).mono ?_;rintro e w1 ⟨rfl,rfl⟩;cases h6:bg x.tr 1 64
    ·have HF:=η (HW6.o HM.o HS.o HC.o G3.o G4.o G5.o h6);go_wp2_with fail
     go_ret;exact⟨qz HF.o,HD.o⟩
    have G6:=η h6;clear h6;go_wp2_with fail
    refine(s6 _ _ _ _).mono ?_;rintro e w1 ⟨rfl,rfl⟩;cases h7:bg x.bQ 1 32
    ·have HF:=η (Zx.o HM.o HS.o HC.o G3.o G4.o G5.o G6.o h7);go_wp2_with fail
     go_ret;exact⟨qz HF.o,HD.o⟩
    have G7:=η h7;clear h7;have HF:=η (HW8.o HM.o HS.o HC.o G3.o G4.o G5.o G6.o G7.o);go_wp2_with fail
    go_ret;exact⟨qz HF.o,HD.o⟩
structure Td where
 i:Int
 b:Int
 s:Int
 c:Int
 q:Int
 p:Int
def Td.cells(x:Td):List aN:= [aG aF x.i,aG aF x.b,aG aF x.s,aG aF x.c,aG aF x.q,aG aF x.p]
def Td.val(x:Td):aN:=bU #[aG aF x.i,aG aF x.b,aG aF x.s,aG aF x.c,aG aF x.q,aG aF x.p]
def YQ(l:List Td):List aN:=l.flatMap Td.cells
def Td.ok(x:Td):Prop:=aL x.b/\aL x.s/\aL x.c/\aL x.q/\aL x.p
theorem aLE {w:aJ} {B:Nat} {A:Option aj} {l:List Td}(h:aW w B A (YQ l)) {k:Nat}(hk:k<aA l):
 ∃b o,A=aC ⟨b,o,aB⟩/\b<B/\w.cell? ⟨b,o+k*6,aB⟩=aC (ν l[k].i)/\w.cell? ⟨b,o+k*6+1,aB⟩=aC (ν l[k].b)/\w.cell? ⟨b,o+k*6+2,aB⟩=aC (ν l[k].s)/\w.cell? ⟨b,o+k*6+3,aB⟩=aC (ν l[k].c)/\w.cell? ⟨b,o+k*6+4,aB⟩=aC (ν l[k].q)/\w.cell? ⟨b,o+k*6+5,aB⟩=aC (ν l[k].p):=by
 obtain⟨b,o,e,hb,hc⟩:=h.run (i:=k*6) (y:=ν l[k].i) (t:= [ν l[k].b,ν l[k].s,ν l[k].c,ν l[k].q,ν l[k].p]) (λj u hu=>uP Td.cells 6 (λ_=>rfl) l k hk j u hu);exact⟨b,o,e,hb,hc 0 _ rfl,hc 1 _ rfl,hc 2 _ rfl,hc 3 _ rfl,hc 4 _ rfl,hc 5 _ rfl⟩
def UM(n:Nat)(w:aJ)(e:dU)(w':aJ):Prop:=∃A c L er,e=aT (bB #[aH A (aA (L:List Lg)) c,aG aF er])/\sS w' A c L/\(∀y∈L,y.ok)/\aA L<=n/\aa w.heap.size w w'
theorem aJw(t:Td)(w:aJ)(hI:t.ok):
 aQ aM 91 #[t.val] w (UM 4 w):=by
 obtain⟨t0,t1,t2,t3,t4,t5⟩:=t;obtain⟨i1,i2,i3,i4,i5⟩:=hI;simp only at i1 i2 i3 i4 i5;have HI:=η (kT i1 (kT i2 (kT i3 i4)));have HM:=η (λW=>aJy t4 t5 W i4 i5);have EN:Hid (aL (gQ (t4*t5))):=η (Um _);have aY:Hid (β w (w.alloc (aK #[ν t0,ν t1,ν t2,ν t3,ν t4,ν t5] 153))):=η σ;have cZ:Hid ((w.alloc (aK #[ν t0,ν t1,ν t2,ν t3,ν t4,ν t5] 153)).heap[w.heap.size]? =aC (aK #[ν t0,ν t1,ν t2,ν t3,ν t4,ν t5] 153 (0,0))):=η (cO w _);have hz0:w.heap.size<(w.alloc (aK #[ν t0,ν t1,ν t2,ν t3,ν t4,ν t5] 153)).heap.size:=by simp
 obtain⟨i0,bu,ru,ry,rz⟩:=dL NJ;clear i1 i2 i3 i4 i5;unfold Td.val;generalize gQ (t4*t5)=v at*;generalize dM (t4*t5)=er at*;go_enter func91,ntmps91
 go_upto_region 1 with (fail)
 generalize w.alloc (aK #[ν t0,ν t1,ν t2,ν t3,ν t4,ν t5] 153)=w0 at*;obtain⟨bx,bT⟩:∃bx,bx=w.heap.size:=⟨_,rfl⟩;rw [<-bT] at cZ hz0 ⊢;clear bT;have fM:Hid (∀W,β w0 W->W.cell? ⟨bx,1,aB⟩=aC (ν t1)/\W.cell? ⟨bx,2,aB⟩=aC (ν t2)/\W.cell? ⟨bx,3,aB⟩=aC (ν t3)/\W.cell? ⟨bx,4,aB⟩=aC (ν t4)/\W.cell? ⟨bx,5,aB⟩=aC (ν t5)):=η (λW hW=>by have hd:=(hW.block bx hz0).trans cZ.o;exact⟨ρ hd,ρ hd,ρ hd,ρ hd,ρ hd⟩);have eW:Hid (∀W,β w0 W->β w W):=η (λW hW=>aY.o.trans (hW.mono aY.o.size));obtain⟨_,_,_,d4,d5⟩:=fM.o w0 (aX _ _);go_upto_region 3 with (go_at_call 154;refine(HM.o _).mono ?_;rintro e w1 ⟨rfl,hb1⟩;have aR:Hid (β w0 w1):=η hb1;clear hb1)
 clear HM d4 d5 cZ;obtain⟨d1,d2,d3,d4,_⟩:=fM.o w1 aR.o;by_cases Eu:er=0/\v≠-9223372036854775808/\t4≠-9223372036854775808
 case neg=>
  have QW:∀W,β w0 W->UM 4 w (aT (bB #[aH aB 0 0,ν 2])) W:=λW hW=>⟨aB,0,[],2,rfl,⟨aW.nil,λ_=>⟨rfl,rfl⟩⟩,by simp,by simp,eW.o W hW⟩
  have rG:=η (QW w1 aR.o);clear QW;by_cases h1:er=0
  ·by_cases h2:v= -9223372036854775808
   ·subst h1 h2;clear Eu;go_wp2_with fail
    go_ret2;exact rG.o
   have h3:t4= -9223372036854775808:=Classical.not_not.1 (λh=>Eu ⟨h1,h2,h⟩);have hb2:(v== -9223372036854775808)=aP:=by simpa using h2
   subst h1 h3;clear Eu;go_wp2_with fail
   go_ret2;exact rG.o
  have hb:(er==0)=aP:=by simpa using h1
  clear Eu;go_wp2_with fail
  go_ret2;exact rG.o
 obtain⟨rfl,h2,h3⟩:=Eu;have hb2:(v== -9223372036854775808)=aP:=by simpa using h2
 have hb3:(t4== -9223372036854775808)=aP:=by simpa using h3
 have lz:aL (-v):=by have h:=EN.o;unfold aL at*;omega
 have nh:aL (-t4):=by have h:=HI.o.2.2.2;unfold aL at*;omega
 have hw2:aF.wrap (-v)= -v:=wE lz;have hw3:aF.wrap (-t4)= -t4:=wE nh;have qR:=η lz;have iP:=η nh;clear lz nh;have cE:Hid (w1.ownsRow w0.heap.size 76 3 (aH aB 0 0) 0 (bA [])):=η (gC _ _ _ _);have wK:Hid (β w1 (w1.alloc (aK #[ν t1,ν 0,ν v] 76))):=η σ;have o6:=η (iA cE.o wK.o);go_wp2_with (at_builtin;refine j9 _ rfl _ _ 39 rfl w0.heap.size 76 i0 _ 3 24 sZ bu ru ry rz rfl (by decide) _ 0 (bA []) rfl o6.o ⟨w1.heap.size,0,aB⟩ 1 1 [ν t1,ν 0,ν v] rfl rfl (dN w1 76 #[ν t1,ν 0,ν v] rfl) (KQ ⟨t1,0,v⟩) (by decide) (by decide) (bz aR.o.size wK.o.size) ?_)
 intro v2 w2 eR hg2 _;have aV:Hid (β w0 w2):=η (Ec (aR.o.trans (wK.o.mono aR.o.size)) hg2 (λk hk=>(o6.o.lt k hk).1) (bz aR.o.size wK.o.size));have dD:Hid (w2.ownsRow w0.heap.size 76 3 v2 1 (bA [⟨t1,0,v⟩])):=η eR;clear eR hg2 wK o6 d1 d2 d3 d4;obtain⟨d1,d2,d3,d4,_⟩:=fM.o w2 aV.o;have wL:Hid (β w2 (w2.alloc (aK #[ν t1,ν t3,ν (-t4)] 76))):=η σ;have mi:=η (iA dD.o wL.o);go_wp2_with (at_builtin;refine j9 _ rfl _ _ 39 rfl w0.heap.size 76 i0 _ 3 24 sZ bu ru ry rz rfl (by decide) _ 1 (bA [⟨t1,0,v⟩]) rfl mi.o ⟨w2.heap.size,0,aB⟩ 1 1 [ν t1,ν t3,ν (-t4)] rfl rfl (dN w2 76 #[ν t1,ν t3,ν (-t4)] rfl) (KQ ⟨t1,t3,(-t4)⟩) (by decide) (by decide) (bz aV.o.size wL.o.size) ?_)
 intro v3 w3 iz hg3 _;have af:Hid (β w0 w3):=η (Ec (aV.o.trans (wL.o.mono aV.o.size)) hg3 (λk hk=>(mi.o.lt k hk).1) (bz aV.o.size wL.o.size));have cD:Hid (w3.ownsRow w0.heap.size 76 3 v3 2 (bA [⟨t1,0,v⟩,⟨t1,t3,-t4⟩])):=η iz;clear iz hg3 wL mi d1 d2 d3 d4;obtain⟨d1,d2,d3,d4,_⟩:=fM.o w3 af.o;have lF:Hid (β w3 (w3.alloc (aK #[ν t2,ν 0,ν (-v)] 76))):=η σ;have oq:=η (iA cD.o lF.o);go_wp2_with (at_builtin;refine j9 _ rfl _ _ 39 rfl w0.heap.size 76 i0 _ 3 24 sZ bu ru ry rz rfl (by decide) _ 2 (bA [⟨t1,0,v⟩,⟨t1,t3,-t4⟩]) rfl oq.o ⟨w3.heap.size,0,aB⟩ 1 1 [ν t2,ν 0,ν (-v)] rfl rfl (dN w3 76 #[ν t2,ν 0,ν (-v)] rfl) (KQ ⟨t2,0,(-v)⟩) (by decide) (by decide) (bz af.o.size lF.o.size) ?_)
 intro v4 w4 gz hg4 _;have ar:Hid (β w0 w4):=η (Ec (af.o.trans (lF.o.mono af.o.size)) hg4 (λk hk=>(oq.o.lt k hk).1) (bz af.o.size lF.o.size));have dV:Hid (w4.ownsRow w0.heap.size 76 3 v4 3 (bA [⟨t1,0,v⟩,⟨t1,t3,-t4⟩,⟨t2,0,-v⟩])):=η gz;clear gz hg4 lF oq d1 d2 d3 d4;obtain⟨d1,d2,d3,d4,_⟩:=fM.o w4 ar.o;have rD:Hid (β w4 (w4.alloc (aK #[ν t2,ν t3,ν t4] 76))):=η σ;have Tb:=η (iA dV.o rD.o);go_wp2_with (at_builtin;refine j9 _ rfl _ _ 39 rfl w0.heap.size 76 i0 _ 3 24 sZ bu ru ry rz rfl (by decide) _ 3 (bA [⟨t1,0,v⟩,⟨t1,t3,-t4⟩,⟨t2,0,-v⟩]) rfl Tb.o ⟨w4.heap.size,0,aB⟩ 1 1 [ν t2,ν t3,ν t4] rfl rfl (dN w4 76 #[ν t2,ν t3,ν t4] rfl) (KQ ⟨t2,t3,t4⟩) (by decide) (by decide) (bz ar.o.size rD.o.size) ?_)
 intro v5 w5 iU ej _;have cV:Hid (β w0 w5):=η (Ec (ar.o.trans (rD.o.mono ar.o.size)) ej (λk hk=>(Tb.o.lt k hk).1) (bz ar.o.size rD.o.size));have fL:Hid (w5.ownsRow w0.heap.size 76 3 v5 4 (bA [⟨t1,0,v⟩,⟨t1,t3,-t4⟩,⟨t2,0,-v⟩,⟨t2,t3,t4⟩])):=η iU;clear iU ej rD Tb d1 d2 d3 d4;obtain⟨d1,d2,d3,d4,_⟩:=fM.o w5 cV.o;go_wp2_with fail
 go_ret2;obtain⟨A5,c5,rfl⟩:=bK fL.o;exact⟨A5,c5,[⟨t1,0,v⟩,⟨t1,t3,-t4⟩,⟨t2,0,-v⟩,⟨t2,t3,t4⟩],0,rfl,⟨aW.cA fL.o,λe=>by have:=Ia fL.o e;exact this⟩,by
  intro y hy;have h:=HI.o;simp only [fC,List.not_mem_nil,or_false] at hy;rcases hy with rfl|rfl|rfl|rfl
  ·exact⟨h.1,(by decide:aL 0),EN.o⟩
  ·exact⟨h.1,h.2.2.1,iP.o⟩
  ·exact⟨h.2.1,(by decide:aL 0),qR.o⟩
  exact⟨h.2.1,h.2.2.1,h.2.2.2⟩,by simp,eW.o _ cV.o⟩
structure Ac where
 k:Int
 ts:List Td
 At:Option aj
 ct:Nat
 ls:List Lg
 Al:Option aj
 cl:Nat
 m:Int
 a:Int
 n:Int
 b:Bd
def Ac.val(x:Ac):aN:=bU #[aG aF x.k,aH x.At (aA x.ts) x.ct,aH x.Al (aA x.ls) x.cl,aG aF x.m,aG aF x.a,aG aF x.n,aG aF x.b.s,aG aF x.b.m,aG aF x.b.c,aG aF x.b.q,aG aF x.b.p]
def Ac.cells(x:Ac):List aN:= [aG aF x.k,aH x.At (aA x.ts) x.ct,aH x.Al (aA x.ls) x.cl,aG aF x.m,aG aF x.a,aG aF x.n,aG aF x.b.s,aG aF x.b.m,aG aF x.b.c,aG aF x.b.q,aG aF x.b.p]
structure Ac.ok(x:Ac):Prop where
 m:aL x.m
 a:aL x.a
 n:aL x.n
 b:x.b.ok
 t:∀y∈x.ts,y.ok
 l:∀y∈x.ls,y.ok
structure Ac.at(x:Ac)(w:aJ):Prop where
 t:aW w w.heap.size x.At (YQ x.ts)
 l:aW w w.heap.size x.Al (bA x.ls)
theorem Ac.at.below {x:Ac} {w w':aJ}(h:x.at w)(hb:aa w.heap.size w w'):x.at w':=⟨(h.t.below hb).mono hb.size,(h.l.below hb).mono hb.size⟩
def UL(n:Nat)(w:aJ)(e:dU)(w':aJ):Prop:=∃A c L,e=aT (aH A (aA (L:List Lg)) c)/\aW w' w'.heap.size A (bA L)/\(∀y∈L,y.ok)/\aA L<=n/\aa w.heap.size w w'
theorem aHd(x:Ac)(w:aJ)(hx:x.ok)(ha:x.at w)(hn:aA x.ts<=30)(hl:aA x.ls<=60):
 aQ aM 39 #[x.val] w (UL 120 w):=by
 obtain⟨xk,ts,At,ct,ls,Al,cl,xm,xa,xn,⟨bs,bm,bc,bq,bp⟩⟩:=x;have HT:Hid (∀y∈ts,y.ok):=η hx.t;have HL:Hid (∀y∈ls,y.ok):=η hx.l;have O0:=η ha;simp only at hn hl;have aY:Hid (β w (w.alloc (aK #[ν xk,aH At (aA ts) ct,aH Al (aA ls) cl,ν xm,ν xa,ν xn,ν bs,ν bm,ν bc,ν bq,ν bp] 43))):=η σ;have cZ:Hid ((w.alloc (aK #[ν xk,aH At (aA ts) ct,aH Al (aA ls) cl,ν xm,ν xa,ν xn,ν bs,ν bm,ν bc,ν bq,ν bp] 43)).heap[w.heap.size]? =aC (aK #[ν xk,aH At (aA ts) ct,aH Al (aA ls) cl,ν xm,ν xa,ν xn,ν bs,ν bm,ν bc,ν bq,ν bp] 43 (0,0))):=η (cO w _);have hz0:w.heap.size<(w.alloc (aK #[ν xk,aH At (aA ts) ct,aH Al (aA ls) cl,ν xm,ν xa,ν xn,ν bs,ν bm,ν bc,ν bq,ν bp] 43)).heap.size:=by simp
 clear hx ha;unfold Ac.val;go_enter func39,ntmps39
 go_upto_region 1 with (fail)
 generalize w.alloc (aK #[ν xk,aH At (aA ts) ct,aH Al (aA ls) cl,ν xm,ν xa,ν xn,ν bs,ν bm,ν bc,ν bq,ν bp] 43)=w0 at*;obtain⟨bx,bT⟩:∃bx,bx=w.heap.size:=⟨_,rfl⟩;rw [<-bT] at cZ hz0 ⊢;clear bT;have fM:Hid (∀W,β w0 W->W.cell? ⟨bx,0,aB⟩=aC (ν xk)/\W.cell? ⟨bx,1,aB⟩=aC (aH At (aA ts) ct)/\W.cell? ⟨bx,2,aB⟩=aC (aH Al (aA ls) cl)):=η (λW hW=>by have hd:=(hW.block bx hz0).trans cZ.o;exact⟨ρ hd,ρ hd,ρ hd⟩);have eW:Hid (∀W,β w0 W->β w W):=η (λW hW=>aY.o.trans (hW.mono aY.o.size));obtain⟨d0,d1,d2⟩:=fM.o w0 (aX _ _);by_cases h1:xk=0
 case neg=>
  have hb:(xk==0)=aP:=by simpa using h1
  have rG:Hid (UL 120 w (aT (aH Al (aA ls) cl)) w0):=η ⟨Al,cl,ls,rfl,(O0.o.below aY.o).l,HL.o,by omega,aY.o⟩;go_wp2_with fail
  go_ret;exact rG.o
 subst h1;clear d2 HL;have mJ:Hid (∃L:List Lg,w0.ownsRow w0.heap.size 76 3 (aH aB 0 0) (aA L) (bA L)/\(∀y∈L,y.ok)/\aA L<=0/\β w0 w0):=η ⟨[],gC _ _ _ _,by simp,by simp,aX _ _⟩;go_upto_region 5 with (fail)
 clear d0 d1;go_loopw [3,4,5,6] (λv i _ _ wr=>∃k:Nat,k<=aA ts/\i=ν (k:Int)/\Hid (∃L:List Lg,wr.ownsRow w0.heap.size 76 3 v (aA L) (bA L)/\(∀y∈L,y.ok)/\aA L<=4*k/\β w0 wr)) (λ_ i _ _ _=>aA ts-(ag i).toNat)
 case atStart=>exact⟨0,bL _,rfl,mJ⟩
 case round=>
  clear mJ;obtain⟨k,hk,rfl,uk⟩:=hrel;obtain⟨L,ho,dR,nB,hb⟩:=uk.o;obtain⟨v,hv⟩:∃v,v=u3:=⟨_,rfl⟩;have HO:=η ho;have HK:=η dR;have mH:=η nB;have HB:=η hb;clear uk ho dR nB;obtain⟨_,d1,_⟩:=fM.o wr hb;clear hb;by_cases hlt:k<aA ts
  ·obtain⟨bl,ol,kO,hbl,l0,l1,l2,l3,l4,l5⟩:=aLE ((O0.o.below aY.o).below HB.o).t hlt;have eY:(0:Int)<=(k:Int):=by omega
   have hkb:(k:Int)<(aA ts:Int):=by omega
   have lO:=η (HT.o _ (cK hlt));have hAt:At=aC ⟨bl,ol,aB⟩:=kO;clear kO;subst hAt;generalize ts[k]=t at*;obtain⟨t0,t1,t2,t3,t4,t5⟩:=t;simp only at l0 l1 l2 l3 l4 l5;have JP:Hid (aQ aM 91 #[bU #[ν t0,ν t1,ν t2,ν t3,ν t4,ν t5]] wr (UM 4 wr)):=η (aJw ⟨t0,t1,t2,t3,t4,t5⟩ wr lO.o);go_upto_region 8 with (go_at_call 91;refine JP.o.mono ?_;rintro e w2 ⟨A2,c2,L2,er,rfl,hs2,hk2,hl2,hb2⟩;have aV:Hid (β w0 w2):=τ HB hb2;have dD:=η (iA HO.o hb2);have cM:=η hs2;have lY:=η hk2;have CT:=η hl2;clear hs2 hk2 hl2 hb2)
   clear JP HO l0 l1 l2 l3 l4 l5 d1;go_wp2_with (at_builtin;refine a8V rfl _ _ rfl w0.heap.size _ (aA L) (bA L) rfl dD.o A2 c2 L2 rfl cM.o (by have:=mH.o;have:=CT.o;omega) aV.o.size ?_)
   intro v3 w3 iz hg3 _;have qQ:Hid (∃L:List Lg,w3.ownsRow w0.heap.size 76 3 v3 (aA L) (bA L)/\(∀y∈L,y.ok)/\aA L<=4*(k+1)/\β w0 w3):=η ⟨L++L2,by rw [cN,show bA (L++L2)=bA L++bA L2 from by simp [bA]];exact iz,λy hy=>(gJ.1 hy).elim (HK.o y) (lY.o y),by rw [cN];have:=mH.o;have:=CT.o;omega,Ec aV.o hg3 (λk hk=>(dD.o.lt k hk).1) aV.o.size⟩;clear iz hg3 dD cM HK lY mH CT aV HB;go_wp2_with fail
   go_roundw
   case rel=>exact⟨k+1,by omega,by go_num,qQ⟩
   case measure=>simp [ag];omega
  obtain rfl:k=aA ts:=by omega
  have rG:Hid (∀A c,u3=aH A (aA L) c->UL 120 w (aT (aH A (aA L) c)) wr):=η (λA c e=>by have ho:=HO.o;rw [e] at ho;exact⟨A,c,L,rfl,aW.cA ho,HK.o,by have:=mH.o;omega,eW.o _ HB.o⟩);obtain⟨A9,c9,h9⟩:=bK HO.o;have cJ:=η (rG.o A9 c9 h9);subst hv;subst h9;go_wp2_with fail
  go_ret;exact cJ.o
structure a0R(D:Dk)(x:Ac):Prop where
 ok:fX D
 top:aL (1099511627776-balA (aA D.x.ms) (aA D.x.ss+1) D.l 8 x.m 0)
 due:D.st=1->Sd D
 ml:aA D.x.ms<=100000
 sl:aA D.x.ss<=100000
 bd:aL D.x.bQ
 sh:D.st=2->nS D.x x.b=0->aL (balA (aA D.x.ms) (aA D.x.ss+1) D.l 1 0 x.b.c)
 set:D.st=2->UJ D
 en:J1 D
 nt:∀L:List Lg,aA L<=120->(∀y∈L,y.ok)->UG D L
inductive vD(D:Dk)(x:Ac):Dk->Prop
 |pay:x.k=1->vD D x (zn D (pR D x.m x.a x.n 7 x.m 1 0 5 (j6 x.m x.a x.n D.ob) (kS x.m x.a x.n D.ob)))
 |back:x.k=2->vD D x (zn D (pR D x.m x.a x.n 1 0 7 x.m 6 (lA x.m x.a x.n D.ob) (nu x.m x.a x.n D.ob)))
 |top:x.k=3->vD D x (AY D x.m x.n)
 |take:x.k=4->vD D x (AX D x.m x.n)
 |due:x.k=5->vD D x (DD D)
 |M3:x.k=6->vD D x (qG D x.b)
 |set {D':Dk}:x.k=7->Jg D D'->vD D x D'
 |Jv:x.k=8->vD D x (vK D)
 |az {L:List Lg}:(x.k<1\/8<x.k)->aA L<=120->(∀y∈L,y.ok)->vD D x (xe D L)
def Ran(db:Nat)(p:Dp)(D:Dk)(x:Ac)(w:aJ)(e:dU)(w':aJ):Prop:=e=aT (bB #[])/\∃D',vD D x D'/\aq db p D' w w'
theorem aKD(db:Nat)(p:Dp)(D:Dk)(x:Ac)(w:aJ)(H:bW w db p D)(hx:x.ok)(ha:x.at w)(hn:aA x.ts<=30)(hl:aA x.ls<=60)(P:a0R D x):
 aQ aM 12 #[π db,x.val] w (Ran db p D x w):=by
 obtain⟨xk,ts,At,ct,ls,Al,cl,xm,xa,xn,⟨bs,bm,bc,bq,bp⟩⟩:=x;obtain⟨im,ia,pP,ib,it,il⟩:=hx;obtain⟨KO,a4t,a4i,iml,isl,ibd,ish,a4r,ien,int⟩:=P;have aY:Hid (β w (w.alloc (aK #[ν xk,aH At (aA ts) ct,aH Al (aA ls) cl,ν xm,ν xa,ν xn,ν bs,ν bm,ν bc,ν bq,ν bp] 43))):=η σ;have cZ:Hid ((w.alloc (aK #[ν xk,aH At (aA ts) ct,aH Al (aA ls) cl,ν xm,ν xa,ν xn,ν bs,ν bm,ν bc,ν bq,ν bp] 43)).heap[w.heap.size]? =aC (aK #[ν xk,aH At (aA ts) ct,aH Al (aA ls) cl,ν xm,ν xa,ν xn,ν bs,ν bm,ν bc,ν bq,ν bp] 43 (0,0))):=η (cO w _);have hz0:w.heap.size<(w.alloc (aK #[ν xk,aH At (aA ts) ct,aH Al (aA ls) cl,ν xm,ν xa,ν xn,ν bs,ν bm,ν bc,ν bq,ν bp] 43)).heap.size:=by simp
 have HP:Hid (∀W D',β w W->∀W',aq db p D' W W'->aq db p D' w W'):=η (λW D' hW W' h=>aq.trans (bC.bZ _ hW) (λ_ h=> .inl h) ⟨rfl,rfl,rfl,rfl⟩ h);have rG:Hid (∀W D',vD D ⟨xk,ts,At,ct,ls,Al,cl,xm,xa,xn,⟨bs,bm,bc,bq,bp⟩⟩ D'->aq db p D' w W->Ran db p D ⟨xk,ts,At,ct,ls,Al,cl,xm,xa,xn,⟨bs,bm,bc,bq,bp⟩⟩ w (aT (bB #[])) W):=η (λW D' h1 h2=>⟨rfl,D',h1,h2⟩);have C1:=η (λW (hW:β w W)=>a2b db p D xm xa xn W (H.below hW) KO im ia pP);have C2:=η (λW (hW:β w W)=>aEi db p D xm xa xn W (H.below hW) KO im ia pP);have C3:=η (λW (hW:β w W)=>aEk db p D xm xn W (H.below hW) KO im pP a4t);have C4:=η (λW (hW:β w W)=>aEj db p D xm xn W (H.below hW) KO im pP);have C5:=η (λW (hW:β w W)=>a2Z db p D W (H.below hW) a4i);have C6:=η (λW (hW:β w W)=>aEf db p D ⟨bs,bm,bc,bq,bp⟩ W (H.below hW) KO ib iml isl ibd ish);have C7:=η (λW (hW:β w W)=>a2c db p D W (H.below hW) a4r);have C8:=η (λW (hW:β w W)=>a2a db p D W (H.below hW) ien);have C9:=η (λW (hW:β w W) L A c (hs:aW W W.heap.size A (bA L)) (hI:∀y∈L,y.ok) (hl:aA L<=120)=>V9 db p D L A c W (H.below hW) hs hI (by omega) (int L hl hI));have C0:=η (λW (hW:β w W)=>aHd ⟨xk,ts,At,ct,ls,Al,cl,xm,xa,xn,⟨bs,bm,bc,bq,bp⟩⟩ W ⟨im,ia,pP,ib,it,il⟩ (ha.below hW) hn hl);clear H im ia pP ib it il KO a4t a4i iml isl ibd ish a4r ien int ha hn hl;unfold Ac.val at C0 ⊢;unfold Bd.val at C6;go_enter func12,ntmps12
 go_upto_region 1 with (fail)
 generalize w.alloc (aK #[ν xk,aH At (aA ts) ct,aH Al (aA ls) cl,ν xm,ν xa,ν xn,ν bs,ν bm,ν bc,ν bq,ν bp] 43)=w0 at*;obtain⟨bx,bT⟩:∃bx,bx=w.heap.size:=⟨_,rfl⟩;rw [<-bT] at cZ hz0 ⊢;clear bT;have fM:Hid (w0.cell? ⟨bx,0,aB⟩=aC (ν xk)/\w0.cell? ⟨bx,1,aB⟩=aC (aH At (aA ts) ct)/\w0.cell? ⟨bx,2,aB⟩=aC (aH Al (aA ls) cl)/\w0.cell? ⟨bx,3,aB⟩=aC (ν xm)/\w0.cell? ⟨bx,4,aB⟩=aC (ν xa)/\w0.cell? ⟨bx,5,aB⟩=aC (ν xn)/\w0.cell? ⟨bx,6,aB⟩=aC (ν bs)/\w0.cell? ⟨bx,7,aB⟩=aC (ν bm)/\w0.cell? ⟨bx,8,aB⟩=aC (ν bc)/\w0.cell? ⟨bx,9,aB⟩=aC (ν bq)/\w0.cell? ⟨bx,10,aB⟩=aC (ν bp)):=η (by have hd:=cZ.o;exact⟨ρ hd,ρ hd,ρ hd,ρ hd,ρ hd,ρ hd,ρ hd,ρ hd,ρ hd,ρ hd,ρ hd⟩);obtain⟨d0,d1,d2,d3,d4,d5,d6,d7,d8,d9,d10⟩:=fM.o;clear cZ fM hz0;go_upto_region 3 with (fail)
 by_cases h1:xk=1
 ·subst h1;clear C0 C9;go_wp2_with fail
  go_at_call 27
  refine(C1.o _ aY.o).mono ?_;rintro e w1 ⟨rfl,hp⟩;have HQ:=η (rG.o w1 _ (.pay rfl) (HP.o _ _ aY.o _ hp));clear hp;go_wp2_with fail
  go_end0
  exact HQ.o
 have b1:(xk==1)=aP:=by simpa using h1
 clear C1;by_cases h2:xk=2
 ·subst h2;clear C0 C9;go_wp2_with fail
  go_at_call 35
  refine(C2.o _ aY.o).mono ?_;rintro e w1 ⟨rfl,hp⟩;have HQ:=η (rG.o w1 _ (.back rfl) (HP.o _ _ aY.o _ hp));clear hp;go_wp2_with fail
  go_end0
  exact HQ.o
 have b2:(xk==2)=aP:=by simpa using h2
 clear C2;by_cases h3:xk=3
 ·subst h3;clear C0 C9;go_wp2_with fail
  go_at_call 36
  refine(C3.o _ aY.o).mono ?_;rintro e w1 ⟨rfl,hp⟩;have HQ:=η (rG.o w1 _ (.top rfl) (HP.o _ _ aY.o _ hp));clear hp;go_wp2_with fail
  go_end0
  exact HQ.o
 have b3:(xk==3)=aP:=by simpa using h3
 clear C3;by_cases h4:xk=4
 ·subst h4;clear C0 C9;go_wp2_with fail
  go_at_call 37
  refine(C4.o _ aY.o).mono ?_;rintro e w1 ⟨rfl,hp⟩;have HQ:=η (rG.o w1 _ (.take rfl) (HP.o _ _ aY.o _ hp));clear hp;go_wp2_with fail
  go_end0
  exact HQ.o
 have b4:(xk==4)=aP:=by simpa using h4
 clear C4;by_cases h5:xk=5
 ·subst h5;clear C0 C9;go_wp2_with fail
  go_at_call 28
  refine(C5.o _ aY.o).mono ?_;rintro e w1 ⟨rfl,hp⟩;have HQ:=η (rG.o w1 _ (.due rfl) (HP.o _ _ aY.o _ hp));clear hp;go_wp2_with fail
  go_end0
  exact HQ.o
 have b5:(xk==5)=aP:=by simpa using h5
 clear C5;by_cases h6:xk=6
 ·subst h6;clear C0 C9;go_wp2_with fail
  go_at_call 38
  refine(C6.o _ aY.o).mono ?_;rintro e w1 ⟨rfl,hp⟩;have HQ:=η (rG.o w1 _ (.M3 rfl) (HP.o _ _ aY.o _ hp));clear hp;go_wp2_with fail
  go_end0
  exact HQ.o
 have b6:(xk==6)=aP:=by simpa using h6
 clear C6;by_cases h7:xk=7
 ·subst h7;clear C0 C9;go_wp2_with fail
  go_at_call 29
  refine(C7.o _ aY.o).mono ?_;rintro e w1 ⟨rfl,D2,hr,hp⟩;have HQ:=η (rG.o w1 _ (.set rfl hr) (HP.o _ _ aY.o _ hp));clear hp;go_wp2_with fail
  go_end0
  exact HQ.o
 have b7:(xk==7)=aP:=by simpa using h7
 clear C7;by_cases h8:xk=8
 ·subst h8;clear C0 C9;go_wp2_with fail
  go_at_call 25
  refine(C8.o _ aY.o).mono ?_;rintro e w1 ⟨rfl,hp⟩;have HQ:=η (rG.o w1 _ (.Jv rfl) (HP.o _ _ aY.o _ hp));clear hp;go_wp2_with fail
  go_end0
  exact HQ.o
 have b8:(xk==8)=aP:=by simpa using h8
 clear C8;go_wp2_with fail
 go_at_call 39
 refine(C0.o _ aY.o).mono ?_;rintro e w1 ⟨A1,c1,L1,rfl,hs1,zw,oK,hb1⟩;have sO:=η (C9.o w1 (aY.o.trans (hb1.mono aY.o.size)) L1 A1 c1 hs1 zw oK);have LD:=η zw;have um:=η oK;have aR:=τ aY hb1;clear hs1 zw oK hb1;go_wp2_with fail
 go_at_call 26
 refine sO.o.mono ?_;rintro e w2 ⟨rfl,jV⟩;have HQ:=η (rG.o w2 _ (.az (by simp only;omega) um.o LD.o) (HP.o _ _ aR.o _ jV));clear jV;go_wp2_with fail
 go_end0
 exact HQ.o
def kC(n:Int)(e:Bool):Int:=n*580000000000000000+(if e=aO then 1099511627776 else 0)
theorem AJ {n:Int}(e:Bool)(h0:0<=n)(h1:n<=4):0<=kC n e/\kC n e<=2320001099511627776:=by grind [kC]
theorem aHJ(n:Int)(e:Bool):kC n e=kC (n-1) e+580000000000000000:=by unfold kC;omega
structure Inv(g:Nat)(D:Dk):Prop where
 st:D.st=0\/D.st=1\/D.st=2
 Bw:D.st=0->aw (kC D.ai D.en+576460752303423488) g D/\nx (kC D.ai D.en) D/\D.h= []/\∀x∈D.ob,eZ x=aO->False
 yq:D.st=1->aw (kC (D.ai-1) D.en+576460752303423488) g D/\nx (kC (D.ai-1) D.en) D/\qD D.h/\1<=D.ai
 Il:D.st=2->aw (kC (D.ai-1) D.en+576460752303423488+140737488355328) g D/\D.h= []/\(∀x∈D.ob,eZ x=aO->x.az<0)/\1<=D.ai
theorem Inv.ig {g:Nat} {D:Dk}(H:Inv g D):∃C,aw C g D/\C<=2896602589303406592:=by
 rcases H.st with h|h|h
 ·have K:=H.Bw h;have:=AJ D.en K.1.ai.1 K.1.ai.2;grind
 ·have K:=H.yq h;have:=AJ (n:=D.ai-1) D.en (by omega) (by have:=K.1.ai;omega);grind
 have K:=H.Il h;have:=AJ (n:=D.ai-1) D.en (by omega) (by have:=K.1.ai;omega);grind
theorem Inv.wide {g g':Nat} {D:Dk}(H:Inv g D)(hg:g<=g'):Inv g' D:=
 ⟨H.st,λh=>by have K:=H.Bw h;exact⟨K.1.wide (dJ _) K.1.bE.big hg,K.2⟩,λh=>by have K:=H.yq h;exact⟨K.1.wide (dJ _) K.1.bE.big hg,K.2⟩,λh=>by have K:=H.Il h;exact⟨K.1.wide (dJ _) K.1.bE.big hg,K.2⟩⟩
theorem Inv.Ig {g:Nat} {D:Dk}(H:Inv g D)(hg:g+1700<=90000)(x:Ac):a0R D x:=by
 obtain⟨C,K,hC⟩:=H.ig;have ij:=K.hs.ml;have jk:=K.hs.sl;have a4J:=K.ai;refine⟨K.ok (by omega), ?_,λh=> ?_,by omega,by omega, ?_,λ_ _=> ?_,λh=> ?_, ?_,λL hl hI=> ?_⟩
 ·have h8:=K.bE.tD x.m 0;have h8n:=K.bE.ok.nn (k:=8) rfl x.m 0;unfold aL;omega
 ·obtain⟨G,_,hu,h1⟩:=H.yq h;have:=AJ (n:=D.ai-1) D.en (by omega) (by omega);exact(G.due hu (by omega) (by omega)).1
 ·have:=K.hs.bd;unfold aL;omega
 ·have:=K.house x.b.c;unfold aL;omega
 ·obtain⟨G,hh,ho,h1⟩:=H.Il h;have:=AJ (n:=D.ai-1) D.en (by omega) (by omega);exact(G.settled hh ho (by unfold jZ;omega) (by omega)).1
 ·exact(K.Jv (by omega) (by omega)).1
 by_cases h:D.st=0
 ·obtain⟨G,F,hh,_⟩:=H.Bw h;exact(G.az F (λ_=>hh) hl hI (by omega)).1
 have pM:=a5o L;refine⟨K.ok (by omega),by omega,by omega,⟨by unfold aL;omega,by omega⟩,by omega,λh0=> ?_⟩;grind [lT]
theorem aCy {M A:Nat} {l:List Int} {k m a:Int}(h:(A:Int)<=a):balA M A l k m a=0:=by grind [Gm,plcA]
structure Cr(D:Dk)(y:Ac)(D':Dk):Prop where
 cf:D'.x=D.x
 lg:∃t,D'.log=D.log++t/\((∃e∈t,e.k=15)->y.k=7/\mD D'=0)
theorem Cr.same(D:Dk)(x:Ac):Cr D x D:=⟨rfl,[],by simp,by simp⟩
theorem Io {D D':Dk} {x:Ac}(hx:D'.x=D.x)(h:∃t,D'.log=D.log++t/\∀e∈t,e.k≠15):Cr D x D':=by obtain⟨t,e,h⟩:=h;exact⟨hx,t,e,λ⟨y,hy,hk⟩=>absurd hk (h y hy)⟩
theorem Inv.swp {g:Nat} {D D':Dk}(H:Inv g D)(hc:∀C,aw C g D->aw C (g+1) D')(S:Cq D D'):Inv (g+1) D':=by
 refine⟨by rw [S.st];exact H.st,λh=> ?_,λh=> ?_,λh=> ?_⟩
 ·rw [S.st] at h;have K:=H.Bw h;rw [S.ai,S.en,S.h,S.ob];exact⟨hc _ K.1,K.2.1.swp S,K.2.2⟩
 ·rw [S.st] at h;have K:=H.yq h;rw [S.ai,S.en,S.h];exact⟨hc _ K.1,K.2.1.swp S,K.2.2⟩
 rw [S.st] at h;have K:=H.Il h;rw [S.ai,S.en,S.h,S.ob];grind
theorem nx.a3F {K C:Int} {g:Nat} {D D':Dk}(F:nx K D)(E:Nz C g D D'):nx (K+1099511627776) D':=
 ⟨λa=>by rw [E.k1,E.ob];exact F.hd a,λm a=>by have:=E.lo m a;have:=F.lo m a;rw [E.ob];omega,λm a=>by have:=E.hi m a;have:=F.hi m a;rw [E.ob];omega,λa=>by have:=F.es a;rw [E.k2];omega⟩
theorem XB(n:Int):kC n aO=kC n aP+1099511627776:=by unfold kC;simp
theorem Inv.step {g:Nat} {D D':Dk} {x:Ac}(H:Inv g D)(hg:g+1700<=90000)(h:vD D x D'):Inv (g+1700) D'/\Cr D x D':=by
 have same:∀E,E=D->Inv (g+1700) E/\Cr D x E:=λE e=>by subst e;exact⟨H.wide (by omega),Cr.same _ _⟩
 have Q2:∀E,(D.st=1->aw (kC (D.ai-1) D.en+576460752303423488) (g+1) E/\nx (kC (D.ai-1) D.en) E/\Co D E)->Inv (g+1700) (zn D E)/\Cr D x (zn D E):=λE hE=>by
  unfold zn;by_cases hs:D.st=1
  ·rw [ifP hs];obtain⟨G,F,P⟩:=hE hs;have K:=H.yq hs;have est:=P.st.trans hs;refine⟨⟨.inr (.inl est),λh=>by omega,λ_=> ?_,λh=>by omega⟩,Io P.x P.lg⟩;rw [P.ai,P.en,P.h];exact⟨G.wide (dJ _) G.bE.big (by omega),F,K.2.2⟩
  grind
 cases h with
 |pay hk=>exact Q2 _ (λhs=>(H.yq hs).1.pay (H.yq hs).2.1 _ _ _)
 |back hk=>exact Q2 _ (λhs=>(H.yq hs).1.aJq (H.yq hs).2.1 _ _ _)
 |top hk=>
  obtain⟨C,K,_⟩:=H.ig;have S:=(K.top x.m x.n).2;exact⟨(H.swp (λC K=>(K.top x.m x.n).1) S).wide (by omega),Io S.x S.lg⟩
 |take hk=>
  obtain⟨C,K,_⟩:=H.ig;have S:=(K.take x.m x.n).2;exact⟨(H.swp (λC K=>(K.take x.m x.n).1) S).wide (by omega),Io S.x S.lg⟩
 |due hk=>
  unfold DD;by_cases hs:D.st=1
  ·rw [ifP hs];obtain⟨G,_,hu,h1⟩:=H.yq hs;have a4J:=G.ai;have:=AJ (n:=D.ai-1) D.en (by omega) (by omega);have W:=(G.due hu (by omega) (by omega)).2;refine⟨⟨.inr (.inr W.st),λh=>by have:=W.st;omega,λh=>by have:=W.st;omega,λ_=> ?_⟩,Io W.x W.lg⟩;rw [W.ai,W.en];exact⟨W.ig.wide (dJ _) W.ig.bE.big (by omega),W.h,W.op,h1⟩
  grind
 |M3 hk=>
  obtain⟨C,K,_⟩:=H.ig;have S:=(K.M3 x.b).2;refine⟨⟨by rw [S.st];exact H.st,λh=> ?_,λh=> ?_,λh=> ?_⟩,Io S.x S.lg⟩
  ·rw [S.st] at h;have K:=H.Bw h;have e:qG D x.b=D:=by
    grind [qG,xD]
   rw [e];exact⟨K.1.wide (dJ _) K.1.bE.big (by omega),K.2⟩
  ·rw [S.st] at h;have K:=H.yq h;have e:qG D x.b=D:=by
    grind [qG,xD]
   rw [e];exact⟨K.1.wide (dJ _) K.1.bE.big (by omega),K.2⟩
  rw [S.st] at h;have K:=H.Il h;rw [S.ai,S.en,S.h,S.ob];exact⟨(K.1.M3 x.b).1.wide (dJ _) K.1.bE.big (by omega),K.2⟩
 |set hk hR=>
  rcases hR with⟨_,rfl⟩|⟨hs,E,hB,rfl⟩
  ·exact same _ rfl
  obtain⟨G,hh,ho,h1⟩:=H.Il hs;have a4J:=G.ai;have hkb:=AJ (n:=D.ai-1) D.en (by omega) (by omega);have W:=(G.settled hh ho (by unfold jZ;omega) (by omega)).2 E hB;have hz:∀a,B (pU E) 1 0 a=0:=λa=>by
   by_cases ha:a<=(aA D.x.ss:Int)
   ·exact W.hz a ha
   exact aCy (by rw [W.x];push_cast;omega)
  have vh:=aHJ D.ai D.en;have hw:kC (D.ai-1) D.en+576460752303423488+140737488355328+8*jZ+140737488355328<=kC D.ai D.en:=by unfold jZ;omega
  have hk4:=AJ (n:=D.ai) D.en (by omega) (by omega);have QP:∀m a,dT (oD m a) (pU E).ob=0:=λm a=>Dl λy hy=>by unfold oD;rw [ifN (λe=>W.op y hy (ua.2 e.1))]
  have DN:∀a,dT (oF a) (pU E).ob=0:=λa=>Dl λy hy=>by unfold oF;rw [ifN (λe=>W.op y hy (ua.2 e.1))]
  refine⟨⟨.inl W.st,λ_=> ?_,λh=>by have:=W.st;omega,λh=>by have:=W.st;omega⟩,W.x, ?_⟩
  ·rw [W.ai,W.en];refine⟨W.ig.wide (by omega) (by omega) (aZ _),⟨λa=> ?_,λm a=> ?_,λm a=> ?_,λa=> ?_⟩,W.h,W.op⟩
   ·rw [hz,DN]
   ·have h2:=W.ig.bE.lo m a;grind
   ·have h2:=W.ig.bE.hi m a;grind
   have h2:=W.ig.bE.es a;grind
  obtain⟨t,e,ht⟩:=W.lg;grind
 |Jv hk=>
  obtain⟨C,K,hC⟩:=H.ig;have key:∀C,aw C g D->C<=2896602589303406592->vK D=D\/Nz C g D (vK D):=λC K hC=>(K.Jv (by omega) (by omega)).2
  rcases key C K hC with e|W
  ·exact same _ e
  have lg:∃t,(vK D).log=D.log++t/\∀e∈t,e.k≠15:=⟨[],by rw [W.log];simp,by simp⟩;have ne:vK D≠D:=λe=>by have h1:=W.en;rw [e] at h1;rw [h1.1] at h1;exact absurd h1.2 (by simp)
  have XC:∀C,aw C g D->C<=2896602589303406592->Nz C g D (vK D):=λC K hC=>(key C K hC).resolve_left ne
  refine⟨⟨by rw [W.st];exact H.st,λh=> ?_,λh=> ?_,λh=> ?_⟩,Io W.x lg⟩
  ·rw [W.st] at h;obtain⟨G,F,hh,ho⟩:=H.Bw h;rw [W.en.1] at G F;have hk:=AJ (n:=D.ai) aP G.ai.1 G.ai.2;have V:=XC _ G (by omega);rw [W.ai,W.en.2,XB,W.h,W.ob];exact⟨V.ig.wide (by omega) (by omega) (by omega),F.a3F V,hh,ho⟩
  ·rw [W.st] at h;obtain⟨G,F,hh,ho⟩:=H.yq h;rw [W.en.1] at G F;have hk:=AJ (n:=D.ai-1) aP (by omega) (by have:=G.ai;omega);have V:=XC _ G (by omega);rw [W.ai,W.en.2,XB,W.h];exact⟨V.ig.wide (by omega) (by omega) (by omega),F.a3F V,hh,ho⟩
  rw [W.st] at h;obtain⟨G,hh,ho,h1⟩:=H.Il h;rw [W.en.1] at G;have hk:=AJ (n:=D.ai-1) aP (by omega) (by have:=G.ai;omega);have V:=XC _ G (by omega);rw [W.ai,W.en.2,XB,W.h,W.ob];exact⟨V.ig.wide (by omega) (by omega) (by omega),hh,ho,h1⟩
 |az hk hl hI=>
  rename_i L;unfold xe;by_cases h0:lT D L=0
  ·rw [ifP h0];have hs:D.st=0:=by
    grind [lT]
   obtain⟨G,F,hh,_⟩:=H.Bw hs;have W:=(G.az F (λ_=>hh) hl hI (by omega)).2 h0;refine⟨⟨.inr (.inl W.st),λh=>by have:=W.st;omega,λ_=> ?_,λh=>by have:=W.st;omega⟩,Io W.x W.lg⟩;rw [W.ai,W.en,show D.ai+1-1=D.ai by omega];exact⟨W.ig.wide (dJ _) W.ig.bE.big (by omega),W.Q2,W.up,by have:=G.ai;omega⟩
  grind
theorem Bf {n a b:Int}(h:bg n a b=aO):a<=n/\n<=b:=by grind [bg]
theorem Qo {x:ak}(h:okB x=aO):GH x:=by
 unfold okB at h;simp only [jb] at h;obtain⟨⟨⟨⟨⟨⟨⟨h1,h2⟩,h3⟩,h4⟩,h5⟩,h6⟩,h7⟩,h8⟩:=h;unfold kQ at h1;unfold l9 at h2;unfold lQ at h3;simp only [jb] at h1 h2 h3;have a1:=Bf h1.2;have a2:=Bf h2.2;have a3:=Bf h3.2.1;refine⟨by omega,by omega,by omega,λy hy=> ?_,λy hy=> ?_,Bf h4,Bf h5,Bf h8⟩
 ·have:=List.all_eq_true.1 h1.1 y hy;unfold uY at this;simp only [jb] at this;exact⟨Bf this.1,Bf this.2⟩
 have:=List.all_eq_true.1 h2.1 y hy;unfold ud at this;simp only [jb] at this;exact⟨Bf this.1,Bf this.2⟩
theorem a7m:∀ {l:List Int},(∀y∈l,y=0)->sumI l=0
 | [],_=>rfl
 |x::l,h=>by rw [a7i,h x (by simp),a7m (λy hy=>h y (dh _ hy))];rfl
theorem aD0(M A n:Nat)(k m a:Int):balA M A (gP n 0) k m a=0:=by grind [balA]
theorem a4p {x:ak}(hx:GH x):Inv 0 (Bn x):=by
 have hz:∀k m a,balA (aA x.ms) (aA x.ss+1) (Bn x).l k m a=0:=λk m a=>aD0 _ _ _ k m a
 have hL:nN (aA x.ms) (aA x.ss+1) (Bn x).l:=by
  refine⟨Cl,λa _=>a7m λy hy=> ?_,λk m a n _ _=>by rw [hz];omega,λy hy=> ?_⟩
  ·unfold Dq at hy;exact(aA1.1 (List.mem_of_mem_drop (List.mem_of_mem_take hy))).2
  obtain⟨_,rfl⟩:=aA1.1 hy;decide
 have hk:kC 0 aP=0:=rfl;have hB:∀k m a,B (Bn x) k m a=0:=hz;refine⟨.inl rfl,λ_=>⟨?_,⟨λa=> ?_,λm a=> ?_,λm a=> ?_,λa=> ?_⟩,rfl,λy hy=>(by cases hy)⟩,λh=>(by cases h),λh=>(by cases h)⟩
 ·show aw (kC 0 aP+576460752303423488) 0 (Bn x);rw [hk];refine⟨hx,⟨hL,λm a=> ?_,λm a=> ?_,λa=> ?_,λa=> ?_,λm a=> ?_,λm a=> ?_,λa=> ?_,by omega,by omega⟩,λr hr=>(by cases hr),by show (0:Nat)<=16;omega,λa=>(hz 1 0 a).symm,⟨λe he=>(by cases he),λk a=> ?_⟩,aZ 0,⟨U5,λm hm=>(by cases hm)⟩,⟨λy hy=>(by cases hy),λy hy=>(by cases hy),U5,λa=> ?_,λa=> ?_,by show ((0:Nat):Int)<=120*0;omega⟩,λd hd=>(by cases hd),by show (0:Nat)<=32;omega,by omega,by show (0:Int)<=0/\(0:Int)<=4;omega⟩
  ·grind
  ·grind
  ·grind
  ·grind
  ·grind
  ·grind
  ·grind
  ·have e:((Bn x).log.take k)= []:=List.take_nil;rw [e];show (0:Int)<=0/\(0:Int)<=_;omega
  ·have:=xY a;show (0:Int)<=_;omega
  have:=xY a;show (0:Int)<=_;omega
 ·rw [hB];rfl
 ·grind [dT,Bn]
 ·grind [dT,Bn]
 show _<=kC 0 aP;rw [hB,hk];omega
theorem aIM {g:Nat} {D:Dk}(H:Inv g D):(lT D []=0\/lT D []=6)↔D.st=0:=by
 unfold lT;by_cases hs:D.st=0
 ·rw [ifN (by omega)];by_cases hc:(aA D.x.cy:Int)<=D.ai
  ·omega
  rw [ifN hc];obtain⟨G,_,_,ho⟩:=H.Bw hs;have e1:mB D.x []=0:=rfl;have e2:gY []= []:=rfl;have e3:∀(ks:List Nat),oT [] ks 0=0:=by
   intro ks;induction ks with
   |nil=>rfl
   |cons a ks ih=>
    unfold oT;have hm:=xY (a:Int);have hb:Dx [] (a:Int)=aP:=by unfold Dx;have s1:yo [] (a:Int)=0:=rfl;have s2:jq [] (a:Int)=0:=rfl;have s3:lU [] (a:Int)=0:=rfl;grind
    rw [hb];have s4:jq [] (a:Int)=lU [] (a:Int):=rfl;grind
  rw [ifN (by rw [e1];simp),e2,e3,ifN (by simp)];unfold qy;have hl:=G.ob.len;have hcy:=G.ai;rw [ifN (by grind),ifN,ifN,ifN]
  ·simp [hs]
  ·simp [Ea]
  ·intro h;obtain⟨y,hy,nE⟩:=jv.1 h;have:=(G.ob.each y hy).c;grind
  grind
 omega
def Ji(l:List Ac):List aN:=l.flatMap Ac.cells
theorem a1X {w:aJ} {B:Nat} {A:Option aj} {l:List Ac}(h:aW w B A (Ji l)) {k:Nat}(hk:k<aA l):
 ∃b o,A=aC ⟨b,o,aB⟩/\b<B/\w.cell? ⟨b,o+k*11,aB⟩=aC (ν l[k].k)/\w.cell? ⟨b,o+k*11+1,aB⟩=aC (aH l[k].At l[k].ts.length l[k].ct)/\w.cell? ⟨b,o+k*11+2,aB⟩=aC (aH l[k].Al l[k].ls.length l[k].cl)/\w.cell? ⟨b,o+k*11+3,aB⟩=aC (ν l[k].m)/\w.cell? ⟨b,o+k*11+4,aB⟩=aC (ν l[k].a)/\w.cell? ⟨b,o+k*11+5,aB⟩=aC (ν l[k].n)/\w.cell? ⟨b,o+k*11+6,aB⟩=aC (ν l[k].b.s)/\w.cell? ⟨b,o+k*11+7,aB⟩=aC (ν l[k].b.m)/\w.cell? ⟨b,o+k*11+8,aB⟩=aC (ν l[k].b.c)/\w.cell? ⟨b,o+k*11+9,aB⟩=aC (ν l[k].b.q)/\w.cell? ⟨b,o+k*11+10,aB⟩=aC (ν l[k].b.p):=by
 obtain⟨b,o,e,hb,hc⟩:=h.run (i:=k*11) (y:=ν l[k].k) (t:= [aH l[k].At l[k].ts.length l[k].ct,aH l[k].Al l[k].ls.length l[k].cl,ν l[k].m,ν l[k].a,ν l[k].n,ν l[k].b.s,ν l[k].b.m,ν l[k].b.c,ν l[k].b.q,ν l[k].b.p]) (λj u hu=>uP Ac.cells 11 (λ_=>rfl) l k hk j u hu);exact⟨b,o,e,hb,hc 0 _ rfl,hc 1 _ rfl,hc 2 _ rfl,hc 3 _ rfl,hc 4 _ rfl,hc 5 _ rfl,hc 6 _ rfl,hc 7 _ rfl,hc 8 _ rfl,hc 9 _ rfl,hc 10 _ rfl⟩
def zU(x:Ac):Bool:=decide (aA x.ts<=30)&&decide (aA x.ls<=60)
def Hf(x:ak)(l:List Ac):Bool:=Eh x&&(decide (aA l<=40)&&l.all zU)
theorem aFQ(x:ak)(l:List Ac)(A:Option aj)(c:Nat)(w:aJ)(hm:aA x.ms<=bM)(hs:aA x.ss<=bM)(hc:aA x.cy<=bM)(hl:aA l<=bM)(hL:∀y∈l,aA y.ts<=bM/\aA y.ls<=bM)(nC:aW w w.heap.size A (Ji l)):
 aQ aM 7 #[x.val,aH A (aA l) c] w λe w'=>e=aT (bJ (Hf x l))/\β w w':=by
 have aY:=η (mQ w x);have jL:=η (zg w x);have zB:Hid (∀W,aQ aM 22 #[x.val] W λe w'=>e=aT (bJ (Eh x))/\β W w'):=η λW=>aFS x W hm hs hc
 have HL:=η hL;have HS:=η ((nC.below aY.o).mono aY.o.size);have HF:=η (show Hf x l=(Eh x&&(decide (aA l<=40)&&l.all zU)) from rfl);unfold bM at hl;clear hm hs hc hL nC;generalize Hf x l=fb at*;generalize Eh x=fx at*;have c0:=jL.o.c0;have c1:=jL.o.c1;have c2:=jL.o.c2;have c3:=jL.o.c3;have c4:=jL.o.c4;have c5:=jL.o.c5;have c6:=jL.o.c6;have c7:=jL.o.c7;unfold ak.val at*;have cC:Hid (∀W,aa (w.alloc (aK #[aH x.Am (aA x.ms) x.cm,aH x.As (aA x.ss) x.cs,aH x.Ac (aA x.cy) x.cc,ν x.line,ν x.bV,ν x.lead,ν x.tr,ν x.bQ] 26)).heap.size (w.alloc (aK #[aH x.Am (aA x.ms) x.cm,aH x.As (aA x.ss) x.cs,aH x.Ac (aA x.cy) x.cc,ν x.line,ν x.bV,ν x.lead,ν x.tr,ν x.bQ] 26)) W->β w W/\aW W W.heap.size A (Ji l)):=η λW hW=>⟨aY.o.trans (hW.mono aY.o.size),(HS.o.below hW).mono hW.size⟩
 have J8:=η (zB.o (w.alloc (aK #[aH x.Am (aA x.ms) x.cm,aH x.As (aA x.ss) x.cs,aH x.Ac (aA x.cy) x.cc,ν x.line,ν x.bV,ν x.lead,ν x.tr,ν x.bQ] 26)));clear zB aY HS jL;go_enter func7,ntmps7
 cases fx
 ·have HG:Hid (aP=fb):=by grind
  clear HF;go_wp2_with (go_at_call 22;refine J8.o.mono ?_;rintro e w1 ⟨rfl,hb1⟩;have aR:=η (cC.o _ hb1).1;clear hb1)
  go_ret;exact⟨fQ HG.o,aR.o⟩
 by_cases h40:aA l<=40
 ·have aG9:¬(40:Int)<(aA l:Int):=by omega
  have cJ:Hid (fb=l.all zU):=by grind
  clear HF;go_wp2_with (go_at_call 22;refine J8.o.mono ?_;rintro e w1 ⟨rfl,hb1⟩;have aR:=η (cC.o _ hb1).1;have cY:=η (cC.o _ hb1).2;clear hb1 c0 c1 c2 c3 c4 c5 c6 c7)
  go_loop [5] (λi=>∃k:Nat,k<=aA l/\i=ν k/\Hid ((l.take k).all zU=aO)) (λi=>aA l-(ag i).toNat)
  case atStart=>exact⟨0,bL _,rfl,rfl⟩
  case round=>
   obtain⟨k,hk,rfl,HK⟩:=hrel;by_cases hlt:k<aA l
   ·obtain⟨b,o,rfl,hb,d0,d1,d2,d3,d4,d5,d6,d7,d8,d9,d10⟩:=a1X cY.o hlt;have pM:=HL.o l[k] (cK hlt);unfold bM at pM;clear d0 d3 d4 d5 d6 d7 d8 d9 d10;by_cases h30:l[k].ts.length<=30
    ·by_cases h60:l[k].ls.length<=60
     ·have HA:Hid ((l.take (k+1)).all zU=aO):=by
       grind [fE,zU]
      go_wp2_with fail
      go_round
      case rel=>grind
      case measure=>simp [ag];omega
     have hA:aP=l.all zU:=by symm;grind [cK,zU]
     have HA:=η hA;clear hA;go_wp2_with fail
     go_ret;exact⟨fQ (HA.o.trans cJ.o.symm),aR.o⟩
    have hA:aP=l.all zU:=by symm;grind [cK,zU]
    have HA:=η hA;clear hA;go_wp2_with fail
    go_ret;exact⟨fQ (HA.o.trans cJ.o.symm),aR.o⟩
   obtain rfl:k=aA l:=by omega
   have hA:=HK.o;rw [cT] at hA;have HA:=η hA;clear hA;go_wp2_with fail
   go_ret;exact⟨fQ (HA.o.symm.trans cJ.o.symm),aR.o⟩
 have aG9:(40:Int)<(aA l:Int):=by omega
 have HG:Hid (aP=fb):=by grind
 clear HF;go_wp2_with (go_at_call 22;refine J8.o.mono ?_;rintro e w1 ⟨rfl,hb1⟩;have aR:=η (cC.o _ hb1).1;clear hb1)
 go_ret;exact⟨fQ HG.o,aR.o⟩
theorem aH0(db:Nat)(p:Dp)(D:Dk)(g:Nat)(w:aJ)(H:bW w db p D)(I:Inv g D)(hg:g+1700<=90000):
 aQ aM 17 #[π db] w λe w'=>e=aT (bJ (decide (D.st=0)))/\β w w':=by
 obtain⟨C,K,hC⟩:=I.ig;have CK:=η (aEg db p D w H (K.ok (by omega)));have R:=I.Ig hg ⟨0,[],aB,0,[],aB,0,0,0,0,⟨0,0,0,0,0⟩⟩;have qU:=η (λBP p2 W (H2:bW W BP p2 D)=>V9 BP p2 D [] aB 0 W H2 (λj u hu=>by simp [bA] at hu) (by simp) (by simp) (R.nt [] (by simp) (by simp)));have HI:=η (aIM I);clear H I K R hC hg;have fY:Hid (D.st=0->lT D []=0\/lT D []=6):=η λh=>HI.o.2 h
 have qQ:Hid (¬D.st=0->¬lT D []=0/\¬lT D []=6):=η λh=>⟨λe=>h (HI.o.1 (.inl e)),λe=>h (HI.o.1 (.inr e))⟩
 clear HI;obtain⟨E,hE⟩:∃E,E=lT D []:=⟨_,rfl⟩;have TU:=η (λBP p2 W (H2:bW W BP p2 D)=>(show aQ aM 26 #[π BP,aH aB 0 0] W λe w'=>e=aT (ν E)/\aq BP p2 (xe D []) W w' from by rw [hE];exact qU.o BP p2 W H2));rw [<-hE] at fY qQ;clear qU hE;by_cases hs:D.st=0
 ·rw [decide_eq_true hs];have HI:=fY.o hs;clear fY qQ hs;rcases HI with h|h
  ·subst h;go_enter a0a,a0u
   go_wp2_with (first|(go_at_call 42;refine CK.o.mono ?_;rintro e w1 ⟨BP,p2,rfl,h2,hs2,hb1⟩;have oX:=η h2;have cM:=η hs2;have aR:=η hb1;clear h2 hs2 hb1)|(go_at_call 26;refine(TU.o _ _ _ oX.o).mono ?_;rintro e w2 ⟨rfl,jV⟩;have aV:Hid (β w w2):=η (by obtain⟨_,_,_,_,_,_,hu,_⟩:=jV;exact aR.o.trans (hu.toBelow aR.o.size (λk hk=>cM.o k hk)));clear jV))
   go_ret;exact⟨rfl,aV.o⟩
  subst h;go_enter a0a,a0u
  go_wp2_with (first|(go_at_call 42;refine CK.o.mono ?_;rintro e w1 ⟨BP,p2,rfl,h2,hs2,hb1⟩;have oX:=η h2;have cM:=η hs2;have aR:=η hb1;clear h2 hs2 hb1)|(go_at_call 26;refine(TU.o _ _ _ oX.o).mono ?_;rintro e w2 ⟨rfl,jV⟩;have aV:Hid (β w w2):=η (by obtain⟨_,_,_,_,_,_,hu,_⟩:=jV;exact aR.o.trans (hu.toBelow aR.o.size (λk hk=>cM.o k hk)));clear jV))
  go_ret;exact⟨rfl,aV.o⟩
 rw [decide_eq_false hs];obtain⟨n0,n6⟩:=qQ.o hs;have n0':(E==0)=aP:=by simpa using n0
 have n6':(E==6)=aP:=by simpa using n6
 clear fY qQ hs;go_enter a0a,a0u
 go_wp2_with (first|(go_at_call 42;refine CK.o.mono ?_;rintro e w1 ⟨BP,p2,rfl,h2,hs2,hb1⟩;have oX:=η h2;have cM:=η hs2;have aR:=η hb1;clear h2 hs2 hb1)|(go_at_call 26;refine(TU.o _ _ _ oX.o).mono ?_;rintro e w2 ⟨rfl,jV⟩;have aV:Hid (β w w2):=η (by obtain⟨_,_,_,_,_,_,hu,_⟩:=jV;exact aR.o.trans (hu.toBelow aR.o.size (λk hk=>cM.o k hk)));clear jV))
 go_ret;exact⟨rfl,aV.o⟩
structure uy(w:aJ)(db hb:Nat)(x:ak)(g:Nat)(D:Dk)(W:aJ):Prop where
 pl:∃p,bW W db p D/\∀k,eV db p k->w.heap.size<=k/\k≠hb
 bl:β w W
 inv:Inv g D
 ms:D.x.ms=x.ms
 ss:D.x.ss=x.ss
 hb:hb<W.heap.size
theorem uy.below {w W W':aJ} {db hb g:Nat} {x:ak} {D:Dk}(h:uy w db hb x g D W)(hW:aa W.heap.size W W'):uy w db hb x g D W':=by obtain⟨p,H,hs⟩:=h.pl;exact⟨⟨p,H.below hW,hs⟩,h.bl.trans (hW.mono h.bl.size),h.inv,h.ms,h.ss,cP h.hb hW.size⟩
theorem uy.step {w W W':aJ} {db hb g:Nat} {x:ak} {D D':Dk} {y:Ac} {p:Dp}(h:uy w db hb x g D W)(hs:∀k,eV db p k->w.heap.size<=k/\k≠hb)(hg:g+1700<=90000)(hR:vD D y D')(hP:aq db p D' W W'):uy w db hb x (g+1700) D' W'/\Cr D y D'/\W'.heap[hb]? =W.heap[hb]? :=by obtain⟨I,T⟩:=h.inv.step hg hR;obtain⟨p',H',_,_,_,_,hu,hs'⟩:=hP;have hz:=h.bl.size;have hh:=h.hb;refine⟨⟨⟨p',H',λk hk=> ?_⟩,h.bl.trans (hu.toBelow hz (λk hk=>(hs k hk).1)),I,by rw [T.cf];exact h.ms,by rw [T.cf];exact h.ss,cP hh hu.size⟩,T,hu.keep hb hh (λe=>(hs hb e).2 rfl)⟩;grind
def aAR(w:aJ)(db hb:Nat)(x:ak)(g:Nat)(D:Dk)(y:Ac)(W:aJ)(e:dU)(W':aJ):Prop:=e=aT (bB #[])/\∃D',uy w db hb x (g+1700) D' W'/\Cr D y D'/\W'.heap[hb]? =W.heap[hb]?
theorem aHW {w W:aJ} {db hb g:Nat} {x:ak} {D:Dk} {y:Ac}(h:uy w db hb x g D W)(hg:g+1700<=90000)(hy:y.ok)(ha:y.at w)(hn:aA y.ts<=30)(hl:aA y.ls<=60):
 aQ aM 12 #[π db,y.val] W (aAR w db hb x g D y W):=by
 obtain⟨p,H,hs⟩:=h.pl;refine(aKD db p D y W H hy (ha.below h.bl) hn hl (h.inv.Ig hg y)).mono ?_;rintro e W' ⟨rfl,D',hR,hP⟩;exact⟨rfl,D',h.step hs hg hR hP⟩
theorem aHS {w W:aJ} {db hb g:Nat} {x:ak} {D:Dk}(h:uy w db hb x g D W)(hg:g+1700<=90000):
 aQ aM 17 #[π db] W λe W'=>e=aT (bJ (decide (D.st=0)))/\β W W':=by
 obtain⟨p,H,_⟩:=h.pl;exact aH0 db p D g W H h.inv hg
theorem aHU {w W:aJ} {db hb g:Nat} {x:ak} {D:Dk}(h:uy w db hb x g D W):
 aQ aM 13 #[π db] W (pY 3 1 (aA D.who) (D.who.map (aG aF)) W):=by
 obtain⟨p,H,_⟩:=h.pl;obtain⟨C,K,_⟩:=h.inv.ig;exact aEh db p D W H (by have:=K.who.len;have:=K.hs.ml;omega)
theorem aHR {w W:aJ} {db hb g:Nat} {x:ak} {D:Dk}(h:uy w db hb x g D W):
 aQ aM 18 #[π db] W (yx W D.ob):=by
 obtain⟨p,H,_⟩:=h.pl;obtain⟨C,K,_⟩:=h.inv.ig;exact aEd db p D W H (by have:=K.ob.len;have:=K.ai;omega)
def a8w(w:aJ)(hb:Nat)(x:ak)(W:aJ)(e:dU)(W':aJ):Prop:=∃db D,e=aT (bB #[bF (aC ⟨db,0,aB⟩),aG aF 0])/\uy w db hb x 0 D W'/\aa W.heap.size W W'/\D.log= []/\W.heap.size<=db
theorem aHT {w W:aJ} {hb:Nat} {x:ak}(hB:aa w.heap.size w W)(hh:hb<W.heap.size)(h:uh W x)(dR:okB x=aO):
 aQ aM 10 #[x.val] W (a8w w hb x W):=by
 have hx:=Qo dR;have hm:=hx.ml;have hs:=hx.sl;have hc:=hx.cl;refine(a2R x W h (by grind [zh]) (by omega) (by omega) (by omega)).mono ?_;rintro e W' ⟨db,p,Am,cm,As,cs,Ac,cc,rfl,H,hS,hb'⟩;have hx2:GH {x with Am:=Am,cm:=cm,As:=As,cs:=cs,Ac:=Ac,cc:=cc}:=⟨hx.ml,hx.sl,hx.cl,hx.mI,hx.sI,hx.li,hx.ca,hx.bd⟩;have hz:=hB.size;exact⟨db,_,rfl,⟨⟨p,H,λk hk=>by grind⟩,hB.trans (hb'.mono hz),a4p hx2,rfl,rfl,cP hh hb'.size⟩,hb',rfl,hS db (.inl rfl)⟩
theorem Inv.fair {g:Nat} {D:Dk}(I:Inv g D):(∀k m a,tH k=aP->0<=B D k m a)/\(D.st=0->∀m a,B D 1 m a=0)/\(D.st=0->∀y∈D.ob,y.st≠1):=by
 obtain⟨C,K,_⟩:=I.ig;refine⟨λk m a h=>K.bE.ok.nn h m a,λhs m a=> ?_,λhs y hy e=>(I.Bw hs).2.2.2 y hy (ua.2 e)⟩;obtain⟨_,F,_,ho⟩:=I.Bw hs;by_cases hm:m=0
 ·subst hm;rw [F.hd];grind [Dl,oF,ua]
 grind [Gm,plcA,jn]
section
theorem aFR {x:ak} {l:List Ac}(h:Hf x l=aO):(aA x.ms<=20/\aA x.ss<=20/\aA x.cy<=20)/\aA l<=40/\∀y∈l,aA y.ts<=30/\aA y.ls<=60:=by grind [Hf,Eh,zU]
def D7(Am:Option aj)(cm:Nat)(As:Option aj)(cs:Nat)(Ac:Option aj)(cc:Nat):ak:=⟨[⟨1000,100⟩,⟨1000,100⟩,⟨1000,100⟩],Am,cm,[⟨10,12⟩],As,cs,[⟨4,7,9,10⟩],Ac,cc,500,200,1,64,32⟩
def Jk:List Lg:= [⟨1,0,30⟩,⟨1,1,-10⟩,⟨3,0,-30⟩,⟨3,1,10⟩]
section
variable (x:ak)
def Up:Dk:=Bn x
def Lz:Dk:=vK (Up x)
def vH:Dk:=xe (Lz x) Jk
def M0:Dk:=zn (vH x) (pR (vH x) 3 1 10 7 3 1 0 5 (j6 3 1 10 (vH x).ob) (kS 3 1 10 (vH x).ob))
def zX:Dk:=DD (M0 x)
def yP:Dk:=pU (zX x)
end
def awB(x:ak):Bool:=decide (MD (Up x)=0)&&decide (lT (Lz x) Jk=0)&&decide (Jy (vH x) (Bl (vH x) 3 1 (j6 3 1 10 (vH x).ob) (kS 3 1 10 (vH x).ob))=0)&&decide (Jx (vH x) (Bk (vH x) 3 1 (j6 3 1 10 (vH x).ob) (kS 3 1 10 (vH x).ob))=0)&&(Hb (M0 x)==aP)&&decide (Ha (M0 x)=0)&&decide (Ii (zX x)=0)&&decide ((zX x).st=2)&&decide (jK (zX x) 1=0)&&decide (B (yP x) 2 0 1=10)&&decide (B (yP x) 8 1 0=970)
theorem aCo(Am:Option aj)(cm:Nat)(As:Option aj)(cs:Nat)(Ac:Option aj)(cc:Nat):awB (D7 Am cm As cs Ac cc)=aO:=by kernel_rfl
end
section
structure kH(w:aJ)(db:Nat)(g:Nat)(D:Dk)(W:aJ):Prop where
 pl:∃p,bW W db p D/\∀k,eV db p k->w.heap.size<=k
 bl:β w W
 inv:Inv g D
theorem kH.below {w W W':aJ} {db g:Nat} {D:Dk}(h:kH w db g D W)(hW:aa W.heap.size W W'):kH w db g D W':=by obtain⟨p,H,hs⟩:=h.pl;exact⟨⟨p,H.below hW,hs⟩,h.bl.trans (hW.mono h.bl.size),h.inv⟩
theorem kH.step {w W W':aJ} {db g:Nat} {D D':Dk} {p:Dp}(y:Ac)(h:kH w db g D W)(hs:∀k,eV db p k->w.heap.size<=k)(hg:g+1700<=90000)(hR:vD D y D')(hP:aq db p D' W W'):kH w db (g+1700) D' W':=by obtain⟨I,_⟩:=h.inv.step hg hR;obtain⟨p',H',_,_,_,_,hu,hs'⟩:=hP;have hz:=h.bl.size;refine⟨⟨p',H',λk hk=> ?_⟩,h.bl.trans (hu.toBelow hz (λk hk=>hs k hk)),I⟩;grind
def BJ(k m a n:Int):Ac:=⟨k,[],aB,0,[],aB,0,m,a,n,⟨0,0,0,0,0⟩⟩
section
variable {w W:aJ} {db g:Nat} {D:Dk} (h:kH w db g D W) (hg:g+1700<=90000)
include h hg
theorem aCq:aQ aM 25 #[bF (aC ⟨db,0,aB⟩)] W λe W'=>e=aT (aG aF (MD D))/\kH w db (g+1700) (vK D) W':=by obtain⟨p,H,hs⟩:=h.pl;refine(a2a db p D W H (h.inv.Ig hg (BJ 8 0 0 0)).en).mono ?_;rintro e W' ⟨rfl,hP⟩;exact⟨rfl,h.step (BJ 8 0 0 0) hs hg (.Jv rfl) hP⟩
theorem aCr(L:List Lg)(A:Option aj)(c:Nat)(hS:aW W W.heap.size A (bA L))(hI:∀y∈L,y.ok)(hl:aA L<=120):aQ aM 26 #[bF (aC ⟨db,0,aB⟩),aH A (aA L) c] W λe W'=>e=aT (aG aF (lT D L))/\kH w db (g+1700) (xe D L) W':=by obtain⟨p,H,hs⟩:=h.pl;refine(V9 db p D L A c W H hS hI (by omega) ((h.inv.Ig hg (BJ 0 0 0 0)).nt L hl hI)).mono ?_;rintro e W' ⟨rfl,hP⟩;exact⟨rfl,h.step (BJ 0 0 0 0) hs hg (.az (.inl (by decide)) hl hI) hP⟩
theorem aCs(m a n:Int)(hm:aL m)(ha:aL a)(hn:aL n):aQ aM 27 #[bF (aC ⟨db,0,aB⟩),aG aF m,aG aF a,aG aF n] W λe W'=>e=aT (bB #[aG aF (Jy D (Bl D m a (j6 m a n D.ob) (kS m a n D.ob))),aG aF (Jx D (Bk D m a (j6 m a n D.ob) (kS m a n D.ob)))])/\kH w db (g+1700) (zn D (pR D m a n 7 m 1 0 5 (j6 m a n D.ob) (kS m a n D.ob))) W':=by obtain⟨p,H,hs⟩:=h.pl;refine(a2b db p D m a n W H (h.inv.Ig hg (BJ 1 m a n)).ok hm ha hn).mono ?_;rintro e W' ⟨rfl,hP⟩;exact⟨rfl,h.step (BJ 1 m a n) hs hg (.pay rfl) hP⟩
theorem aCp:aQ aM 28 #[bF (aC ⟨db,0,aB⟩)] W λe W'=>e=aT (bB #[bJ (Hb D),aG aF (Ha D)])/\kH w db (g+1700) (DD D) W':=by obtain⟨p,H,hs⟩:=h.pl;refine(a2Z db p D W H (h.inv.Ig hg (BJ 5 0 0 0)).due).mono ?_;rintro e W' ⟨rfl,hP⟩;exact⟨rfl,h.step (BJ 5 0 0 0) hs hg (.due rfl) hP⟩
theorem aCu:aQ aM 29 #[bF (aC ⟨db,0,aB⟩)] W λe W'=>e=aT (aG aF (Ii D))/\∃D',Jg D D'/\kH w db (g+1700) D' W':=by obtain⟨p,H,hs⟩:=h.pl;refine(a2c db p D W H (h.inv.Ig hg (BJ 7 0 0 0)).set).mono ?_;rintro e W' ⟨rfl,D',hR,hP⟩;exact⟨rfl,D',hR,h.step (BJ 7 0 0 0) hs hg (.set rfl hR) hP⟩
omit hg in
theorem a1n(k m a:Int)(hk:aL k)(hm:aL m):
 aQ aM 14 #[π db,bU #[ν k,ν m],ν a] W λe W'=>e=aT (bB #[ν (B D k m a),ν (oN (plcA (aA D.x.ms) (aA D.x.ss+1) k m a))])/\kH w db g D W':=by
 obtain⟨p,H,_⟩:=h.pl;refine(aEe db p D k m a W H hk hm).mono ?_;rintro e W' ⟨rfl,hb⟩;exact⟨rfl,h.below hb⟩
end
theorem aCt {x:ak} {D':Dk}(h1:(zX x).st=2)(h2:jK (zX x) 1=0)(hs:(zX x).x.ss.length=1)(h:Jg (zX x) D'):D'=yP x:=by
 rcases h with⟨hn,_⟩|⟨_,E,hB,rfl⟩
 ·exact absurd h1 hn
 rw [hs] at hB;cases hB with
 |succ hB hR=>
  cases hB with
  |zero=>
   rcases hR with⟨_,rfl⟩|⟨hn,_⟩
   ·rfl
   exact absurd h2 hn
theorem aKN(W:aJ):aW (W.alloc (aK #[aG aF 1,aG aF 0,aG aF 30,aG aF 1,aG aF 1,aG aF (-10),aG aF 3,aG aF 0,aG aF (-30),aG aF 3,aG aF 1,aG aF 10] 76)) (W.alloc (aK #[aG aF 1,aG aF 0,aG aF 30,aG aF 1,aG aF 1,aG aF (-10),aG aF 3,aG aF 0,aG aF (-30),aG aF 3,aG aF 1,aG aF 10] 76)).heap.size (aC ⟨W.heap.size,0,aB⟩) (bA Jk):=λj u hu=>
 ⟨W.heap.size,0,rfl,by simp,by have:=dN W 76 #[ν 1,ν 0,ν 30,ν 1,ν 1,ν (-10),ν 3,ν 0,ν (-30),ν 3,ν 1,ν 10] rfl j u hu;grind [D3]⟩
def aAT(w:aJ)(db:Nat)(x:ak)(e:dU)(W':aJ):Prop:=e=aT (aG aF 0)/\kH w db 8500 (yP x) W'
theorem Uq(w:aJ):aQ aM 9 #[] w λe w'=>e=aT (bJ aO)/\aa w.heap.size w w':=by
 have eI:=η (aJK w);have OW:=η (λW x (h:uh W x) (hk:zh x=0) (hm:aA x.ms<=16) (hs:aA x.ss<=8) (hc:aA x.cy<=100)=>a2R x W h hk hm hs hc);go_enter func9,ntmps9
 go_wp2_with fail
 refine eI.o.mono ?_;rintro e w1 ⟨Am,cm,As,cs,Ac,cc,rfl,IE,hb1⟩;have aR:=η hb1;have uq:=η (OW.o w1 _ IE (by kernel_rfl) (by show 3<=16;omega) (by show 1<=8;omega) (by show 1<=100;omega));unfold ak.val at uq ⊢;go_wp2_with fail
 refine uq.o.mono ?_;rintro e w2 ⟨db,p,CB,D8,CC,DB,CA,D6,rfl,H2,hS2,hb2⟩;have hx:GH (D7 CB D8 CC DB CA D6):=Qo (by kernel_rfl);have hz1:=aR.o.size;have fY:Hid (kH w db 0 (Up (D7 CB D8 CC DB CA D6)) w2):=η ⟨⟨p,H2,λk hk=>by grind⟩,aR.o.trans (hb2.mono hz1),a4p hx⟩;have hall:=aCo CB D8 CC DB CA D6;have Qr:(zX (D7 CB D8 CC DB CA D6)).x.ss.length=1:=by kernel_rfl
 have kB:oN (plcA (yP (D7 CB D8 CC DB CA D6)).x.ms.length ((yP (D7 CB D8 CC DB CA D6)).x.ss.length+1) 2 0 1)=0:=by kernel_rfl
 have lz:oN (plcA (yP (D7 CB D8 CC DB CA D6)).x.ms.length ((yP (D7 CB D8 CC DB CA D6)).x.ss.length+1) 8 1 0)=0:=by kernel_rfl
 generalize D7 CB D8 CC DB CA D6=x at*;unfold awB at hall;simp only [jb,decide_eq_true_eq,beq_iff_eq] at hall;obtain⟨⟨⟨⟨⟨⟨⟨⟨⟨⟨f1,f2⟩,f3⟩,f4⟩,f5⟩,f6⟩,f7⟩,f8⟩,f9⟩,f10⟩,f11⟩:=hall;have T1:Hid (aQ aM 25 #[π db] w2 λe W'=>e=aT (ν 0)/\kH w db 1700 (Lz x) W'):=η (by have:=aCq fY.o (by omega);rw [f1] at this;exact this);have T2:=η (λW (h:kH w db 1700 (Lz x) W) A c (hS:aW W W.heap.size A (bA Jk))=>(show aQ aM 26 #[π db,aH A 4 c] W λe W'=>e=aT (ν 0)/\kH w db 3400 (vH x) W' from by have:=aCr h (by omega) Jk A c hS (by intro y hy;simp [Jk] at hy;rcases hy with rfl|rfl|rfl|rfl<;>exact⟨by decide,by decide,by decide⟩) (by decide);rw [f2] at this;exact this));have T3:=η (λW (h:kH w db 3400 (vH x) W)=>(show aQ aM 27 #[π db,ν 3,ν 1,ν 10] W λe W'=>e=aT (bB #[ν 0,ν 0])/\kH w db 5100 (M0 x) W' from by have:=aCs h (by omega) 3 1 10 (by decide) (by decide) (by decide);rw [f3,f4] at this;exact this));have T4:=η (λW (h:kH w db 5100 (M0 x) W)=>(show aQ aM 28 #[π db] W λe W'=>e=aT (bB #[bJ aP,ν 0])/\kH w db 6800 (zX x) W' from by have:=aCp h (by omega);rw [f5,f6] at this;exact this));have T5:=η (λW (h:kH w db 6800 (zX x) W)=>(show aQ aM 29 #[π db] W (aAT w db x) from by refine(aCu h (by omega)).mono ?_;rintro e W' ⟨rfl,D',hR,hI⟩;obtain rfl:=aCt f8 f9 Qr hR;exact⟨by rw [f7],hI⟩));have T6:=η (λW (h:kH w db 8500 (yP x) W)=>(show aQ aM 14 #[π db,bU #[ν 2,ν 0],ν 1] W λe W'=>e=aT (bB #[ν 10,ν 0])/\kH w db 8500 (yP x) W' from by have:=a1n h 2 0 1 (by decide) (by decide);rw [f10,kB] at this;exact this));have T7:=η (λW (h:kH w db 8500 (yP x) W)=>(show aQ aM 14 #[π db,bU #[ν 8,ν 1],ν 0] W λe W'=>e=aT (bB #[ν 970,ν 0])/\kH w db 8500 (yP x) W' from by have:=a1n h 8 1 0 (by decide) (by decide);rw [f11,lz] at this;exact this));go_wp2_with fail
 refine T1.o.mono ?_;rintro e w3 ⟨rfl,h3⟩;have H3:=η h3;go_upto_region 3 with (fail)
 have H4:Hid (kH w db 1700 (Lz x) (w3.alloc (aK #[ν 1,ν 0,ν 30,ν 1,ν 1,ν (-10),ν 3,ν 0,ν (-30),ν 3,ν 1,ν 10] 76))):=η (H3.o.below σ);have T2':=η (T2.o _ H4.o _ 4 (aKN w3));go_wp2_with fail
 refine T2'.o.mono ?_;rintro e w4 ⟨rfl,h4⟩;have H5:=η h4;go_wp2_with fail
 refine(T3.o _ H5.o).mono ?_;rintro e w5 ⟨rfl,h5⟩;have H6:=η h5;go_wp2_with fail
 refine(T4.o _ H6.o).mono ?_;rintro e w6 ⟨rfl,h6⟩;have H7:=η h6;go_wp2_with fail
 refine(T5.o _ H7.o).mono ?_;rintro e w7 ⟨rfl,h7⟩;have H8:=η h7;go_wp2_with fail
 refine(T6.o _ H8.o).mono ?_;rintro e w8 ⟨rfl,h8⟩;have H9:=η h8;go_wp2_with fail
 refine(T7.o _ H9.o).mono ?_;rintro e w9 ⟨rfl,h9⟩;have H10:=η h9.bl;go_wp2_with fail
 go_ret;exact⟨rfl,H10.o⟩
end
section
open Go.ChangeShapes Go.WideShapes Go.ChangeAt Go.Joins Go.Deep
theorem VQ {α:Type}(f:α->List aN)(n:Nat)(hf:∀a,aA (f a)=n):∀(l:List α) (J:Nat) (u:aN),(l.flatMap f)[J]? =aC u->∃(k:Nat) (hk:k<aA l) (j:Nat),J=k*n+j/\(f l[k])[j]? =aC u
 | [],J,u,h=>by simp at h
 |a::l,J,u,h=>by
  rw [wZ] at h;by_cases hJ:J<n
  ·rw [List.getElem?_append_left (by rw [hf];exact hJ)] at h;exact⟨0,by simp,J,by simp,h⟩
  rw [List.getElem?_append_right (by rw [hf];omega),hf] at h;obtain⟨k,hk,j,e,hj⟩:=VQ f n hf l _ u h;refine⟨k+1,by simpa using hk,j, ?_,hj⟩;rw [Nat.succ_mul];omega
theorem a1b {w:aJ} {a:aj} {v:aN}(h:w.cell? a=aC v):a=⟨a.block,a.off,aB⟩/\a.block<w.heap.size:=by
 obtain⟨b,o,s⟩:=a;unfold World.cell? at h;cases hb:w.heap[b]? with
 |none=>simp [hb] at h
 |some ob=>
  refine⟨?_,(fW.1 hb).1⟩;cases ob<;>simp [hb] at h;cases s with
  |none=>rfl
  |some x=>simp at h
theorem a1Z(b o n:Nat):(⟨b,o,aB⟩:aj).add n=⟨b,o+n,aB⟩:=by unfold Addr.add;split<;>simp_all
theorem a9g {n:Int}(h:(Lit.int aF n).wf=aO):aL n:=by simp only [Lit.wf,IntKind.min,IntKind.max,IntKind.signed,a0C,jb,decide_eq_true_eq,if_true] at h;unfold aL;omega
section
variable {H:Type} {enc:bY×aN->H} {P:Program} {w:aJ}
def Reads(enc:bY×aN->H)(P:Program)(w:aJ)(t:bY)(v:aN):Prop:=∃n x,a8f enc P w 0 (λ_=>aO) aO n t [v]=aC x
theorem Reads.int {t:bY} {v:aN}(ht:P.underlying t=aC (.int aF))(h:Reads enc P w t v):∃n,v= .int aF n/\aL n:=by obtain⟨n,x,h⟩:=h;obtain⟨y,e1,_,wy⟩:=DataW.trod_int ht h;simp only [List.cons.injEq,and_true] at e1;exact⟨y,e1,a9g wy⟩
theorem aJp {t:bY} {v:aN} {d:DataW H} {p:List MemPlace}(hc:v.cells.toList= [v])(h:DataW.Trod enc P w 0 (λ_=>aO) aO t v d p):Reads enc P w t v:=by obtain⟨n,h⟩:=h;rw [hc] at h;exact⟨n,_,h⟩
structure UI(enc:bY×aN->H)(P:Program)(w:aJ)(fs:Array Field)(x:List aN):Prop where
 len:aA x=fs.size
 cell:∀(j:Nat) (f:Field) (v:aN),fs[j]? =aC f->x[j]? =aC v->Reads enc P w f.type v
theorem Kb {t e:bY} {fs:Array Field} {v:aN}(ht:P.underlying t=aC (.slice e))(he:P.underlying e=aC (.struct fs))(KF:oneCellFields P fs=aO)(hC:P.cellsOf e=fs.size)(h0:0<fs.size)
 (h:Reads enc P w t v):
 ∃(A:Option aj) (c:Nat) (rows:List (List aN)),v= .slice A (aA rows) c/\aA rows<=c/\c<=bM/\(∀x∈rows,UI enc P w fs x)/\aW w w.heap.size A (rows.flatMap id):=by
 obtain⟨fuel,x,hf⟩:=h;rcases open_slice ht hf with⟨hcs,_⟩|⟨a,len,cap,m,n,D,Pl,hcs,hb,hl,hm,mR,hx,hi⟩
 ·simp at hcs;subst hcs;exact⟨aB,0,[],rfl,by simp,by simp,by simp,aW.nil⟩
 simp at hcs;subst hcs;simp only [if_true] at mR;subst mR;have hrow:∀i,∃x:List aN,i<len->UI enc P w fs x/\∀j y,x[j]? =aC y->w.cell? (a.add (i*fs.size+j))=aC y:=by
  intro i;by_cases nY:i<len
  ·obtain⟨cs',hc,AG⟩:=hi i (by omega);rw [hC] at hc;obtain⟨ys,n',KC,hy,hlen,Bc,gV⟩:=Yq he AG;obtain⟨_,jz,hat⟩:=aCI hc;refine⟨cs',λ_=>⟨⟨jz, ?_⟩, ?_⟩⟩
   ·intro j f v Mi hv;obtain⟨ho,hk⟩:=hone_of KF j _ Mi;have h1:=gV j _ Mi;have qw:=(zP.1 hv).1;rw [ho,hk] at h1;have Wd:(cs'.drop j).take 1= [v]:=by
     rw [Ja qw,(zP.1 hv).2];rfl
    rw [Wd] at h1;have I4:j<aA ys:=by omega
    rw [iD I4] at h1;exact⟨_,_,h1⟩
   intro j y hy;have qw:=(zP.1 hy).1;rw [<-a1a,hat j (by omega)];exact hy
  exact⟨[],λh=>absurd h nY⟩
 obtain⟨g,hg⟩:=Yn.1 hrow;have My:aA ((dQ len).map g)=len:=by simp
 refine⟨aC a,_,(dQ len).map g,by rw [My],by rw [My];exact hl,hm, ?_, ?_⟩
 ·intro x hx;obtain⟨i,hi',rfl⟩:=dW.1 hx;exact(hg i (nP.1 hi')).1
 intro J u hu;have Wt:((dQ len).flatMap g)[J]? =aC u:=by rw [a9t] at hu;exact hu
 have Wi:∀i,aA (if i<len then g i else gP fs.size (aG aF 0))=fs.size:=by
  intro i;split
  ·rename_i nY;exact(hg i nY).1.len
  simp
 have vg:((dQ len).flatMap (λi=>if i<len then g i else gP fs.size (aG aF 0)))[J]? =aC u:=by
  have e:(dQ len).flatMap (λi=>if i<len then g i else gP fs.size (aG aF 0))=(dQ len).flatMap g:=by rw [U9,U9];congr 1;exact Jb λi hi=>by rw [ifP (nP.1 hi)]
  rw [e];exact Wt
 obtain⟨k,hk,j,rfl,hj⟩:=VQ _ fs.size Wi _ J u vg;have eF:k<len:=by simpa using hk
 have ek:(dQ len)[k]=k:=by simp
 rw [ek,ifP eF] at hj;have hc:=(hg k eF).2 j u hj;obtain⟨x,hx0⟩:∃x,(g 0)[0]? =aC x:=by have hl0:=(hg 0 (by omega)).1.len;exact⟨_,iD (by rw [hl0];exact h0)⟩
 have hc0:=(hg 0 (by omega)).2 0 x hx0;have ea:a.add (0*fs.size+0)=a:=by simp [Addr.add]
 rw [ea] at hc0;obtain⟨e1,e2⟩:=a1b hc0;refine⟨a.block,a.off,by rw [<-e1],e2, ?_⟩;rw [<-a1Z,<-e1];exact hc
end
theorem Fa {α:Type}(f:α->List aN)(R:α->Prop):∀(rows:List (List aN)),(∀x∈rows,∃a,x=f a/\R a)->∃l:List α,aA l=aA rows/\rows.flatMap id=l.flatMap f/\∀a∈l,R a
 | [],_=>⟨[],rfl,rfl,by simp⟩
 |x::rows,h=>by
  obtain⟨a,rfl,ha⟩:=h x (by simp);obtain⟨l,h1,h2,h3⟩:=Fa f R rows λy hy=>h y (by simp [hy])
  refine⟨a::l,by simp [h1],by simp [h2], ?_⟩;intro b hb;rcases fC.1 hb with rfl|hb
  ·exact ha
  exact h3 b hb
end
section
open Go.ChangeShapes Go.WideShapes Go.ChangeAt Go.Joins Go.Deep
section
variable {H:Type} {enc:bY×aN->H} {w:aJ}
theorem XT {P:Program} {t e:bY} {A:Option aj} {n c:Nat}(ht:P.underlying t=aC (.slice e))(h:Reads enc P w t (.slice A n c)):A=aB->n=0/\c=0:=by
 obtain⟨fuel,x,hf⟩:=h;rcases open_slice ht hf with⟨hcs,_⟩|⟨a,len,cap,m,n',D,Pl,hcs,_⟩
 ·simp at hcs;exact λ_=>hcs.2
 simp at hcs;intro h;rw [hcs.1] at h;cases h
end
end
section
open Go.ChangeShapes Go.WideShapes Go.ChangeAt Go.Joins Go.Deep
section
variable {H:Type} {enc:bY×aN->H} {P:Program} {w:aJ}
def qE(enc:bY×aN->H)(P:Program)(w:aJ)(t:bY)(cs:List aN):Prop:=∃n x,a8f enc P w 0 (λ_=>aO) aO n t cs=aC x
theorem qE.fields {t:bY} {fs:Array Field} {cs:List aN}(ht:P.underlying t=aC (.struct fs))(h:qE enc P w t cs):
 ∀(i:Nat) (f:Field),fs[i]? =aC f->qE enc P w f.type ((cs.drop f.offset).take (P.cellsOf f.type)):=by
 obtain⟨fuel,x,h⟩:=h;obtain⟨xs,n,rfl,rfl,hl,nD,gV⟩:=Yq ht h;intro i f hf;have hi:=(fW.1 hf).1;have h1:=gV i f hf;rw [iD (show i<(aA xs) by omega)] at h1;exact⟨n,_,h1⟩
theorem aIf {t e:bY} {N:Nat} {v:aN}(ht:P.underlying t=aC (.slice e))(hC:P.cellsOf e=N)(h0:0<N)
 (h:Reads enc P w t v):
 ∃(A:Option aj) (c:Nat) (rows:List (List aN)),v= .slice A (aA rows) c/\aA rows<=c/\c<=bM/\(∀x∈rows,aA x=N/\qE enc P w e x)/\aW w w.heap.size A (rows.flatMap id):=by
 obtain⟨fuel,x,hf⟩:=h;rcases open_slice ht hf with⟨hcs,_⟩|⟨a,len,cap,m,n,D,Pl,hcs,hb,hl,hm,mR,hx,hi⟩
 ·simp at hcs;subst hcs;exact⟨aB,0,[],rfl,by simp,by simp,by simp,aW.nil⟩
 simp at hcs;subst hcs;simp only [if_true] at mR;subst mR;have hrow:∀i,∃x:List aN,i<len->(aA x=N/\qE enc P w e x)/\∀j y,x[j]? =aC y->w.cell? (a.add (i*N+j))=aC y:=by
  intro i;by_cases nY:i<len
  ·obtain⟨cs',hc,AG⟩:=hi i (by omega);rw [hC] at hc;obtain⟨_,jz,hat⟩:=aCI hc;refine⟨cs',λ_=>⟨⟨jz,⟨_,_,AG⟩⟩, ?_⟩⟩;intro j y hy;have qw:=(zP.1 hy).1;rw [<-a1a,hat j (by omega)];exact hy
  exact⟨[],λh=>absurd h nY⟩
 obtain⟨g,hg⟩:=Yn.1 hrow;have My:aA ((dQ len).map g)=len:=by simp
 refine⟨aC a,_,(dQ len).map g,by rw [My],by rw [My];exact hl,hm, ?_, ?_⟩
 ·intro x hx;obtain⟨i,hi',rfl⟩:=dW.1 hx;exact(hg i (nP.1 hi')).1
 intro J u hu;have Wt:((dQ len).flatMap g)[J]? =aC u:=by rw [a9t] at hu;exact hu
 have Wi:∀i,aA (if i<len then g i else gP N (aG aF 0))=N:=by
  intro i;split
  ·rename_i nY;exact(hg i nY).1.1
  simp
 have vg:((dQ len).flatMap (λi=>if i<len then g i else gP N (aG aF 0)))[J]? =aC u:=by
  have e:(dQ len).flatMap (λi=>if i<len then g i else gP N (aG aF 0))=(dQ len).flatMap g:=by rw [U9,U9];congr 1;exact Jb λi hi=>by rw [ifP (nP.1 hi)]
  rw [e];exact Wt
 obtain⟨k,hk,j,rfl,hj⟩:=VQ _ N Wi _ J u vg;have eF:k<len:=by simpa using hk
 have ek:(dQ len)[k]=k:=by simp
 rw [ek,ifP eF] at hj;have hc:=(hg k eF).2 j u hj;obtain⟨x,hx0⟩:∃x,(g 0)[0]? =aC x:=by have hl0:=(hg 0 (by omega)).1.1;exact⟨_,iD (by rw [hl0];exact h0)⟩
 have hc0:=(hg 0 (by omega)).2 0 x hx0;have ea:a.add (0*N+0)=a:=by simp [Addr.add]
 rw [ea] at hc0;obtain⟨e1,e2⟩:=a1b hc0;refine⟨a.block,a.off,by rw [<-e1],e2, ?_⟩;rw [<-a1Z,<-e1];exact hc
end
end
section
open Go.ChangeShapes Go.WideShapes Go.ChangeAt Go.Joins Go.Deep
section
variable {H:Type} {enc:bY×aN->H} {w:aJ}
theorem aIi {P:Program} {r:Reach} {b0:Nat} {t:bY} {fs:Array Field} {v:aN} {d:DataW H} {p:List MemPlace}(hs:P.underlying t=aC (.struct fs))(KF:oneCellFields P fs=aO)(hC:P.cellsOf t=fs.size)
 (hv:Value.okWide P w r b0 t v) (h:DataW.Trod enc P w 0 (λ_=>aO) aO t v d p):∃l:List aN,v= .agg l.toArray/\UI enc P w fs l:=by
 obtain⟨⟨l⟩,rfl,hsz⟩:=okWide_struct hs hv;obtain⟨fuel,hf⟩:=h;obtain⟨ys,n,_,_,_,Bc,gV⟩:=Yq hs hf;have hl:aA l=fs.size:=hsz.trans hC;refine⟨l,rfl,⟨hl, ?_⟩⟩;intro j f v Mi hv;obtain⟨ho,hk⟩:=hone_of KF j _ Mi;have h1:=gV j _ Mi;have qw:j<aA l:=(zP.1 hv).1;rw [ho,hk] at h1;have Wd:((Value.agg ⟨l⟩).cells.toList.drop j).take 1= [v]:=by show (l.drop j).take 1= [v];rw [Ja qw,(zP.1 hv).2];rfl
 rw [Wd] at h1;have I4:j<aA ys:=by omega
 rw [iD I4] at h1;exact⟨_,_,h1⟩
theorem aIh {v:aN}(h:Reads enc aM w 22 v):∃(A:Option aj) (c:Nat) (l:List Pr),v=aH A (aA l) c/\aA l<=bM/\aW w w.heap.size A (jY l):=by
 obtain⟨A,c,rows,rfl,hl,hc,hr,hs⟩:=Kb underlying22 underlying67 (by kernel_rfl) (by kernel_rfl) (by decide) h;obtain⟨l,e1,e2,_⟩:=Fa Pr.cells (λ_=>True) rows λx hx=>by
  have hx:=hr x hx
  match x,hx.len with
  | [x0,x1],_=>
   obtain⟨x0,rfl,_⟩:=(hx.cell 0 _ _ rfl rfl).int (by kernel_rfl);obtain⟨x1,rfl,_⟩:=(hx.cell 1 _ _ rfl rfl).int (by kernel_rfl);exact⟨⟨x0,x1⟩,rfl,trivial⟩
 rw [e2] at hs;rw [<-e1] at hl ⊢;exact⟨A,c,l,rfl,bz hl hc,hs⟩
theorem aN2 {v:aN}(h:Reads enc aM w 23 v):∃(A:Option aj) (c:Nat) (l:List Pr),v=aH A (aA l) c/\aA l<=bM/\aW w w.heap.size A (jY l):=by
 obtain⟨A,c,rows,rfl,hl,hc,hr,hs⟩:=Kb underlying23 aCC (by kernel_rfl) (by kernel_rfl) (by decide) h;obtain⟨l,e1,e2,_⟩:=Fa Pr.cells (λ_=>True) rows λx hx=>by
  have hx:=hr x hx
  match x,hx.len with
  | [x0,x1],_=>
   obtain⟨x0,rfl,_⟩:=(hx.cell 0 _ _ rfl rfl).int (by kernel_rfl);obtain⟨x1,rfl,_⟩:=(hx.cell 1 _ _ rfl rfl).int (by kernel_rfl);exact⟨⟨x0,x1⟩,rfl,trivial⟩
 rw [e2] at hs;rw [<-e1] at hl ⊢;exact⟨A,c,l,rfl,bz hl hc,hs⟩
theorem aIe {v:aN}(h:Reads enc aM w 24 v):∃(A:Option aj) (c:Nat) (l:List Cy),v=aH A (aA l) c/\aA l<=bM/\aW w w.heap.size A (uM l):=by
 obtain⟨A,c,rows,rfl,hl,hc,hr,hs⟩:=Kb underlying24 underlying71 (by kernel_rfl) (by kernel_rfl) (by decide) h;obtain⟨l,e1,e2,_⟩:=Fa Cy.cells (λ_=>True) rows λx hx=>by
  have hx:=hr x hx
  match x,hx.len with
  | [x0,x1,x2,x3],_=>
   obtain⟨x0,rfl,_⟩:=(hx.cell 0 _ _ rfl rfl).int (by kernel_rfl);obtain⟨x1,rfl,_⟩:=(hx.cell 1 _ _ rfl rfl).int (by kernel_rfl);obtain⟨x2,rfl,_⟩:=(hx.cell 2 _ _ rfl rfl).int (by kernel_rfl);obtain⟨x3,rfl,_⟩:=(hx.cell 3 _ _ rfl rfl).int (by kernel_rfl);exact⟨⟨x0,x1,x2,x3⟩,rfl,trivial⟩
 rw [e2] at hs;rw [<-e1] at hl ⊢;exact⟨A,c,l,rfl,bz hl hc,hs⟩
end
end
section
open Go.ChangeShapes Go.WideShapes Go.ChangeAt Go.Joins Go.Deep
section
variable {H:Type} {enc:bY×aN->H} {w:aJ}
theorem aIj {v:aN}(h:Reads enc aM w 23 v):∃(A:Option aj) (c:Nat) (l:List Pr),v=aH A (aA l) c/\aA l<=bM/\(∀y∈l,aL y.a/\aL y.b)/\aW w w.heap.size A (jY l):=by
 obtain⟨A,c,rows,rfl,hl,hc,hr,hs⟩:=Kb underlying23 aCC (by kernel_rfl) (by kernel_rfl) (by decide) h;obtain⟨l,e1,e2,e3⟩:=Fa Pr.cells (λy=>aL y.a/\aL y.b) rows λx hx=>by
  have hx:=hr x hx
  match x,hx.len with
  | [x0,x1],_=>
   obtain⟨x0,rfl,h0⟩:=(hx.cell 0 _ _ rfl rfl).int (by kernel_rfl);obtain⟨x1,rfl,h1⟩:=(hx.cell 1 _ _ rfl rfl).int (by kernel_rfl);exact⟨⟨x0,x1⟩,rfl,h0,h1⟩
 rw [e2] at hs;rw [<-e1] at hl ⊢;exact⟨A,c,l,rfl,bz hl hc,e3,hs⟩
end
end
section
open Go.ChangeShapes Go.WideShapes Go.ChangeAt Go.Joins Go.Deep
section
variable {H:Type} {enc:bY×aN->H} {w:aJ}
theorem aIg {v:aN}(h:Reads enc aM w 39 v):
 ∃(A:Option aj) (c:Nat) (l:List Lg),v=aH A (aA l) c/\aA l<=c/\c<=bM/\(∀y∈l,aL y.m/\aL y.a/\aL y.n)/\aW w w.heap.size A (bA l):=by
 obtain⟨A,c,rows,rfl,hl,hc,hr,hs⟩:=Kb sZ underlying76 (by kernel_rfl) (by kernel_rfl) (by decide) h;obtain⟨l,e1,e2,e3⟩:=Fa Lg.cells (λy=>aL y.m/\aL y.a/\aL y.n) rows λx hx=>by
  have hx:=hr x hx
  match x,hx.len with
  | [a,b,d],_=>
   obtain⟨a,rfl,ha⟩:=(hx.cell 0 _ _ rfl rfl).int (by kernel_rfl);obtain⟨b,rfl,hb⟩:=(hx.cell 1 _ _ rfl rfl).int (by kernel_rfl);obtain⟨d,rfl,hd⟩:=(hx.cell 2 _ _ rfl rfl).int (by kernel_rfl);exact⟨⟨a,b,d⟩,rfl,ha,hb,hd⟩
 rw [e2] at hs;rw [<-e1] at hl ⊢;exact⟨A,c,l,rfl,hl,hc,e3,hs⟩
end
end
section
open Go.ChangeShapes Go.WideShapes Go.ChangeAt Go.Joins Go.Deep
section
variable {H:Type} {enc:bY×aN->H} {w:aJ}
theorem aId {r:Reach} {b0:Nat} {v:aN} {d:DataW H} {p:List MemPlace}(hv:Value.okWide aM w r b0 26 v)
 (h:DataW.Trod enc aM w 0 (λ_=>aO) aO 26 v d p):∃x:ak,v=x.val/\uh w x/\aA x.ms<=bM/\aA x.ss<=bM/\aA x.cy<=bM:=by
 obtain⟨l,rfl,hx⟩:=aIi underlying26 (by kernel_rfl) (by kernel_rfl) hv h
 match l,hx.len with
 | [x0,x1,x2,x3,x4,x5,x6,x7],_=>
  have g0:=hx.cell 0 _ _ rfl rfl;have g1:=hx.cell 1 _ _ rfl rfl;have g2:=hx.cell 2 _ _ rfl rfl;obtain⟨Am,cm,ms,rfl,hm,sm⟩:=aIh g0;obtain⟨As,cs,ss,rfl,hs,hI,sss⟩:=aIj g1;obtain⟨Ac,cc,cy,rfl,hc,sc⟩:=aIe g2;obtain⟨x3,rfl,_⟩:=(hx.cell 3 _ _ rfl rfl).int (by kernel_rfl);obtain⟨x4,rfl,_⟩:=(hx.cell 4 _ _ rfl rfl).int (by kernel_rfl);obtain⟨x5,rfl,_⟩:=(hx.cell 5 _ _ rfl rfl).int (by kernel_rfl);obtain⟨x6,rfl,_⟩:=(hx.cell 6 _ _ rfl rfl).int (by kernel_rfl);obtain⟨x7,rfl,_⟩:=(hx.cell 7 _ _ rfl rfl).int (by kernel_rfl);have n0:=XT underlying22 g0;have n1:=XT underlying23 g1;have n2:=XT underlying24 g2;exact⟨⟨ms,Am,cm,ss,As,cs,cy,Ac,cc,x3,x4,x5,x6,x7⟩,rfl,⟨⟨sm,sss,sc⟩,λe=>(n0 e).1,λe=>(n1 e).1,λe=>(n2 e).1⟩,hm,hs,hc⟩
theorem aIk {v:aN}(h:Reads enc aM w 38 v):
 ∃(A:Option aj) (c:Nat) (l:List Td),v=aH A (aA l) c/\aA l<=c/\c<=bM/\(∀y∈l,y.ok)/\aW w w.heap.size A (YQ l):=by
 obtain⟨A,c,rows,rfl,hl,hc,hr,hs⟩:=Kb underlying38 underlying153 (by kernel_rfl) (by kernel_rfl) (by decide) h;obtain⟨l,e1,e2,e3⟩:=Fa Td.cells (λy=>y.ok) rows λx hx=>by
  have hx:=hr x hx
  match x,hx.len with
  | [a,b,c,d,e,f],_=>
   obtain⟨a,rfl,ha⟩:=(hx.cell 0 _ _ rfl rfl).int (by kernel_rfl);obtain⟨b,rfl,hb⟩:=(hx.cell 1 _ _ rfl rfl).int (by kernel_rfl);obtain⟨c,rfl,hc⟩:=(hx.cell 2 _ _ rfl rfl).int (by kernel_rfl);obtain⟨d,rfl,hd⟩:=(hx.cell 3 _ _ rfl rfl).int (by kernel_rfl);obtain⟨e,rfl,he⟩:=(hx.cell 4 _ _ rfl rfl).int (by kernel_rfl);obtain⟨f,rfl,hf⟩:=(hx.cell 5 _ _ rfl rfl).int (by kernel_rfl);exact⟨⟨a,b,c,d,e,f⟩,rfl,hb,hc,hd,he,hf⟩
 rw [e2] at hs;rw [<-e1] at hl ⊢;exact⟨A,c,l,rfl,hl,hc,e3,hs⟩
def SU(w:aJ)(y:Ac):Prop:=y.ok/\y.at w/\aA y.ts<=bM/\aA y.ls<=bM
theorem aCN {x:List aN}(nD:aA x=11)(hx:qE enc aM w 43 x):∃y:Ac,x=y.cells/\SU w y:=by
 have k0:aM.cellsOf 3=1:=by kernel_rfl
 have k1:aM.cellsOf 38=1:=by kernel_rfl
 have k2:aM.cellsOf 39=1:=by kernel_rfl
 have k3:aM.cellsOf 2=1:=by kernel_rfl
 have k4:aM.cellsOf 41=5:=by kernel_rfl
 match x,nD with
 | [a,b,c,d,e,f,g,h,i,j,k],_=>
  have hf:=hx.fields underlying43;have h0:qE enc aM w 3 (([a,b,c,d,e,f,g,h,i,j,k].drop 0).take (aM.cellsOf 3)):=hf 0 _ rfl;have h1:qE enc aM w 38 (([a,b,c,d,e,f,g,h,i,j,k].drop 1).take (aM.cellsOf 38)):=hf 1 _ rfl;have h2:qE enc aM w 39 (([a,b,c,d,e,f,g,h,i,j,k].drop 2).take (aM.cellsOf 39)):=hf 2 _ rfl;have h3:qE enc aM w 3 (([a,b,c,d,e,f,g,h,i,j,k].drop 3).take (aM.cellsOf 3)):=hf 3 _ rfl;have h4:qE enc aM w 3 (([a,b,c,d,e,f,g,h,i,j,k].drop 4).take (aM.cellsOf 3)):=hf 4 _ rfl;have h5:qE enc aM w 2 (([a,b,c,d,e,f,g,h,i,j,k].drop 5).take (aM.cellsOf 2)):=hf 5 _ rfl;have h6:qE enc aM w 41 (([a,b,c,d,e,f,g,h,i,j,k].drop 6).take (aM.cellsOf 41)):=hf 6 _ rfl;rw [k0] at h0 h3 h4;rw [k1] at h1;rw [k2] at h2;rw [k3] at h5;rw [k4] at h6;have hg:=qE.fields underlying41 h6;have g0:qE enc aM w 3 (([g,h,i,j,k].drop 0).take (aM.cellsOf 3)):=hg 0 _ rfl;have g1:qE enc aM w 3 (([g,h,i,j,k].drop 1).take (aM.cellsOf 3)):=hg 1 _ rfl;have g2:qE enc aM w 3 (([g,h,i,j,k].drop 2).take (aM.cellsOf 3)):=hg 2 _ rfl;have g3:qE enc aM w 2 (([g,h,i,j,k].drop 3).take (aM.cellsOf 2)):=hg 3 _ rfl;have g4:qE enc aM w 2 (([g,h,i,j,k].drop 4).take (aM.cellsOf 2)):=hg 4 _ rfl;rw [k0] at g0 g1 g2;rw [k3] at g3 g4;have r0:Reads enc aM w 3 a:=h0;have r1:Reads enc aM w 38 b:=h1;have r2:Reads enc aM w 39 c:=h2;have r3:Reads enc aM w 3 d:=h3;have r4:Reads enc aM w 3 e:=h4;have r5:Reads enc aM w 2 f:=h5;have q0:Reads enc aM w 3 g:=g0;have q1:Reads enc aM w 3 h:=g1;have q2:Reads enc aM w 3 i:=g2;have q3:Reads enc aM w 2 j:=g3;have q4:Reads enc aM w 2 k:=g4;obtain⟨a,rfl,_⟩:=r0.int (by kernel_rfl);obtain⟨At,ct,ts,rfl,t1,t2,t3,t4⟩:=aIk r1;obtain⟨Al,cl,ls,rfl,l1,l2,l3,l4⟩:=aIg r2;obtain⟨d,rfl,w3⟩:=r3.int (by kernel_rfl);obtain⟨e,rfl,w4⟩:=r4.int (by kernel_rfl);obtain⟨f,rfl,w5⟩:=r5.int (by kernel_rfl);obtain⟨g,rfl,u0⟩:=q0.int (by kernel_rfl);obtain⟨h,rfl,u1⟩:=q1.int (by kernel_rfl);obtain⟨i,rfl,u2⟩:=q2.int (by kernel_rfl);obtain⟨j,rfl,u3⟩:=q3.int (by kernel_rfl);obtain⟨k,rfl,u4⟩:=q4.int (by kernel_rfl);exact⟨⟨a,ts,At,ct,ls,Al,cl,d,e,f,⟨g,h,i,j,k⟩⟩,rfl,⟨w3,w4,w5,⟨u0,u1,u2,u3,u4⟩,t3,λy hy=>⟨(l3 y hy).1,(l3 y hy).2.1,(l3 y hy).2.2⟩⟩,⟨t4,l4⟩,bz t1 t2,bz l1 l2⟩
theorem aIc {v:aN}(h:Reads enc aM w 27 v):
 ∃(A:Option aj) (c:Nat) (l:List Ac),v=aH A (aA l) c/\aA l<=c/\c<=bM/\(∀y∈l,SU w y)/\aW w w.heap.size A (Ji l):=by
 obtain⟨A,c,rows,rfl,hl,hc,hr,hs⟩:=aIf (N:=11) underlying27 (by kernel_rfl) (by decide) h;obtain⟨l,e1,e2,e3⟩:=Fa Ac.cells (λy=>SU w y) rows λx hx=>aCN (hr x hx).1 (hr x hx).2
 rw [e2] at hs;rw [<-e1] at hl ⊢;exact⟨A,c,l,rfl,hl,hc,e3,hs⟩
end
end
theorem aJr(x:Ob)(w:aJ)(h0:fJ<x.az)(h1:x.az<=9223372036854775807):
 aQ aM 19 #[x.val] w λe w'=>e=aT (ν x.size)/\β w w':=by
 have HM:=η (a7N x);unfold fJ at h0;obtain⟨c,m,a,az,done,st⟩:=x;simp only at h0 h1;unfold Ob.val;go_enter func19,ntmps19
 go_wp2
 all_goals
  go_ret;refine⟨cW ?_,(aX _ _).alloc (aZ _) _⟩;rw [<-HM.o];omega
theorem Inv.aFM {g:Nat} {D:Dk}(I:Inv g D) {y:Ob}(hy:y∈D.ob):y.ok/\(y.st=1->D.st≠0)/\(y.st=2->y.done=y.size)/\(y.st=3->hasB D.who y.m=aO/\(y.az<0->y.done=0)/\(0<y.az->y.done<y.az))/\(1<=y.st/\y.st<=5)/\((y.st=4\/y.st=5)->y.az<0/\y.done< -y.az/\(y.st=4->y.a≠0)):=by obtain⟨C,K,_⟩:=I.ig;have E:=K.ob.each y hy;exact⟨K.ob.ok y hy,λh hs=>I.fair.2.2 hs y hy h,E.Y3,E.o,E.st,E.cmp⟩
theorem aFP(x:ak)(l:List Ac)(A:Option aj)(c:Nat)(w:aJ)(h:uh w x)(hm:aA x.ms<=bM)(hs:aA x.ss<=bM)(hc:aA x.cy<=bM)(hl:aA l<=bM)(hL:∀y∈l,aA y.ts<=bM/\aA y.ls<=bM)(nC:aW w w.heap.size A (Ji l))(dR:∀y∈l,y.ok/\y.at w):
 aQ aM 5 #[x.val,aH A (aA l) c] w λe w'=>e=aT (bJ aO)/\β w w':=by
 have aY:=η (mQ w x);have jL:=η (zg w x);have mJ:=η (h.below aY.o);have py:=η ((nC.below aY.o).mono aY.o.size);have wY:=η (λy (hy:y∈l)=>kT (dR y hy).1 ((dR y hy).2.below aY.o));have zB:=η (λW (hW:aW W W.heap.size A (Ji l))=>aFQ x l A c W hm hs hc hl hL hW);have HLEN:Hid (Hf x l=aO->(aA x.ms<=20/\aA x.ss<=20/\aA x.cy<=20)/\aA l<=40/\∀y∈l,aA y.ts<=30/\aA y.ls<=60):=η aFR;clear h hm hs hc hL nC dR;unfold bM at hl;cases QV:Hf x l
 ·rw [QV] at zB;clear HLEN wY mJ;unfold ak.val at*;go_enter PD,a1F
  obtain⟨c0,c1,c2,c3,c4,c5,c6,c7,lh⟩:=jL.o;go_wp2_with fail
  refine(zB.o _ py.o).mono ?_;rintro e w2 ⟨rfl,hb⟩;have aV:Hid (β w w2):=τ aY hb;clear hb zB aY jL py c0 c1 c2 c3 c4 c5 c6 c7 lh;go_wp2_with fail
  refine(Uq _).mono ?_;rintro e w3 ⟨rfl,hb⟩;have af:Hid (β w w3):=τ aV hb;clear hb;go_wp2_with fail
  go_ret;exact⟨rfl,af.o⟩
 obtain⟨⟨l1,l2,l3⟩,l40,hL⟩:=HLEN.o QV;have mH:=η hL;rw [QV] at zB;have rN:=η (λW (hW:uh W x)=>aKF x W hW.ok (by omega) (by omega) (by omega));clear QV HLEN hL;cases F8:okB x
 ·have HX:=η (a8W F8);generalize iO x=ws at*;clear F8 wY mH;unfold ak.val at*;go_enter PD,a1F
  obtain⟨c0,c1,c2,c3,c4,c5,c6,c7,lh⟩:=jL.o;go_wp2_with fail
  refine(zB.o _ py.o).mono ?_;rintro e w2 ⟨rfl,hb⟩;have aV:Hid (β w w2):=τ aY hb;have kJ:=η (jL.o.below hb);have dD:=η (mJ.o.below hb);clear hb zB aY jL py mJ c0 c1 c2 c3 c4 c5 c6 c7 lh;obtain⟨c0,c1,c2,c3,c4,c5,c6,c7,lh⟩:=kJ.o;go_wp2_with fail
  refine(rN.o _ dD.o).mono ?_;rintro e w3 ⟨rfl,hb⟩;have af:Hid (β w w3):=τ aV hb;clear hb rN aV kJ dD c0 c1 c2 c3 c4 c5 c6 c7 lh;rcases HX.o with rfl|rfl|rfl|rfl|rfl|rfl|rfl|rfl
  all_goals
   clear HX;go_wp2_with fail
   refine(Uq _).mono ?_;rintro e w4 ⟨rfl,hb⟩;have ar:Hid (β w w4):=τ af hb;clear hb;go_wp2_with fail
   go_ret;exact⟨rfl,ar.o⟩
 have HE:=η (a8X F8);have aMJ:=η F8;have OW:=η (λ(w0 W:aJ) (hb:Nat) (h1:β w0 W) (h2:hb<W.heap.size) (h3:uh W x)=>aHT (hb:=hb) h1 h2 h3 F8);have aMu:aA x.ss<=8:=(Qo F8).sl.2;have aMo:aA x.ms<=16:=(Qo F8).ml.2;clear F8;rw [HE.o] at rN;clear HE;unfold ak.val at*;go_enter PD,a1F
 go_upto_region 1 with (fail)
 generalize w.alloc (aK #[aH x.Am (aA x.ms) x.cm,aH x.As (aA x.ss) x.cs,aH x.Ac (aA x.cy) x.cc,ν x.line,ν x.bV,ν x.lead,ν x.tr,ν x.bQ] 26)=w0 at*;obtain⟨bx,bT⟩:∃bx,bx=w.heap.size:=⟨_,rfl⟩;rw [<-bT] at jL ⊢;clear bT;have bT:=jL.o.lt;have cC:=η (λW (hW:β w0 W)=>aY.o.trans (hW.mono aY.o.size));have eW:=η (λW (hW:β w0 W)=>jL.o.below hW);have HSW:=η (λW (hW:β w0 W)=>(py.o.below hW).mono hW.size);obtain⟨c0,c1,c2,c3,c4,c5,c6,c7,lh⟩:=jL.o;go_wp2_with fail
 refine(zB.o _ py.o).mono ?_;rintro e w1 ⟨rfl,hb⟩;have aR:=η hb;have cE:=η (mJ.o.below hb);clear hb zB c0 c1 c2 c3 c4 c5 c6 c7 lh py jL aY mJ;obtain⟨c0,c1,c2,c3,c4,c5,c6,c7,lh⟩:=eW.o _ aR.o;go_wp2_with fail
 refine(rN.o _ cE.o).mono ?_;rintro e w2 ⟨rfl,hb⟩;have aV:=τ aR hb;have dD:=η (cE.o.below hb);have hz2:=aV.o.size;clear hb rN c0 c1 c2 c3 c4 c5 c6 c7 lh aR cE;obtain⟨c0,c1,c2,c3,c4,c5,c6,c7,lh⟩:=eW.o _ aV.o;go_wp2_with fail
 refine(OW.o w0 _ bx aV.o lh dD.o).mono ?_;rintro e w3 ⟨db,D0,rfl,hi,hb,aGb,-⟩;have L9:=η hi;clear hi hb aGb OW aV dD c0 c1 c2 c3 c4 c5 c6 c7 lh;go_wp2_with fail
 go_loopw [7,8,9,10,11,12] (λi _ _ _ _ _ wr=>∃(k:Nat) (D:Dk),k<=aA l/\i=ν (k:Int)/\Hid (uy w0 db bx x (1700*k) D wr)) (λi _ _ _ _ _ _=>aA l-(ag i).toNat)
 case atStart=>exact⟨0,D0,bL _,rfl,L9⟩
 case round=>
  clear L9;obtain⟨k,D,hk,rfl,HI⟩:=hrel;by_cases hlt:k<aA l
  ·have hg:1700*k+1700<=90000:=by omega
   have hg2:1700*k+1700+1700<=90000:=by omega
   have eY:(0:Int)<=(k:Int):=by omega
   have hkb:(k:Int)<(aA l:Int):=by omega
   obtain⟨ba,oa,rfl,nA,d0,d1,d2,d3,d4,d5,d6,d7,d8,d9,d10⟩:=a1X (HSW.o wr HI.o.bl) hlt;have HYK:=η (wY.o l[k] (cK hlt));have kK:=η (mH.o l[k] (cK hlt));have Tj:=η (aHW HI.o hg HYK.o.1 HYK.o.2 kK.o.1 kK.o.2);unfold Ac.val at Tj;go_wp2_with fail
   refine Tj.o.mono ?_;rintro e w5 ⟨rfl,D5,h5,t5,e5⟩;have LA:=η h5;have G9:=η t5;have HE5:=η e5;clear h5 t5 e5 Tj d0 d1 d2 d3 d4 d5 d6 d7 d8 d9 d10;clear HI HE5 G9;go_wp2_with fail
   refine(aHU LA.o).mono ?_;rintro e w6 ⟨v6,rfl,tN,iT⟩;obtain⟨A6,k6,rfl⟩:=bK tN;have wT:=η (LA.o.below iT);have kL:=η tN;clear tN iT LA;go_wp2_with fail
   refine(aHR wT.o).mono ?_;rintro e w7 ⟨v7,rfl,Qc,fh⟩;obtain⟨A7,k7,rfl⟩:=bK Qc;have CQ:=η (wT.o.below fh);have Zf:=η (iA kL.o fh);have oh:=η Qc;clear Qc fh wT kL;have aGj:aA D5.ob<=1024:=by obtain⟨C,K,-⟩:=CQ.o.inv.ig;have:=K.ob.len;have:=K.ai;omega
   have IL:aA D5.who<=100:=by obtain⟨C,K,-⟩:=CQ.o.inv.ig;have:=K.who.len;have:=K.hs.ml;omega
   have L3:=η (λy (hy:y∈D5.ob)=>CQ.o.inv.aFM hy);go_wp2_with fail
   go_loopw [10,11,12] (λi _ _ wr=>∃j:Nat,j<=aA D5.ob/\i=ν (j:Int)/\Hid (β w7 wr)) (λi _ _ _=>aA D5.ob-(ag i).toNat)
   case atStart=>exact⟨0,bL _,rfl,η (aX _ _)⟩
   case round=>
    obtain⟨j,hj,rfl,HB⟩:=hrel;by_cases hlj:j<aA D5.ob
    ·obtain⟨be,oe,kO,kh,e0,e1,e2,e3,e4,e5⟩:=vw ((aW.cA oh.o).below HB.o|>.mono HB.o.size) hlj;have zv:(0:Int)<=(j:Int):=by omega
     have hjb:(j:Int)<(aA D5.ob:Int):=by omega
     have Sz:=η (L3.o D5.ob[j] (cK hlj));obtain⟨y,hy⟩:∃y,y=D5.ob[j]:=⟨_,rfl⟩;rw [<-hy] at e0 e1 e2 e3 e4 e5 Sz;clear hy;obtain⟨yc,ym,ya,yn,yd,ys⟩:=y;simp only at e0 e1 e2 e3 e4 e5;subst kO;go_upto_region 15 with (fail)
     have jd:Hid (β w7 (wr.alloc (aK #[ν yc,ν ym,ν ya,ν yn,ν yd,ν ys] 59))):=η (HB.o.alloc HB.o.size _);have HX8:Hid ((wr.alloc (aK #[ν yc,ν ym,ν ya,ν yn,ν yd,ν ys] 59)).heap[wr.heap.size]? =aC (aK #[ν yc,ν ym,ν ya,ν yn,ν yd,ν ys] 59 (0,0))):=η (cO wr _);have hzb:wr.heap.size<(wr.alloc (aK #[ν yc,ν ym,ν ya,ν yn,ν yd,ν ys] 59)).heap.size:=by simp
     clear HB e0 e1 e2 e3 e4 e5 kh;generalize wr.alloc (aK #[ν yc,ν ym,ν ya,ν yn,ν yd,ν ys] 59)=w8 at*;obtain⟨xb,hxb⟩:∃xb,xb=wr.heap.size:=⟨_,rfl⟩;rw [<-hxb] at HX8 hzb ⊢;clear hxb;have GD:Hid (∀W,β w8 W->W.cell? ⟨xb,0,aB⟩=aC (ν yc)/\W.cell? ⟨xb,1,aB⟩=aC (ν ym)/\W.cell? ⟨xb,2,aB⟩=aC (ν ya)/\W.cell? ⟨xb,3,aB⟩=aC (ν yn)/\W.cell? ⟨xb,4,aB⟩=aC (ν yd)/\W.cell? ⟨xb,5,aB⟩=aC (ν ys)):=η (λW hW=>by have hd:=(hW.block xb hzb).trans HX8.o;exact⟨ρ hd,ρ hd,ρ hd,ρ hd,ρ hd,ρ hd⟩);obtain⟨x0,x1,x2,x3,x4,x5⟩:=GD.o w8 (aX _ _);have wH:=η (aH1 D5.who A6 k6 ym w8 ((aW.cA Zf.o).below jd.o|>.mono jd.o.size) (by omega));obtain⟨NG,f1,f2,f3,f5,f4⟩:=Sz.o;have k0:=NG.d0;have XD:=NG.ne;have ND:=NG.lo;have RG:=NG.hi;unfold fJ at ND;simp only at f1 f2 f3 f5 f4 k0 XD ND RG;clear Sz NG;by_cases s1:ys=1
     ·subst s1;have hD:decide (D5.st=0)=aP:=decide_eq_false (f1 rfl);have Sa:=η (aHS (CQ.o.below jd.o) hg2);rw [hD] at Sa;clear f1 f2 f3 f4 f5 hD k0 XD ND RG;go_wp2_with (first|(go_at_call 15;refine wH.o.mono ?_;rintro e w9 ⟨rfl,rfl⟩;clear wH)|(go_at_call 17;refine Sa.o.mono ?_;rintro e sK ⟨rfl,vQ⟩;have xx:=τ jd vQ;clear vQ Sa))
      go_round
      case rel=>exact⟨j+1,by omega,by go_num,xx⟩
      case measure=>simp [ag];omega
     by_cases s2:ys=2
     ·subst s2;have hsz:Ob.size ⟨yc,ym,ya,yn,yd,2⟩=yd:=(f2 rfl).symm;have Ym:=η (λW=>(show aQ aM 19 #[bU #[ν yc,ν ym,ν ya,ν yn,ν yd,ν 2]] W λe w'=>e=aT (ν yd)/\β W w' from by
       have:=aJr ⟨yc,ym,ya,yn,yd,2⟩ W (by unfold fJ;exact ND) RG;rw [hsz] at this;exact this))
      clear f1 f2 f3 f4 f5 hsz k0 XD ND RG;go_upto_region 23 with (go_at_call 15;refine wH.o.mono ?_;rintro e w9 ⟨rfl,rfl⟩;clear wH)
      have vS:=λ(n:rB w8.heap.size w8) (b o:Nat) (hb:b<w8.heap.size)=>n.cells b o hb
      refine Nw w8.heap.size (by kernel_rfl) (by kernel_rfl) ?_;repeat (go_big_quiet_step ((go_at_call 19;exact Calls.Jl (aZ _) (Ym.o _))))
      refine wpQuiet_nil ?_;intro _ hw';obtain⟨nq,hw''⟩:=hw';subst hw'';have HN:=η (jd.o.trans (nq.h.mono jd.o.size));clear vS Ym x0 x1 x2 x3 x4 x5;go_wp2_with fail
      go_round
      case rel=>exact⟨j+1,by omega,by go_num,HN⟩
      case measure=>simp [ag];omega
     by_cases s3:ys=3
     ·subst s3;obtain⟨g1,g2,g3⟩:=f3 rfl;rw [g1] at wH;clear f1 f2 f3 f4 f5 g1;by_cases hn:yn<0
      ·have QP:yd=0:=g2 hn;subst QP;have lz:¬0<yn:=by omega
       clear g2 g3;go_wp2_with (go_at_call 15;refine wH.o.mono ?_;rintro e w9 ⟨rfl,rfl⟩;clear wH)
       go_round
       case rel=>exact⟨j+1,by omega,by go_num,jd⟩
       case measure=>simp [ag];omega
      have lz:0<yn:=by omega
      have pL:¬yn<=yd:=by have:=g3 lz;omega
      clear g2 g3;go_wp2_with (go_at_call 15;refine wH.o.mono ?_;rintro e w9 ⟨rfl,rfl⟩;clear wH)
      go_round
      case rel=>exact⟨j+1,by omega,by go_num,jd⟩
      case measure=>simp [ag];omega
     obtain⟨h1,h2,h3⟩:=f4 (by omega);have t1:(ys==1)=aP:=by simpa using s1
     have t2:(ys==2)=aP:=by simpa using s2
     have t3:(ys==3)=aP:=by simpa using s3
     have lz:¬0<yn:=by omega
     have hw:fS (-yn)= -yn:=wrap64_in (by unfold aL;omega);have pL:¬-yn<=yd:=by omega
     have hd3:¬yd<0:=by omega
     clear f1 f2 f3 f4 f5 s1 s2 s3;by_cases s4:ys=4
     ·subst s4;have ha:(ya==0)=aP:=by simpa using h3 rfl
      clear h3;go_wp2_with (go_at_call 15;refine wH.o.mono ?_;rintro e w9 ⟨rfl,rfl⟩;clear wH)
      go_round
      case rel=>exact⟨j+1,by omega,by go_num,jd⟩
      case measure=>simp [ag];omega
     have t4:(ys==4)=aP:=by simpa using s4
     clear h3 s4;go_wp2_with (go_at_call 15;refine wH.o.mono ?_;rintro e w9 ⟨rfl,rfl⟩;clear wH)
     go_round
     case rel=>exact⟨j+1,by omega,by go_num,jd⟩
     case measure=>simp [ag];omega
    obtain rfl:j=aA D5.ob:=by omega
    have Fs:Hid (uy w0 db bx x (1700*(k+1)) D5 wr):=η (by have:=CQ.o.below HB.o;rwa [show 1700*(k+1)=1700*k+1700 by omega]);clear L3 HB CQ Zf oh;go_wp2_with fail
    go_round
    case rel=>exact⟨k+1,D5,by omega,by go_num,Fs⟩
    case measure=>simp [ag];omega
  obtain rfl:k=aA l:=by omega
  have wM:=η (cC.o _ HI.o.bl);go_wp2_with fail
  refine(Uq _).mono ?_;rintro e w9 ⟨rfl,hb⟩;have oW:Hid (β w w9):=τ wM hb;clear hb;go_wp2_with fail
  go_ret;exact⟨rfl,oW.o⟩
end Go.Proofs.YtdokipdchlcmeaaGreat
namespace Go.Proofs.YtdokipdchlcmeaaGreat.fates
open Go.Proofs.Tryz
open Go.ChangeShapes Go.WideShapes Go.ChangeAt Go.RowKit
theorem contract(H:Type)(enc:bY×aN->H)(W:aJ)(base:Nat)(args:Array aN)(ds gs:List (DataW H))(before:List MemPlace)
 (hval:∀(j:Nat) t v,EX.params[j]? =aC t->args[j]? =aC v->Value.okWide aM W .any base t v)
 (hW:DataW.Whole enc aM EX.params.toList Rows.cycleFatesSpec.vars aP W args.toList ds gs before):
 aQ aM 5 args W λe W'=>∃v,e=aT v/\Rows.cycleFatesSpec.post enc aM EX aP aO aP aP W args v W':=by
 have Ep:=hW;obtain⟨p,q,hA,hV,rfl,vU,vZ⟩:=hW;rw [params5] at hA hval;obtain⟨v0,vs0,d0,ds0,p0,q0,aMS,rfl,rfl,h0,r0⟩:=trodAll_cons hA;obtain⟨v1,vs1,d1,ds1,p1,q1,rfl,rfl,rfl,h1,r1⟩:=trodAll_cons r0;obtain⟨rfl,rfl,rfl⟩:=trodAll_nil r1;obtain rfl:args= #[v0,v1]:=by cases args;simp_all
 obtain⟨x0,rfl,hC0,Qb,hs0,KN⟩:=aId (hval 0 _ v0 rfl rfl) h0;obtain⟨a1,n1,k1,rfl⟩:=okWide_slice underlying27 (hval 1 _ v1 rfl rfl);obtain⟨A1,c1,z1,e1,oK,hc1,DL,hz1⟩:=aIc (aJp rfl h1);rw [e1] at Ep ⊢;refine tY (aFP x0 z1 A1 c1 W hC0 Qb hs0 KN (bz oK hc1) (λy hy=>⟨(DL y hy).2.2.1,(DL y hy).2.2.2⟩) hz1 (λy hy=>⟨(DL y hy).1,(DL y hy).2.1⟩)) λe W' ⟨he,xE⟩=> ?_
 exact⟨_,he,aHV XE (by kernel_rfl) BI (by kernel_rfl) rfl Ep (λEe hd=>by
  have DN:aA Ee=2:=hd
  match Ee,DN with
  | [_,_],_=>rfl) xE⟩
theorem lifted(os:Os)(started:os.Started)(H:Type)(enc:bY×aN->H):
 ReturnsInHanded {} a0U os 5 .any (Rows.cycleFatesSpec.pre6 enc aM EX Rows.cycleFatesRow.domain aP) (Rows.cycleFatesSpec.post enc aM EX aP aO aP aP):=by
 refine returnsInHanded_of_change (C:=a0U) aJ5 started (by kernel_rfl) PD
  (ChangeSpec.witness6 (enc:=enc) (C:=a0U) aP ⟨#[], #[(bU #[aH aB 0 0,aH aB 0 0,aH aB 0 0,aG aF 0,aG aF 0,aG aF 0,aG aF 0,aG aF 0]:aN),aH aB 0 0],[]⟩ 8 (by kernel_rfl) (by kernel_rfl) (by kernel_rfl) (by kernel_rfl)) ?_
 intro W base args ds gs before hval hW _ _;exact contract H enc W base args ds gs before hval hW
theorem aCh {a b:Bool}(ha:a=aO)(hb:b=aO):(a&&b)=aO:=by rw [ha,hb];rfl
theorem facts:joinedFacts aM 5 EX Rows.cycleFatesSpec Rows.cycleFatesRow=aO:=by
 unfold joinedFacts;repeat' with_reducible refine aCh ?_ ?_
 all_goals (as_aux_lemma=>kernel_rfl)
theorem named:aM.funcNamed Rows.cycleFatesRow.func=aC 5:=by kernel_rfl
theorem inst:EX.isInstance aM Rows.cycleFatesRow.origin Rows.cycleFatesRow.targs:=of_decide_eq_true (by kernel_rfl)
theorem wrap:EX.isWrapper aM Rows.cycleFatesRow.wrapper Rows.cycleFatesRow.mainSum:=by unfold Func.isWrapper;first|(rw [ifP (by decide+kernel)];kernel_rfl)|(rw [ifN (by decide+kernel)];exact⟨rfl,rfl⟩)
theorem said:Rows.CycleFatesSaid:=
 OpenClaim.holds_of_wide 5 EX rfl rfl rfl rfl rfl rfl rfl ⟨rfl,rfl,rfl,rfl,rfl⟩ rfl rfl rfl rfl rfl named PD facts
  inst wrap (λos started H enc _=>lifted os started H enc)
end Go.Proofs.YtdokipdchlcmeaaGreat.fates
