/-
  PROVED: complinelaw30.CycleBalances returns true for every input, its arguments read afterwards as before. No conditions.
  Several texts in one (printed by pack.py).
-/
import Derived.Test.YtdokipdchlcmeaaGreatPh10
import Derived.Deep.DeepCutAuto
set_option linter.all false
set_option maxRecDepth 100000
set_option maxHeartbeats 12800000
open And renaming intro→kX
open Array renaming getElem?_eq_some_iff→fX
open Bool renaming true→aO,false→aP,and_eq_true→je
open Classical renaming skolem→Yq
open Go renaming World→aJ,Value→aN,Calls→aQ,Addr→aj,maxLen→bM,TypeId→bY,heap_alloc_new→cO,info_parts→dJ,Ending→dU,wpList_append_own→iZ
open Go.Calls renaming mono→tz,quiet_of_same→J1
open Go.DataW renaming trod_struct→Yt,trod→a8e
open Go.Ending renaming returned→aT
open Go.IntKind renaming i64→aF,bits→a0C
open Go.Obj renaming cells→aK
open Go.Proofs renaming intOf→af
open Go.Proofs.Tryz renaming prog→aM,underlying39→tE,underlying4→BN,f6→Ed,func6→PG,checked→a0U,func17→a0a,func23→a0g,ntmps17→a0u,ntmps23→a1A,ntmps6→a1G,ntmps8→aBw,underlying61→aCC,underlying69→aCD
open Go.RowKit renaming Below→aY
open Go.RowKit.Below renaming refl→aX
open Go.Value renaming int→aG,slice→aH,tuple→bB,pointer→bF,bool→bJ,agg→bQ
open Go.World renaming ownsRow_nil→fh,cells?_some→aCJ
open Int renaming le_refl→dM
open List renaming length→aA,getElem_mem→cH,length_append→cN,take_length→cT,range→dR,mem_map→df,mem_cons_of_mem→dh,mem_cons→fE,take_succ_eq_append_getElem→fF,mem_append→gL,replicate→gR,getElem?_eq_getElem→iE,any_eq_true→kA,mem_range→nP,flatMap_cons→wZ,getElem?_eq_some_iff→zR,length_replicate→Cs,all_eq_false→Jc,drop_eq_getElem_cons→Jd,map_congr_left→Je,flatMap_def→UB,flatMap_map→a9s,mem_replicate→aA0
open List.Pairwise renaming nil→U7
open Nat renaming le_refl→aa,zero_le→bK,le_trans→bz,lt_of_lt_of_le→cP
open Option renaming none→aB,some→aC
namespace Go.Proofs.YtdokipdchlcmeaaGreat
open Go.Proofs.Tryz Go.RowKit
theorem sG(n a b:Int)(w:aJ):aQ aM 23 #[aG aF n,aG aF a,aG aF b] w λe w'=>e=aT (bJ (bg n a b))/\w=w':=by
 have HB:=η (show bg n a b=(decide (a<=n)&&decide (n<=b)) from rfl);by_cases h1:a<=n
 ·by_cases h2:n<=b
  ·go_enter a0g,a1A
   go_wp2
   go_ret;exact⟨fQ (by rw [HB.o];simp [h1,h2]),rfl⟩
  go_enter a0g,a1A
  go_wp2
  go_ret;exact⟨fQ (by rw [HB.o,decide_eq_false (show¬n<=b by omega)];simp),rfl⟩
 go_enter a0g,a1A
 go_wp2
 go_ret;exact⟨fQ (by rw [HB.o,decide_eq_false (show¬a<=n by omega)];simp),rfl⟩
theorem rB {a b:ByteArray}(h:a=b):aT (.string a)=aT (.string b):=by rw [h]
theorem NG {n a b:Int} {v:Bool}(h:bg n a b=v)(w:aJ):aQ aM 23 #[aG aF n,aG aF a,aG aF b] w λe w'=>e=aT (bJ v)/\w'=w:=by subst h;exact(sG n a b w).mono λ_ _ h=>⟨h.1,h.2.symm⟩
theorem Xu:∀(l m:List Int) (p:Int),risesB p (l++m)=(risesB p l&&risesB (ja p l) m)
 | [],m,p=>by simp [risesB,ja]
 |a::l,m,p=>by rw [List.cons_append];simp only [risesB,ja];rw [Xu l m a,Bool.and_assoc]
theorem XH:∀(l m:List Int) (p:Int),ja p (l++m)=ja (ja p l) m
 | [],m,p=>rfl
 |a::l,m,p=>by rw [List.cons_append];simp only [ja];rw [XH l m a]
theorem a5G:∀(l:List Int) (p:Int),risesB p l=aO->p<=ja p l
 | [],p,_=>dM p
 |a::l,p,h=>by simp only [risesB,je,decide_eq_true_eq] at h;have:=a5G l a h.2;simp only [ja];omega
def MB(p:Int)(x:Cy):Prop:=p<x.a/\x.a<x.b/\x.b<x.c/\x.c<x.d/\x.d<=1000
theorem aLP {l:List Cy} {k:Nat}(hk:k<aA l):iH l=iH (l.take k)++([l[k].a,l[k].b,l[k].c,l[k].d]++iH (l.drop (k+1))):=by
 have h:l=l.take k++(l[k]::l.drop (k+1)):=by rw [<-Jd hk,List.take_append_drop]
 have h2:iH l=iH (l.take k++(l[k]::l.drop (k+1))):=by rw [<-h]
 rw [h2];unfold iH;rw [List.flatMap_append,wZ]
theorem aEd {l:List Cy} {k:Nat}(hk:k<aA l)(h:¬MB (ja 0 (iH (l.take k))) l[k]):lV l=aP:=by
 cases hc:lV l
 ·rfl
 exfalso;apply h;unfold lV at hc;rw [aLP hk] at hc;simp only [je,decide_eq_true_eq,Xu,XH] at hc;obtain⟨⟨_,h1,h2⟩,_,h3⟩:=hc;simp only [risesB,ja,je,decide_eq_true_eq,Bool.and_true] at h1 h2 h3;have:=a5G _ _ h2;unfold MB;omega
theorem aEg {l:List Cy} {k:Nat}(hk:k<aA l)(h:MB (ja 0 (iH (l.take k))) l[k])(hr:risesB 0 (iH (l.take k))=aO):risesB 0 (iH (l.take (k+1)))=aO/\ja 0 (iH (l.take (k+1)))=l[k].d:=by unfold MB at h;rw [a8D hk,Xu,XH,hr];simp only [risesB,ja,Bool.true_and,Bool.and_true,je,decide_eq_true_eq,and_true];omega
theorem aEe {l:List Cy}(h:bg (aA l) 1 4=aO)(hr:risesB 0 (iH l)=aO)(hl:ja 0 (iH l)<=1000):lV l=aO:=by unfold lV;rw [h,hr];simp [hl]
theorem aEf {l:List Cy}(h:bg (aA l) 1 4=aP):lV l=aP:=by unfold lV;rw [h];simp
theorem aI2 {l:List Pr}(h:bg (aA l) 2 16=aP):kT l=aP:=by unfold kT;rw [h];simp
theorem aKQ {l:List Pr}(h:bg (aA l) 1 8=aP):lF l=aP:=by unfold lF;rw [h];simp
theorem a5h {l:List Pr} {k:Nat}(hk:k<aA l)(h:uf l[k]=aP):kT l=aP:=by unfold kT;rw [show l.all uf=aP from Jc.2 ⟨l[k],cH hk,by rw [h];simp⟩];rfl
theorem a7G {l:List Pr} {k:Nat}(hk:k<aA l)(h:uj l[k]=aP):lF l=aP:=by unfold lF;rw [show l.all uj=aP from Jc.2 ⟨l[k],cH hk,by rw [h];simp⟩];rfl
theorem aLx {x:ak}:kT x.ms=aP->⟨#[109,101,109,98,101,114,115]⟩=iR x:=by intro h0;unfold iR;simp [h0]
theorem aLy {x:ak}:kT x.ms=aO->lF x.ss=aP->⟨#[115,101,99,115]⟩=iR x:=by intro h0 h1;unfold iR;simp [h0,h1]
theorem aLz {x:ak}:kT x.ms=aO->lF x.ss=aO->lV x.cy=aP->⟨#[99,121,99,108,101,115]⟩=iR x:=by intro h0 h1 h2;unfold iR;simp [h0,h1,h2]
theorem aM0 {x:ak}:kT x.ms=aO->lF x.ss=aO->lV x.cy=aO->bg x.line 0 1099511627776=aP->⟨#[108,105,110,101]⟩=iR x:=by intro h0 h1 h2 h3;unfold iR;simp [h0,h1,h2,h3]
theorem aM1 {x:ak}:kT x.ms=aO->lF x.ss=aO->lV x.cy=aO->bg x.line 0 1099511627776=aO->bg x.bV 0 1099511627776=aP->⟨#[99,97,112,105,116,97,108]⟩=iR x:=by intro h0 h1 h2 h3 h4;unfold iR;simp [h0,h1,h2,h3,h4]
theorem aM2 {x:ak}:kT x.ms=aO->lF x.ss=aO->lV x.cy=aO->bg x.line 0 1099511627776=aO->bg x.bV 0 1099511627776=aO->bg x.lead 0 1000=aP->⟨#[108,101,97,100]⟩=iR x:=by intro h0 h1 h2 h3 h4 h5;unfold iR;simp [h0,h1,h2,h3,h4,h5]
theorem aM3 {x:ak}:kT x.ms=aO->lF x.ss=aO->lV x.cy=aO->bg x.line 0 1099511627776=aO->bg x.bV 0 1099511627776=aO->bg x.lead 0 1000=aO->bg x.tr 1 64=aP->⟨#[116,114,97,100,101,115]⟩=iR x:=by intro h0 h1 h2 h3 h4 h5 h6;unfold iR;simp [h0,h1,h2,h3,h4,h5,h6]
theorem aM4 {x:ak}:kT x.ms=aO->lF x.ss=aO->lV x.cy=aO->bg x.line 0 1099511627776=aO->bg x.bV 0 1099511627776=aO->bg x.lead 0 1000=aO->bg x.tr 1 64=aO->bg x.bT 1 32=aP->⟨#[98,105,100,115]⟩=iR x:=by intro h0 h1 h2 h3 h4 h5 h6 h7;unfold iR;simp [h0,h1,h2,h3,h4,h5,h6,h7]
theorem aM5 {x:ak}:kT x.ms=aO->lF x.ss=aO->lV x.cy=aO->bg x.line 0 1099511627776=aO->bg x.bV 0 1099511627776=aO->bg x.lead 0 1000=aO->bg x.tr 1 64=aO->bg x.bT 1 32=aO->⟨#[]⟩=iR x:=by intro h0 h1 h2 h3 h4 h5 h6 h7;unfold iR;simp [h0,h1,h2,h3,h4,h5,h6,h7]
theorem aKJ(x:ak)(w:aJ)(h:lf w x)(hm:aA x.ms<=100000)(hs:aA x.ss<=100000)(hc:aA x.cy<=100000):
 aQ aM 8 #[x.val] w λe w'=>e=aT (.string (iR x))/\aY w.heap.size w w':=by
 have aZ:=η (mQ w x);have uD:=η (zi w x);have dQ:=η (h.below (mQ w x));have mL:=η (@aLx x);have yI:=η (@aLy x);have gD:=η (@aLz x);have mM:=η (@aM0 x);have zP:=η (@aM1 x);have py:=η (@aM2 x);have HW6:=η (@aM3 x);have HW7:=η (@aM4 x);have HW8:=η (@aM5 x);generalize iR x=ws at*;have c0:=uD.o.c0;have Vm:=uD.o.lt;unfold ak.val at*;clear h;cases h1:bg (aA x.ms) 2 16
 ·have HF:=η (mL.o (aI2 h1));go_enter func8,aBw
  go_wp2_with fail
  refine(sG _ _ _ _).mono ?_;rintro e w1 ⟨rfl,rfl⟩;rw [h1];go_wp2_with fail
  go_ret;exact⟨rB HF.o,aZ.o⟩
 go_enter func8,aBw
 go_wp2_with fail
 refine(sG _ _ _ _).mono ?_;rintro e w1 ⟨rfl,rfl⟩;rw [h1];generalize (w.alloc (aK #[aH x.Am (aA x.ms) x.cm,aH x.As (aA x.ss) x.cs,aH x.Ac (aA x.cy) x.cc,aG aF x.line,aG aF x.bV,aG aF x.lead,aG aF x.tr,aG aF x.bT] 26))=W0 at*;have H1:=η h1;clear h1;go_wp2_with fail
 go_loop [3] (λi=>∃k:Nat,k<=aA x.ms/\i=aG aF k/\Hid ((x.ms.take k).all uf=aO)) (λi=>aA x.ms-(af i).toNat)
 case atStart=>exact⟨0,bK _,rfl,rfl⟩
 case round=>
  obtain⟨k,hk,rfl,HK⟩:=hrel;by_cases hlt:k<aA x.ms
  ·obtain⟨b,o,e0,hb,d0,d1⟩:=Bz dQ.o.m hlt;have cG:=η (PV uf hlt);have HP:=η (show uf x.ms[k]=(bg x.ms[k].a 0 1099511627776&&bg x.ms[k].b 0 1099511627776) from rfl);rw [e0] at c0;clear e0;cases h1:bg x.ms[k].a 0 1099511627776
   ·have HF:=η (mL.o (a5h hlt (by rw [HP.o,h1];rfl)));go_wp2_with fail
    refine(sG _ _ _ _).mono ?_;rintro e w1 ⟨rfl,rfl⟩;rw [h1];go_wp2_with fail
    go_ret;exact⟨rB HF.o,aZ.o⟩
   cases h2:bg x.ms[k].b 0 1099511627776
   ·have HF:=η (mL.o (a5h hlt (by rw [HP.o,h1,h2];rfl)));go_wp2_with fail
    refine(sG _ _ _ _).mono ?_;rintro e w1 ⟨rfl,rfl⟩;rw [h1];go_wp2_with fail
    refine(sG _ _ _ _).mono ?_;rintro e w1 ⟨rfl,rfl⟩;rw [h2];go_wp2_with fail
    go_ret;exact⟨rB HF.o,aZ.o⟩
   have HX:Hid ((x.ms.take (k+1)).all uf=aO):=by show _=_;rw [cG.o,HK.o,HP.o,h1,h2];rfl
   go_wp2_with fail
   refine(sG _ _ _ _).mono ?_;rintro e w1 ⟨rfl,rfl⟩;rw [h1];go_wp2_with fail
   refine(sG _ _ _ _).mono ?_;rintro e w1 ⟨rfl,rfl⟩;rw [h2];go_wp2_with fail
   go_round
   case rel=>exact⟨k+1,by omega,by go_num,HX⟩
   case measure=>simp [af];omega
  obtain rfl:k=aA x.ms:=by omega
  have HM:Hid (kT x.ms=aO):=by have h2:=HK.o;rw [cT] at h2;show _=_;unfold kT;rw [h2,H1.o];rfl
  have c1:=uD.o.c1;cases h1:bg (aA x.ss) 1 8
  ·have HF:=η (yI.o HM.o (aKQ h1));go_wp2_with fail
   refine(sG _ _ _ _).mono ?_;rintro e w1 ⟨rfl,rfl⟩;rw [h1];go_wp2_with fail
   go_ret;exact⟨rB HF.o,aZ.o⟩
  go_wp2_with fail
  refine(sG _ _ _ _).mono ?_;rintro e w1 ⟨rfl,rfl⟩;rw [h1];have H8:=η h1;clear h1;go_wp2_with fail
  go_loopw [4] (λi wr=>∃k:Nat,k<=aA x.ss/\i=aG aF k/\Hid ((x.ss.take k).all uj=aO)/\Hid (aY w.heap.size w wr)/\Hid (aY W0.heap.size W0 wr)) (λi _=>aA x.ss-(af i).toNat)
  case atStart=>exact⟨0,bK _,rfl,rfl,aZ,aX _ _⟩
  case round=>
   obtain⟨k,hk,rfl,HK,oY,pn⟩:=hrel;have c1:=(uD.o.below pn.o).c1;by_cases hlt:k<aA x.ss
   ·obtain⟨b,o,e0,hb,d0,d1⟩:=Bz ((dQ.o.below pn.o).s) hlt;have cG:=η (PV uj hlt);have HP:=η (show uj x.ss[k]=(bg x.ss[k].a 1 1048576&&bg x.ss[k].b x.ss[k].a 1048576) from rfl);rw [e0] at c1;clear e0;have hb1:(0:Int)<=k:=by omega
    have hb2:(k:Int)<aA x.ss:=by omega
    cases h1:bg x.ss[k].a 1 1048576
    ·have HF:=η (yI.o HM.o (a7G hlt (by rw [HP.o,h1];rfl)));go_wp2_with fail
     go_quiet ((go_at_call 23;exact J1 (NG h1 _)))
     go_wp2_with fail
     go_ret;exact⟨rB HF.o,below_drewN oY.o _⟩
    cases h2:bg x.ss[k].b x.ss[k].a 1048576
    ·have HF:=η (yI.o HM.o (a7G hlt (by rw [HP.o,h1,h2];rfl)));go_wp2_with fail
     go_quiet ((go_at_call 23;first|(with_reducible exact J1 (NG h1 _))|(with_reducible exact J1 (NG h2 _))))
     go_wp2_with fail
     go_ret;exact⟨rB HF.o,below_drewN oY.o _⟩
    have HX:Hid ((x.ss.take (k+1)).all uj=aO):=by show _=_;rw [cG.o,HK.o,HP.o,h1,h2];rfl
    go_wp2_with fail
    go_quiet ((go_at_call 23;first|(with_reducible exact J1 (NG h1 _))|(with_reducible exact J1 (NG h2 _))))
    go_wp2_with fail
    go_roundw
    case rel=>exact⟨k+1,by omega,by go_num,HX,below_drewN oY.o _,below_drewN pn.o _⟩
    case measure=>simp [af];omega
   obtain rfl:k=aA x.ss:=by omega
   have HS:Hid (lF x.ss=aO):=by have h2:=HK.o;rw [cT] at h2;show _=_;unfold lF;rw [h2,H8.o];rfl
   have c2:=(uD.o.below pn.o).c2;obtain⟨wo,rfl⟩:∃wo:aJ,wo=wr:=⟨_,rfl⟩;cases QA:bg (aA x.cy) 1 4
   ·have HF:=η (gD.o HM.o HS.o (aEf QA));go_wp2_with fail
    refine(sG _ _ _ _).mono ?_;rintro e w1 ⟨rfl,rfl⟩;rw [QA];go_wp2_with fail
    go_ret;exact⟨rB HF.o,oY.o⟩
   go_wp2_with fail
   refine(sG _ _ _ _).mono ?_;rintro e w1 ⟨rfl,rfl⟩;rw [QA];go_wp2_with fail
   go_loopw [5,6,7] (λa i _ wr=>∃k:Nat,k<=aA x.cy/\i=aG aF k/\a=aG aF (ja 0 (iH (x.cy.take k)))/\Hid (risesB 0 (iH (x.cy.take k))=aO)/\ja 0 (iH (x.cy.take k))<=1000/\Hid (aY w.heap.size w wr)/\Hid (aY W0.heap.size W0 wr)) (λ_ i _ _=>aA x.cy-(af i).toNat)
   case atStart=>exact⟨0,bK _,rfl,rfl,rfl,by simp [iH,ja],oY,pn⟩
   case round=>
    obtain⟨k,hk,rfl,rfl,HK,QG,HD,HR⟩:=hrel;have hsz:=HR.o.size;have c2:=(uD.o.below HR.o).c2;have Vm:=(uD.o.below HR.o).lt;by_cases hlt:k<aA x.cy
    ·obtain⟨b,o,e0,hb,d0,d1,d2,d3⟩:=a2U ((dQ.o.below HR.o).c) hlt;have iv:=η (aEd (l:=x.cy) hlt);have HST:=η (aEg (l:=x.cy) hlt);generalize ja 0 (iH (x.cy.take k))=at0 at*;rw [e0] at c2;clear e0;have JB:Hid (∀o,aY w.heap.size w (wr.alloc o)):=λo=>HD.o.alloc (bz aZ.o.size hsz) _
     have LQ:Hid (∀o,aY W0.heap.size W0 (wr.alloc o)):=λo=>HR.o.alloc hsz _
     by_cases tU:at0<x.cy[k].a
     rotate_left
     ·have hF:=gD.o HM.o HS.o (iv.o (λg=>tU g.1));have HF:=η hF;clear hF;go_wp2_with fail
      go_ret;exact⟨rB HF.o,JB.o _⟩
     by_cases vh:x.cy[k].a<x.cy[k].b
     rotate_left
     ·have hF:=gD.o HM.o HS.o (iv.o (λg=>vh g.2.1));have HF:=η hF;clear hF;go_wp2_with fail
      go_ret;exact⟨rB HF.o,JB.o _⟩
     by_cases KI:x.cy[k].b<x.cy[k].c
     rotate_left
     ·have hF:=gD.o HM.o HS.o (iv.o (λg=>KI g.2.2.1));have HF:=η hF;clear hF;go_wp2_with fail
      go_ret;exact⟨rB HF.o,JB.o _⟩
     by_cases pO:x.cy[k].c<x.cy[k].d
     rotate_left
     ·have hF:=gD.o HM.o HS.o (iv.o (λg=>pO g.2.2.2.1));have HF:=η hF;clear hF;go_wp2_with fail
      go_ret;exact⟨rB HF.o,JB.o _⟩
     by_cases Bg:x.cy[k].d<=1000
     rotate_left
     ·have hF:=gD.o HM.o HS.o (iv.o (λg=>Bg g.2.2.2.2));have HF:=η hF;clear hF;go_wp2_with fail
      go_ret;exact⟨rB HF.o,JB.o _⟩
     have a4L:MB at0 x.cy[k]:=⟨tU,vh,KI,pO,Bg⟩;obtain⟨hs1,hs2⟩:=HST.o a4L HK.o;have cX:=η hs1;have cM:=η hs2;clear a4L hs1 hs2;go_wp2_with fail
     go_roundw
     case rel=>exact⟨k+1,by omega,by go_num,by rw [cM.o],cX,by rw [cM.o];exact Bg,JB.o _,LQ.o _⟩
     case measure=>simp [af];omega
    obtain rfl:k=aA x.cy:=by omega
    have HC:Hid (lV x.cy=aO):=by have h1:=HK.o;have h2:=QG;rw [cT] at h1 h2;exact aEe QA h1 h2
    have CP:=η (uD.o.below HR.o);have c3:=CP.o.c3;have c4:=CP.o.c4;have c5:=CP.o.c5;have c6:=CP.o.c6;have c7:=CP.o.c7;clear QG;go_wp2_with fail
    refine(sG _ _ _ _).mono ?_;rintro e w1 ⟨rfl,rfl⟩;cases h3:bg x.line 0 1099511627776
    ·have HF:=η (mM.o HM.o HS.o HC.o h3);go_wp2_with fail
     go_ret;exact⟨rB HF.o,HD.o⟩
    have G3:=η h3;clear h3;go_wp2_with fail
    refine(sG _ _ _ _).mono ?_;rintro e w1 ⟨rfl,rfl⟩;cases h4:bg x.bV 0 1099511627776
    ·have HF:=η (zP.o HM.o HS.o HC.o G3.o h4);go_wp2_with fail
     go_ret;exact⟨rB HF.o,HD.o⟩
    have G4:=η h4;clear h4;go_wp2_with fail
    refine(sG _ _ _ _).mono ?_;rintro e w1 ⟨rfl,rfl⟩;cases h5:bg x.lead 0 1000
    ·have HF:=η (py.o HM.o HS.o HC.o G3.o G4.o h5);go_wp2_with fail
     go_ret;exact⟨rB HF.o,HD.o⟩
    have G5:=η h5;clear h5;go_wp2_with fail
    refine(sG _ _ _ _).mono ?_;rintro e w1 ⟨rfl,rfl⟩;cases h6:bg x.tr 1 64
    ·have HF:=η (HW6.o HM.o HS.o HC.o G3.o G4.o G5.o h6);go_wp2_with fail
     go_ret;exact⟨rB HF.o,HD.o⟩
    have G6:=η h6;clear h6;go_wp2_with fail
    refine(sG _ _ _ _).mono ?_;rintro e w1 ⟨rfl,rfl⟩;cases h7:bg x.bT 1 32
    ·have HF:=η (HW7.o HM.o HS.o HC.o G3.o G4.o G5.o G6.o h7);go_wp2_with fail
     go_ret;exact⟨rB HF.o,HD.o⟩
    have G7:=η h7;clear h7;have HF:=η (HW8.o HM.o HS.o HC.o G3.o G4.o G5.o G6.o G7.o);go_wp2_with fail
    go_ret;exact⟨rB HF.o,HD.o⟩
structure Td where
 i:Int
 b:Int
 s:Int
 c:Int
 q:Int
 p:Int
def Td.cells(x:Td):List aN:= [aG aF x.i,aG aF x.b,aG aF x.s,aG aF x.c,aG aF x.q,aG aF x.p]
def Td.val(x:Td):aN:=bQ #[aG aF x.i,aG aF x.b,aG aF x.s,aG aF x.c,aG aF x.q,aG aF x.p]
def YR(l:List Td):List aN:=l.flatMap Td.cells
def Td.ok(x:Td):Prop:=aL x.b/\aL x.s/\aL x.c/\aL x.q/\aL x.p
theorem aLK {w:aJ} {B:Nat} {A:Option aj} {l:List Td}(h:aW w B A (YR l)) {k:Nat}(hk:k<aA l):
 ∃b o,A=aC ⟨b,o,aB⟩/\b<B/\w.cell? ⟨b,o+k*6,aB⟩=aC (ν l[k].i)/\w.cell? ⟨b,o+k*6+1,aB⟩=aC (ν l[k].b)/\w.cell? ⟨b,o+k*6+2,aB⟩=aC (ν l[k].s)/\w.cell? ⟨b,o+k*6+3,aB⟩=aC (ν l[k].c)/\w.cell? ⟨b,o+k*6+4,aB⟩=aC (ν l[k].q)/\w.cell? ⟨b,o+k*6+5,aB⟩=aC (ν l[k].p):=by
 obtain⟨b,o,e,hb,hc⟩:=h.run (i:=k*6) (y:=ν l[k].i) (t:= [ν l[k].b,ν l[k].s,ν l[k].c,ν l[k].q,ν l[k].p]) (λj u hu=>uV Td.cells 6 (λ_=>rfl) l k hk j u hu);exact⟨b,o,e,hb,hc 0 _ rfl,hc 1 _ rfl,hc 2 _ rfl,hc 3 _ rfl,hc 4 _ rfl,hc 5 _ rfl⟩
def UO(n:Nat)(w:aJ)(e:dU)(w':aJ):Prop:=∃A c L er,e=aT (bB #[aH A (aA (L:List Lg)) c,aG aF er])/\sq w' A c L/\(∀y∈L,y.ok)/\aA L<=n/\aY w.heap.size w w'
theorem aK0(t:Td)(w:aJ)(hI:t.ok):
 aQ aM 91 #[t.val] w (UO 4 w):=by
 obtain⟨t0,t1,t2,t3,t4,t5⟩:=t;obtain⟨i1,i2,i3,i4,i5⟩:=hI;simp only at i1 i2 i3 i4 i5;have HI:=η (kX i1 (kX i2 (kX i3 i4)));have HM:=η (λW=>aK2 t4 t5 W i4 i5);have ET:Hid (aL (fU (t4*t5))):=η (Uo _);have aZ:Hid (β w (w.alloc (aK #[ν t0,ν t1,ν t2,ν t3,ν t4,ν t5] 153))):=η σ;have cY:Hid ((w.alloc (aK #[ν t0,ν t1,ν t2,ν t3,ν t4,ν t5] 153)).heap[w.heap.size]? =aC (aK #[ν t0,ν t1,ν t2,ν t3,ν t4,ν t5] 153 (0,0))):=η (cO w _);have hz0:w.heap.size<(w.alloc (aK #[ν t0,ν t1,ν t2,ν t3,ν t4,ν t5] 153)).heap.size:=by simp
 obtain⟨i0,bu,sB,sD,sF⟩:=dJ NL;clear i1 i2 i3 i4 i5;unfold Td.val;generalize fU (t4*t5)=v at*;generalize dC (t4*t5)=er at*;go_enter func91,ntmps91
 go_upto_region 1 with (fail)
 generalize w.alloc (aK #[ν t0,ν t1,ν t2,ν t3,ν t4,ν t5] 153)=w0 at*;obtain⟨bx,bU⟩:∃bx,bx=w.heap.size:=⟨_,rfl⟩;rw [<-bU] at cY hz0 ⊢;clear bU;have fL:Hid (∀W,β w0 W->W.cell? ⟨bx,1,aB⟩=aC (ν t1)/\W.cell? ⟨bx,2,aB⟩=aC (ν t2)/\W.cell? ⟨bx,3,aB⟩=aC (ν t3)/\W.cell? ⟨bx,4,aB⟩=aC (ν t4)/\W.cell? ⟨bx,5,aB⟩=aC (ν t5)):=η (λW hW=>by have hd:=(hW.block bx hz0).trans cY.o;exact⟨ρ hd,ρ hd,ρ hd,ρ hd,ρ hd⟩);have eI:Hid (∀W,β w0 W->β w W):=η (λW hW=>aZ.o.trans (hW.mono aZ.o.size));obtain⟨_,_,_,d4,d5⟩:=fL.o w0 (aX _ _);go_upto_region 3 with (go_at_call 154;refine(HM.o _).mono ?_;rintro e w1 ⟨rfl,hb1⟩;have aR:Hid (β w0 w1):=η hb1;clear hb1)
 clear HM d4 d5 cY;obtain⟨d1,d2,d3,d4,_⟩:=fL.o w1 aR.o;by_cases F3:er=0/\v≠-9223372036854775808/\t4≠-9223372036854775808
 case neg=>
  have QY:∀W,β w0 W->UO 4 w (aT (bB #[aH aB 0 0,ν 2])) W:=λW hW=>⟨aB,0,[],2,rfl,⟨aW.nil,λ_=>⟨rfl,rfl⟩⟩,by simp,by simp,eI.o W hW⟩
  have rK:=η (QY w1 aR.o);clear QY;by_cases h1:er=0
  ·by_cases h2:v= -9223372036854775808
   ·subst h1 h2;clear F3;go_wp2_with fail
    go_ret2;exact rK.o
   have h3:t4= -9223372036854775808:=Classical.not_not.1 (λh=>F3 ⟨h1,h2,h⟩);have hb2:(v== -9223372036854775808)=aP:=by simpa using h2
   subst h1 h3;clear F3;go_wp2_with fail
   go_ret2;exact rK.o
  have hb:(er==0)=aP:=by simpa using h1
  clear F3;go_wp2_with fail
  go_ret2;exact rK.o
 obtain⟨rfl,h2,h3⟩:=F3;have hb2:(v== -9223372036854775808)=aP:=by simpa using h2
 have hb3:(t4== -9223372036854775808)=aP:=by simpa using h3
 have oL:aL (-v):=by have h:=ET.o;unfold aL at*;omega
 have nh:aL (-t4):=by have h:=HI.o.2.2.2;unfold aL at*;omega
 have hw2:aF.wrap (-v)= -v:=wF oL;have hw3:aF.wrap (-t4)= -t4:=wF nh;have qR:=η oL;have iT:=η nh;clear oL nh;have cF:Hid (w1.ownsRow w0.heap.size 76 3 (aH aB 0 0) 0 (bA [])):=η (fh _ _ _ _);have wK:Hid (β w1 (w1.alloc (aK #[ν t1,ν 0,ν v] 76))):=η σ;have o6:=η (gh cF.o wK.o);go_wp2_with (at_builtin;refine iZ _ rfl _ _ 39 rfl w0.heap.size 76 i0 _ 3 24 tE bu sB sD sF rfl (by decide) _ 0 (bA []) rfl o6.o ⟨w1.heap.size,0,aB⟩ 1 1 [ν t1,ν 0,ν v] rfl rfl (dK w1 76 #[ν t1,ν 0,ν v] rfl) (KR ⟨t1,0,v⟩) (by decide) (by decide) (bz aR.o.size wK.o.size) ?_)
 intro v2 w2 eU hg2 _;have aV:Hid (β w0 w2):=η (Ei (aR.o.trans (wK.o.mono aR.o.size)) hg2 (λk hk=>(o6.o.lt k hk).1) (bz aR.o.size wK.o.size));have dE:Hid (w2.ownsRow w0.heap.size 76 3 v2 1 (bA [⟨t1,0,v⟩])):=η eU;clear eU hg2 wK o6 d1 d2 d3 d4;obtain⟨d1,d2,d3,d4,_⟩:=fL.o w2 aV.o;have wL:Hid (β w2 (w2.alloc (aK #[ν t1,ν t3,ν (-t4)] 76))):=η σ;have mj:=η (gh dE.o wL.o);go_wp2_with (at_builtin;refine iZ _ rfl _ _ 39 rfl w0.heap.size 76 i0 _ 3 24 tE bu sB sD sF rfl (by decide) _ 1 (bA [⟨t1,0,v⟩]) rfl mj.o ⟨w2.heap.size,0,aB⟩ 1 1 [ν t1,ν t3,ν (-t4)] rfl rfl (dK w2 76 #[ν t1,ν t3,ν (-t4)] rfl) (KR ⟨t1,t3,(-t4)⟩) (by decide) (by decide) (bz aV.o.size wL.o.size) ?_)
 intro v3 w3 j5 hg3 _;have ag:Hid (β w0 w3):=η (Ei (aV.o.trans (wL.o.mono aV.o.size)) hg3 (λk hk=>(mj.o.lt k hk).1) (bz aV.o.size wL.o.size));have cD:Hid (w3.ownsRow w0.heap.size 76 3 v3 2 (bA [⟨t1,0,v⟩,⟨t1,t3,-t4⟩])):=η j5;clear j5 hg3 wL mj d1 d2 d3 d4;obtain⟨d1,d2,d3,d4,_⟩:=fL.o w3 ag.o;have lL:Hid (β w3 (w3.alloc (aK #[ν t2,ν 0,ν (-v)] 76))):=η σ;have ot:=η (gh cD.o lL.o);go_wp2_with (at_builtin;refine iZ _ rfl _ _ 39 rfl w0.heap.size 76 i0 _ 3 24 tE bu sB sD sF rfl (by decide) _ 2 (bA [⟨t1,0,v⟩,⟨t1,t3,-t4⟩]) rfl ot.o ⟨w3.heap.size,0,aB⟩ 1 1 [ν t2,ν 0,ν (-v)] rfl rfl (dK w3 76 #[ν t2,ν 0,ν (-v)] rfl) (KR ⟨t2,0,(-v)⟩) (by decide) (by decide) (bz ag.o.size lL.o.size) ?_)
 intro v4 w4 gG hg4 _;have ar:Hid (β w0 w4):=η (Ei (ag.o.trans (lL.o.mono ag.o.size)) hg4 (λk hk=>(ot.o.lt k hk).1) (bz ag.o.size lL.o.size));have dP:Hid (w4.ownsRow w0.heap.size 76 3 v4 3 (bA [⟨t1,0,v⟩,⟨t1,t3,-t4⟩,⟨t2,0,-v⟩])):=η gG;clear gG hg4 lL ot d1 d2 d3 d4;obtain⟨d1,d2,d3,d4,_⟩:=fL.o w4 ar.o;have rG:Hid (β w4 (w4.alloc (aK #[ν t2,ν t3,ν t4] 76))):=η σ;have Te:=η (gh dP.o rG.o);go_wp2_with (at_builtin;refine iZ _ rfl _ _ 39 rfl w0.heap.size 76 i0 _ 3 24 tE bu sB sD sF rfl (by decide) _ 3 (bA [⟨t1,0,v⟩,⟨t1,t3,-t4⟩,⟨t2,0,-v⟩]) rfl Te.o ⟨w4.heap.size,0,aB⟩ 1 1 [ν t2,ν t3,ν t4] rfl rfl (dK w4 76 #[ν t2,ν t3,ν t4] rfl) (KR ⟨t2,t3,t4⟩) (by decide) (by decide) (bz ar.o.size rG.o.size) ?_)
 intro v5 w5 iW ej _;have cV:Hid (β w0 w5):=η (Ei (ar.o.trans (rG.o.mono ar.o.size)) ej (λk hk=>(Te.o.lt k hk).1) (bz ar.o.size rG.o.size));have ez:Hid (w5.ownsRow w0.heap.size 76 3 v5 4 (bA [⟨t1,0,v⟩,⟨t1,t3,-t4⟩,⟨t2,0,-v⟩,⟨t2,t3,t4⟩])):=η iW;clear iW ej rG Te d1 d2 d3 d4;obtain⟨d1,d2,d3,d4,_⟩:=fL.o w5 cV.o;go_wp2_with fail
 go_ret2;obtain⟨A5,c5,rfl⟩:=bL ez.o;exact⟨A5,c5,[⟨t1,0,v⟩,⟨t1,t3,-t4⟩,⟨t2,0,-v⟩,⟨t2,t3,t4⟩],0,rfl,⟨aW.cA ez.o,λe=>by have:=Ic ez.o e;exact this⟩,by
  intro y hy;have h:=HI.o;simp only [fE,List.not_mem_nil,or_false] at hy;rcases hy with rfl|rfl|rfl|rfl
  ·exact⟨h.1,(by decide:aL 0),ET.o⟩
  ·exact⟨h.1,h.2.2.1,iT.o⟩
  ·exact⟨h.2.1,(by decide:aL 0),qR.o⟩
  exact⟨h.2.1,h.2.2.1,h.2.2.2⟩,by simp,eI.o _ cV.o⟩
structure Ac where
 k:Int
 ts:List Td
 At:Option aj
 ct:Nat
 ls:List Lg
 Al:Option aj
 cl:Nat
 m:Int
 a:Int
 n:Int
 b:Bd
def Ac.val(x:Ac):aN:=bQ #[aG aF x.k,aH x.At (aA x.ts) x.ct,aH x.Al (aA x.ls) x.cl,aG aF x.m,aG aF x.a,aG aF x.n,aG aF x.b.s,aG aF x.b.m,aG aF x.b.c,aG aF x.b.q,aG aF x.b.p]
def Ac.cells(x:Ac):List aN:= [aG aF x.k,aH x.At (aA x.ts) x.ct,aH x.Al (aA x.ls) x.cl,aG aF x.m,aG aF x.a,aG aF x.n,aG aF x.b.s,aG aF x.b.m,aG aF x.b.c,aG aF x.b.q,aG aF x.b.p]
structure Ac.ok(x:Ac):Prop where
 m:aL x.m
 a:aL x.a
 n:aL x.n
 b:x.b.ok
 t:∀y∈x.ts,y.ok
 l:∀y∈x.ls,y.ok
structure Ac.at(x:Ac)(w:aJ):Prop where
 t:aW w w.heap.size x.At (YR x.ts)
 l:aW w w.heap.size x.Al (bA x.ls)
theorem Ac.at.below {x:Ac} {w w':aJ}(h:x.at w)(hb:aY w.heap.size w w'):x.at w':=⟨(h.t.below hb).mono hb.size,(h.l.below hb).mono hb.size⟩
def UN(n:Nat)(w:aJ)(e:dU)(w':aJ):Prop:=∃A c L,e=aT (aH A (aA (L:List Lg)) c)/\aW w' w'.heap.size A (bA L)/\(∀y∈L,y.ok)/\aA L<=n/\aY w.heap.size w w'
theorem aHh(x:Ac)(w:aJ)(hx:x.ok)(ha:x.at w)(hn:aA x.ts<=30)(hl:aA x.ls<=60):
 aQ aM 39 #[x.val] w (UN 120 w):=by
 obtain⟨xk,ts,At,ct,ls,Al,cl,xm,xa,xn,⟨bs,bm,bc,bq,bp⟩⟩:=x;have HT:Hid (∀y∈ts,y.ok):=η hx.t;have HL:Hid (∀y∈ls,y.ok):=η hx.l;have O1:=η ha;simp only at hn hl;have aZ:Hid (β w (w.alloc (aK #[ν xk,aH At (aA ts) ct,aH Al (aA ls) cl,ν xm,ν xa,ν xn,ν bs,ν bm,ν bc,ν bq,ν bp] 43))):=η σ;have cY:Hid ((w.alloc (aK #[ν xk,aH At (aA ts) ct,aH Al (aA ls) cl,ν xm,ν xa,ν xn,ν bs,ν bm,ν bc,ν bq,ν bp] 43)).heap[w.heap.size]? =aC (aK #[ν xk,aH At (aA ts) ct,aH Al (aA ls) cl,ν xm,ν xa,ν xn,ν bs,ν bm,ν bc,ν bq,ν bp] 43 (0,0))):=η (cO w _);have hz0:w.heap.size<(w.alloc (aK #[ν xk,aH At (aA ts) ct,aH Al (aA ls) cl,ν xm,ν xa,ν xn,ν bs,ν bm,ν bc,ν bq,ν bp] 43)).heap.size:=by simp
 clear hx ha;unfold Ac.val;go_enter func39,ntmps39
 go_upto_region 1 with (fail)
 generalize w.alloc (aK #[ν xk,aH At (aA ts) ct,aH Al (aA ls) cl,ν xm,ν xa,ν xn,ν bs,ν bm,ν bc,ν bq,ν bp] 43)=w0 at*;obtain⟨bx,bU⟩:∃bx,bx=w.heap.size:=⟨_,rfl⟩;rw [<-bU] at cY hz0 ⊢;clear bU;have fL:Hid (∀W,β w0 W->W.cell? ⟨bx,0,aB⟩=aC (ν xk)/\W.cell? ⟨bx,1,aB⟩=aC (aH At (aA ts) ct)/\W.cell? ⟨bx,2,aB⟩=aC (aH Al (aA ls) cl)):=η (λW hW=>by have hd:=(hW.block bx hz0).trans cY.o;exact⟨ρ hd,ρ hd,ρ hd⟩);have eI:Hid (∀W,β w0 W->β w W):=η (λW hW=>aZ.o.trans (hW.mono aZ.o.size));obtain⟨d0,d1,d2⟩:=fL.o w0 (aX _ _);by_cases h1:xk=0
 case neg=>
  have hb:(xk==0)=aP:=by simpa using h1
  have rK:Hid (UN 120 w (aT (aH Al (aA ls) cl)) w0):=η ⟨Al,cl,ls,rfl,(O1.o.below aZ.o).l,HL.o,by omega,aZ.o⟩;go_wp2_with fail
  go_ret;exact rK.o
 subst h1;clear d2 HL;have mJ:Hid (∃L:List Lg,w0.ownsRow w0.heap.size 76 3 (aH aB 0 0) (aA L) (bA L)/\(∀y∈L,y.ok)/\aA L<=0/\β w0 w0):=η ⟨[],fh _ _ _ _,by simp,by simp,aX _ _⟩;go_upto_region 5 with (fail)
 clear d0 d1;go_loopw [3,4,5,6] (λv i _ _ wr=>∃k:Nat,k<=aA ts/\i=ν (k:Int)/\Hid (∃L:List Lg,wr.ownsRow w0.heap.size 76 3 v (aA L) (bA L)/\(∀y∈L,y.ok)/\aA L<=4*k/\β w0 wr)) (λ_ i _ _ _=>aA ts-(af i).toNat)
 case atStart=>exact⟨0,bK _,rfl,mJ⟩
 case round=>
  clear mJ;obtain⟨k,hk,rfl,uu⟩:=hrel;obtain⟨L,ho,dS,kr,hb⟩:=uu.o;obtain⟨v,hv⟩:∃v,v=u3:=⟨_,rfl⟩;have HO:=η ho;have HK:=η dS;have mH:=η kr;have HB:=η hb;clear uu ho dS kr;obtain⟨_,d1,_⟩:=fL.o wr hb;clear hb;by_cases hlt:k<aA ts
  ·obtain⟨bl,ol,jn,hbl,l0,l1,l2,l3,l4,l5⟩:=aLK ((O1.o.below aZ.o).below HB.o).t hlt;have eY:(0:Int)<=(k:Int):=by omega
   have hkb:(k:Int)<(aA ts:Int):=by omega
   have lU:=η (HT.o _ (cH hlt));have hAt:At=aC ⟨bl,ol,aB⟩:=jn;clear jn;subst hAt;generalize ts[k]=t at*;obtain⟨t0,t1,t2,t3,t4,t5⟩:=t;simp only at l0 l1 l2 l3 l4 l5;have JS:Hid (aQ aM 91 #[bQ #[ν t0,ν t1,ν t2,ν t3,ν t4,ν t5]] wr (UO 4 wr)):=η (aK0 ⟨t0,t1,t2,t3,t4,t5⟩ wr lU.o);go_upto_region 8 with (go_at_call 91;refine JS.o.mono ?_;rintro e w2 ⟨A2,c2,L2,er,rfl,hs2,hk2,hl2,hb2⟩;have aV:Hid (β w0 w2):=τ HB hb2;have dE:=η (gh HO.o hb2);have cM:=η hs2;have lh:=η hk2;have Ca:=η hl2;clear hs2 hk2 hl2 hb2)
   clear JS HO l0 l1 l2 l3 l4 l5 d1;go_wp2_with (at_builtin;refine a8U rfl _ _ rfl w0.heap.size _ (aA L) (bA L) rfl dE.o A2 c2 L2 rfl cM.o (by have:=mH.o;have:=Ca.o;omega) aV.o.size ?_)
   intro v3 w3 j5 hg3 _;have qQ:Hid (∃L:List Lg,w3.ownsRow w0.heap.size 76 3 v3 (aA L) (bA L)/\(∀y∈L,y.ok)/\aA L<=4*(k+1)/\β w0 w3):=η ⟨L++L2,by rw [cN,show bA (L++L2)=bA L++bA L2 from by simp [bA]];exact j5,λy hy=>(gL.1 hy).elim (HK.o y) (lh.o y),by rw [cN];have:=mH.o;have:=Ca.o;omega,Ei aV.o hg3 (λk hk=>(dE.o.lt k hk).1) aV.o.size⟩;clear j5 hg3 dE cM HK lh mH Ca aV HB;go_wp2_with fail
   go_roundw
   case rel=>exact⟨k+1,by omega,by go_num,qQ⟩
   case measure=>simp [af];omega
  obtain rfl:k=aA ts:=by omega
  have rK:Hid (∀A c,u3=aH A (aA L) c->UN 120 w (aT (aH A (aA L) c)) wr):=η (λA c e=>by have ho:=HO.o;rw [e] at ho;exact⟨A,c,L,rfl,aW.cA ho,HK.o,by have:=mH.o;omega,eI.o _ HB.o⟩);obtain⟨A9,c9,h9⟩:=bL HO.o;have cK:=η (rK.o A9 c9 h9);subst hv;subst h9;go_wp2_with fail
  go_ret;exact cK.o
structure a0R(D:Dk)(x:Ac):Prop where
 ok:fY D
 top:aL (1099511627776-balA (aA D.x.ms) (aA D.x.ss+1) D.l 8 x.m 0)
 due:D.st=1->Si D
 ml:aA D.x.ms<=100000
 sl:aA D.x.ss<=100000
 bd:aL D.x.bT
 sh:D.st=2->nS D.x x.b=0->aL (balA (aA D.x.ms) (aA D.x.ss+1) D.l 1 0 x.b.c)
 set:D.st=2->UL D
 en:J3 D
 nt:∀L:List Lg,aA L<=120->(∀y∈L,y.ok)->UI D L
inductive vH(D:Dk)(x:Ac):Dk->Prop
 |pay:x.k=1->vH D x (zq D (pR D x.m x.a x.n 7 x.m 1 0 5 (j7 x.m x.a x.n D.ob) (kV x.m x.a x.n D.ob)))
 |back:x.k=2->vH D x (zq D (pR D x.m x.a x.n 1 0 7 x.m 6 (lG x.m x.a x.n D.ob) (nw x.m x.a x.n D.ob)))
 |top:x.k=3->vH D x (Aa D x.m x.n)
 |take:x.k=4->vH D x (AZ D x.m x.n)
 |due:x.k=5->vH D x (DM D)
 |M5:x.k=6->vH D x (qF D x.b)
 |set {D':Dk}:x.k=7->Jj D D'->vH D x D'
 |Jx:x.k=8->vH D x (vP D)
 |az {L:List Lg}:(x.k<1\/8<x.k)->aA L<=120->(∀y∈L,y.ok)->vH D x (xe D L)
def Ran(db:Nat)(p:Dp)(D:Dk)(x:Ac)(w:aJ)(e:dU)(w':aJ):Prop:=e=aT (bB #[])/\∃D',vH D x D'/\aq db p D' w w'
theorem aKH(db:Nat)(p:Dp)(D:Dk)(x:Ac)(w:aJ)(H:bW w db p D)(hx:x.ok)(ha:x.at w)(hn:aA x.ts<=30)(hl:aA x.ls<=60)(P:a0R D x):
 aQ aM 12 #[π db,x.val] w (Ran db p D x w):=by
 obtain⟨xk,ts,At,ct,ls,Al,cl,xm,xa,xn,⟨bs,bm,bc,bq,bp⟩⟩:=x;obtain⟨im,ia,pP,ib,it,il⟩:=hx;obtain⟨KP,a4s,a4h,iml,isl,ibd,ish,a4q,ien,int⟩:=P;have aZ:Hid (β w (w.alloc (aK #[ν xk,aH At (aA ts) ct,aH Al (aA ls) cl,ν xm,ν xa,ν xn,ν bs,ν bm,ν bc,ν bq,ν bp] 43))):=η σ;have cY:Hid ((w.alloc (aK #[ν xk,aH At (aA ts) ct,aH Al (aA ls) cl,ν xm,ν xa,ν xn,ν bs,ν bm,ν bc,ν bq,ν bp] 43)).heap[w.heap.size]? =aC (aK #[ν xk,aH At (aA ts) ct,aH Al (aA ls) cl,ν xm,ν xa,ν xn,ν bs,ν bm,ν bc,ν bq,ν bp] 43 (0,0))):=η (cO w _);have hz0:w.heap.size<(w.alloc (aK #[ν xk,aH At (aA ts) ct,aH Al (aA ls) cl,ν xm,ν xa,ν xn,ν bs,ν bm,ν bc,ν bq,ν bp] 43)).heap.size:=by simp
 have HP:Hid (∀W D',β w W->∀W',aq db p D' W W'->aq db p D' w W'):=η (λW D' hW W' h=>aq.trans (bC.bZ _ hW) (λ_ h=> .inl h) ⟨rfl,rfl,rfl,rfl⟩ h);have rK:Hid (∀W D',vH D ⟨xk,ts,At,ct,ls,Al,cl,xm,xa,xn,⟨bs,bm,bc,bq,bp⟩⟩ D'->aq db p D' w W->Ran db p D ⟨xk,ts,At,ct,ls,Al,cl,xm,xa,xn,⟨bs,bm,bc,bq,bp⟩⟩ w (aT (bB #[])) W):=η (λW D' h1 h2=>⟨rfl,D',h1,h2⟩);have C1:=η (λW (hW:β w W)=>a2a db p D xm xa xn W (H.below hW) KP im ia pP);have C2:=η (λW (hW:β w W)=>aEl db p D xm xa xn W (H.below hW) KP im ia pP);have C3:=η (λW (hW:β w W)=>aEn db p D xm xn W (H.below hW) KP im pP a4s);have C4:=η (λW (hW:β w W)=>aEm db p D xm xn W (H.below hW) KP im pP);have C5:=η (λW (hW:β w W)=>a2Y db p D W (H.below hW) a4h);have C6:=η (λW (hW:β w W)=>aEj db p D ⟨bs,bm,bc,bq,bp⟩ W (H.below hW) KP ib iml isl ibd ish);have C7:=η (λW (hW:β w W)=>a2b db p D W (H.below hW) a4q);have C8:=η (λW (hW:β w W)=>a2Z db p D W (H.below hW) ien);have C9:=η (λW (hW:β w W) L A c (hs:aW W W.heap.size A (bA L)) (hI:∀y∈L,y.ok) (hl:aA L<=120)=>VC db p D L A c W (H.below hW) hs hI (by omega) (int L hl hI));have C0:=η (λW (hW:β w W)=>aHh ⟨xk,ts,At,ct,ls,Al,cl,xm,xa,xn,⟨bs,bm,bc,bq,bp⟩⟩ W ⟨im,ia,pP,ib,it,il⟩ (ha.below hW) hn hl);clear H im ia pP ib it il KP a4s a4h iml isl ibd ish a4q ien int ha hn hl;unfold Ac.val at C0 ⊢;unfold Bd.val at C6;go_enter func12,ntmps12
 go_upto_region 1 with (fail)
 generalize w.alloc (aK #[ν xk,aH At (aA ts) ct,aH Al (aA ls) cl,ν xm,ν xa,ν xn,ν bs,ν bm,ν bc,ν bq,ν bp] 43)=w0 at*;obtain⟨bx,bU⟩:∃bx,bx=w.heap.size:=⟨_,rfl⟩;rw [<-bU] at cY hz0 ⊢;clear bU;have fL:Hid (w0.cell? ⟨bx,0,aB⟩=aC (ν xk)/\w0.cell? ⟨bx,1,aB⟩=aC (aH At (aA ts) ct)/\w0.cell? ⟨bx,2,aB⟩=aC (aH Al (aA ls) cl)/\w0.cell? ⟨bx,3,aB⟩=aC (ν xm)/\w0.cell? ⟨bx,4,aB⟩=aC (ν xa)/\w0.cell? ⟨bx,5,aB⟩=aC (ν xn)/\w0.cell? ⟨bx,6,aB⟩=aC (ν bs)/\w0.cell? ⟨bx,7,aB⟩=aC (ν bm)/\w0.cell? ⟨bx,8,aB⟩=aC (ν bc)/\w0.cell? ⟨bx,9,aB⟩=aC (ν bq)/\w0.cell? ⟨bx,10,aB⟩=aC (ν bp)):=η (by have hd:=cY.o;exact⟨ρ hd,ρ hd,ρ hd,ρ hd,ρ hd,ρ hd,ρ hd,ρ hd,ρ hd,ρ hd,ρ hd⟩);obtain⟨d0,d1,d2,d3,d4,d5,d6,d7,d8,d9,d10⟩:=fL.o;clear cY fL hz0;go_upto_region 3 with (fail)
 by_cases h1:xk=1
 ·subst h1;clear C0 C9;go_wp2_with fail
  go_at_call 27
  refine(C1.o _ aZ.o).mono ?_;rintro e w1 ⟨rfl,hp⟩;have HQ:=η (rK.o w1 _ (.pay rfl) (HP.o _ _ aZ.o _ hp));clear hp;go_wp2_with fail
  go_end0
  exact HQ.o
 have b1:(xk==1)=aP:=by simpa using h1
 clear C1;by_cases h2:xk=2
 ·subst h2;clear C0 C9;go_wp2_with fail
  go_at_call 35
  refine(C2.o _ aZ.o).mono ?_;rintro e w1 ⟨rfl,hp⟩;have HQ:=η (rK.o w1 _ (.back rfl) (HP.o _ _ aZ.o _ hp));clear hp;go_wp2_with fail
  go_end0
  exact HQ.o
 have b2:(xk==2)=aP:=by simpa using h2
 clear C2;by_cases h3:xk=3
 ·subst h3;clear C0 C9;go_wp2_with fail
  go_at_call 36
  refine(C3.o _ aZ.o).mono ?_;rintro e w1 ⟨rfl,hp⟩;have HQ:=η (rK.o w1 _ (.top rfl) (HP.o _ _ aZ.o _ hp));clear hp;go_wp2_with fail
  go_end0
  exact HQ.o
 have b3:(xk==3)=aP:=by simpa using h3
 clear C3;by_cases h4:xk=4
 ·subst h4;clear C0 C9;go_wp2_with fail
  go_at_call 37
  refine(C4.o _ aZ.o).mono ?_;rintro e w1 ⟨rfl,hp⟩;have HQ:=η (rK.o w1 _ (.take rfl) (HP.o _ _ aZ.o _ hp));clear hp;go_wp2_with fail
  go_end0
  exact HQ.o
 have b4:(xk==4)=aP:=by simpa using h4
 clear C4;by_cases h5:xk=5
 ·subst h5;clear C0 C9;go_wp2_with fail
  go_at_call 28
  refine(C5.o _ aZ.o).mono ?_;rintro e w1 ⟨rfl,hp⟩;have HQ:=η (rK.o w1 _ (.due rfl) (HP.o _ _ aZ.o _ hp));clear hp;go_wp2_with fail
  go_end0
  exact HQ.o
 have b5:(xk==5)=aP:=by simpa using h5
 clear C5;by_cases h6:xk=6
 ·subst h6;clear C0 C9;go_wp2_with fail
  go_at_call 38
  refine(C6.o _ aZ.o).mono ?_;rintro e w1 ⟨rfl,hp⟩;have HQ:=η (rK.o w1 _ (.M5 rfl) (HP.o _ _ aZ.o _ hp));clear hp;go_wp2_with fail
  go_end0
  exact HQ.o
 have b6:(xk==6)=aP:=by simpa using h6
 clear C6;by_cases h7:xk=7
 ·subst h7;clear C0 C9;go_wp2_with fail
  go_at_call 29
  refine(C7.o _ aZ.o).mono ?_;rintro e w1 ⟨rfl,D2,hr,hp⟩;have HQ:=η (rK.o w1 _ (.set rfl hr) (HP.o _ _ aZ.o _ hp));clear hp;go_wp2_with fail
  go_end0
  exact HQ.o
 have b7:(xk==7)=aP:=by simpa using h7
 clear C7;by_cases h8:xk=8
 ·subst h8;clear C0 C9;go_wp2_with fail
  go_at_call 25
  refine(C8.o _ aZ.o).mono ?_;rintro e w1 ⟨rfl,hp⟩;have HQ:=η (rK.o w1 _ (.Jx rfl) (HP.o _ _ aZ.o _ hp));clear hp;go_wp2_with fail
  go_end0
  exact HQ.o
 have b8:(xk==8)=aP:=by simpa using h8
 clear C8;go_wp2_with fail
 go_at_call 39
 refine(C0.o _ aZ.o).mono ?_;rintro e w1 ⟨A1,c1,L1,rfl,hs1,xR,oK,hb1⟩;have sW:=η (C9.o w1 (aZ.o.trans (hb1.mono aZ.o.size)) L1 A1 c1 hs1 xR oK);have LC:=η xR;have uw:=η oK;have aR:=τ aZ hb1;clear hs1 xR oK hb1;go_wp2_with fail
 go_at_call 26
 refine sW.o.mono ?_;rintro e w2 ⟨rfl,jZ⟩;have HQ:=η (rK.o w2 _ (.az (by simp only;omega) uw.o LC.o) (HP.o _ _ aR.o _ jZ));clear jZ;go_wp2_with fail
 go_end0
 exact HQ.o
def kC(n:Int)(e:Bool):Int:=n*580000000000000000+(if e=aO then 1099511627776 else 0)
theorem AK {n:Int}(e:Bool)(h0:0<=n)(h1:n<=4):0<=kC n e/\kC n e<=2320001099511627776:=by grind [kC]
theorem aHM(n:Int)(e:Bool):kC n e=kC (n-1) e+580000000000000000:=by unfold kC;omega
structure Inv(g:Nat)(D:Dk):Prop where
 st:D.st=0\/D.st=1\/D.st=2
 CE:D.st=0->aw (kC D.ai D.en+576460752303423488) g D/\ny (kC D.ai D.en) D/\D.h= []/\∀x∈D.ob,eZ x=aO->False
 yr:D.st=1->aw (kC (D.ai-1) D.en+576460752303423488) g D/\ny (kC (D.ai-1) D.en) D/\qC D.h/\1<=D.ai
 Io:D.st=2->aw (kC (D.ai-1) D.en+576460752303423488+140737488355328) g D/\D.h= []/\(∀x∈D.ob,eZ x=aO->x.az<0)/\1<=D.ai
theorem Inv.jI {g:Nat} {D:Dk}(H:Inv g D):∃C,aw C g D/\C<=2896602589303406592:=by
 rcases H.st with h|h|h
 ·have K:=H.CE h;have:=AK D.en K.1.ai.1 K.1.ai.2;grind
 ·have K:=H.yr h;have:=AK (n:=D.ai-1) D.en (by omega) (by have:=K.1.ai;omega);grind
 have K:=H.Io h;have:=AK (n:=D.ai-1) D.en (by omega) (by have:=K.1.ai;omega);grind
theorem Inv.wide {g g':Nat} {D:Dk}(H:Inv g D)(hg:g<=g'):Inv g' D:=
 ⟨H.st,λh=>by have K:=H.CE h;exact⟨K.1.wide (dM _) K.1.bD.big hg,K.2⟩,λh=>by have K:=H.yr h;exact⟨K.1.wide (dM _) K.1.bD.big hg,K.2⟩,λh=>by have K:=H.Io h;exact⟨K.1.wide (dM _) K.1.bD.big hg,K.2⟩⟩
theorem Inv.Ii {g:Nat} {D:Dk}(H:Inv g D)(hg:g+1700<=90000)(x:Ac):a0R D x:=by
 obtain⟨C,K,hC⟩:=H.jI;have ir:=K.hs.ml;have jK:=K.hs.sl;have a4I:=K.ai;refine⟨K.ok (by omega), ?_,λh=> ?_,by omega,by omega, ?_,λ_ _=> ?_,λh=> ?_, ?_,λL hl hI=> ?_⟩
 ·have h8:=K.bD.tN x.m 0;have h8n:=K.bD.ok.nn (k:=8) rfl x.m 0;unfold aL;omega
 ·obtain⟨G,_,hu,h1⟩:=H.yr h;have:=AK (n:=D.ai-1) D.en (by omega) (by omega);exact(G.due hu (by omega) (by omega)).1
 ·have:=K.hs.bd;unfold aL;omega
 ·have:=K.house x.b.c;unfold aL;omega
 ·obtain⟨G,hh,ho,h1⟩:=H.Io h;have:=AK (n:=D.ai-1) D.en (by omega) (by omega);exact(G.settled hh ho (by unfold jc;omega) (by omega)).1
 ·exact(K.Jx (by omega) (by omega)).1
 by_cases h:D.st=0
 ·obtain⟨G,F,hh,_⟩:=H.CE h;exact(G.az F (λ_=>hh) hl hI (by omega)).1
 have pM:=a5n L;refine⟨K.ok (by omega),by omega,by omega,⟨by unfold aL;omega,by omega⟩,by omega,λh0=> ?_⟩;grind [lX]
theorem aD1 {M A:Nat} {l:List Int} {k m a:Int}(h:(A:Int)<=a):balA M A l k m a=0:=by grind [Gq,plcA]
structure Cz(D:Dk)(y:Ac)(D':Dk):Prop where
 cf:D'.x=D.x
 lg:∃t,D'.log=D.log++t/\((∃e∈t,e.k=15)->y.k=7/\mE D'=0)
theorem Cz.same(D:Dk)(x:Ac):Cz D x D:=⟨rfl,[],by simp,by simp⟩
theorem Iq {D D':Dk} {x:Ac}(hx:D'.x=D.x)(h:∃t,D'.log=D.log++t/\∀e∈t,e.k≠15):Cz D x D':=by obtain⟨t,e,h⟩:=h;exact⟨hx,t,e,λ⟨y,hy,hk⟩=>absurd hk (h y hy)⟩
theorem Inv.swp {g:Nat} {D D':Dk}(H:Inv g D)(hc:∀C,aw C g D->aw C (g+1) D')(S:Cx D D'):Inv (g+1) D':=by
 refine⟨by rw [S.st];exact H.st,λh=> ?_,λh=> ?_,λh=> ?_⟩
 ·rw [S.st] at h;have K:=H.CE h;rw [S.ai,S.en,S.h,S.ob];exact⟨hc _ K.1,K.2.1.swp S,K.2.2⟩
 ·rw [S.st] at h;have K:=H.yr h;rw [S.ai,S.en,S.h];exact⟨hc _ K.1,K.2.1.swp S,K.2.2⟩
 rw [S.st] at h;have K:=H.Io h;rw [S.ai,S.en,S.h,S.ob];grind
theorem ny.a3E {K C:Int} {g:Nat} {D D':Dk}(F:ny K D)(E:O0 C g D D'):ny (K+1099511627776) D':=
 ⟨λa=>by rw [E.k1,E.ob];exact F.hd a,λm a=>by have:=E.lo m a;have:=F.lo m a;rw [E.ob];omega,λm a=>by have:=E.hi m a;have:=F.hi m a;rw [E.ob];omega,λa=>by have:=F.es a;rw [E.k2];omega⟩
theorem XE(n:Int):kC n aO=kC n aP+1099511627776:=by unfold kC;simp
theorem Inv.step {g:Nat} {D D':Dk} {x:Ac}(H:Inv g D)(hg:g+1700<=90000)(h:vH D x D'):Inv (g+1700) D'/\Cz D x D':=by
 have same:∀E,E=D->Inv (g+1700) E/\Cz D x E:=λE e=>by subst e;exact⟨H.wide (by omega),Cz.same _ _⟩
 have Q5:∀E,(D.st=1->aw (kC (D.ai-1) D.en+576460752303423488) (g+1) E/\ny (kC (D.ai-1) D.en) E/\Cv D E)->Inv (g+1700) (zq D E)/\Cz D x (zq D E):=λE hE=>by
  unfold zq;by_cases hs:D.st=1
  ·rw [ifP hs];obtain⟨G,F,P⟩:=hE hs;have K:=H.yr hs;have est:=P.st.trans hs;refine⟨⟨.inr (.inl est),λh=>by omega,λ_=> ?_,λh=>by omega⟩,Iq P.x P.lg⟩;rw [P.ai,P.en,P.h];exact⟨G.wide (dM _) G.bD.big (by omega),F,K.2.2⟩
  grind
 cases h with
 |pay hk=>exact Q5 _ (λhs=>(H.yr hs).1.pay (H.yr hs).2.1 _ _ _)
 |back hk=>exact Q5 _ (λhs=>(H.yr hs).1.aJu (H.yr hs).2.1 _ _ _)
 |top hk=>
  obtain⟨C,K,_⟩:=H.jI;have S:=(K.top x.m x.n).2;exact⟨(H.swp (λC K=>(K.top x.m x.n).1) S).wide (by omega),Iq S.x S.lg⟩
 |take hk=>
  obtain⟨C,K,_⟩:=H.jI;have S:=(K.take x.m x.n).2;exact⟨(H.swp (λC K=>(K.take x.m x.n).1) S).wide (by omega),Iq S.x S.lg⟩
 |due hk=>
  unfold DM;by_cases hs:D.st=1
  ·rw [ifP hs];obtain⟨G,_,hu,h1⟩:=H.yr hs;have a4I:=G.ai;have:=AK (n:=D.ai-1) D.en (by omega) (by omega);have W:=(G.due hu (by omega) (by omega)).2;refine⟨⟨.inr (.inr W.st),λh=>by have:=W.st;omega,λh=>by have:=W.st;omega,λ_=> ?_⟩,Iq W.x W.lg⟩;rw [W.ai,W.en];exact⟨W.jI.wide (dM _) W.jI.bD.big (by omega),W.h,W.op,h1⟩
  grind
 |M5 hk=>
  obtain⟨C,K,_⟩:=H.jI;have S:=(K.M5 x.b).2;refine⟨⟨by rw [S.st];exact H.st,λh=> ?_,λh=> ?_,λh=> ?_⟩,Iq S.x S.lg⟩
  ·rw [S.st] at h;have K:=H.CE h;have e:qF D x.b=D:=by
    grind [qF,xD]
   rw [e];exact⟨K.1.wide (dM _) K.1.bD.big (by omega),K.2⟩
  ·rw [S.st] at h;have K:=H.yr h;have e:qF D x.b=D:=by
    grind [qF,xD]
   rw [e];exact⟨K.1.wide (dM _) K.1.bD.big (by omega),K.2⟩
  rw [S.st] at h;have K:=H.Io h;rw [S.ai,S.en,S.h,S.ob];exact⟨(K.1.M5 x.b).1.wide (dM _) K.1.bD.big (by omega),K.2⟩
 |set hk hR=>
  rcases hR with⟨_,rfl⟩|⟨hs,E,hB,rfl⟩
  ·exact same _ rfl
  obtain⟨G,hh,ho,h1⟩:=H.Io hs;have a4I:=G.ai;have hkb:=AK (n:=D.ai-1) D.en (by omega) (by omega);have W:=(G.settled hh ho (by unfold jc;omega) (by omega)).2 E hB;have hz:∀a,B (pU E) 1 0 a=0:=λa=>by
   by_cases ha:a<=(aA D.x.ss:Int)
   ·exact W.hz a ha
   exact aD1 (by rw [W.x];push_cast;omega)
  have vk:=aHM D.ai D.en;have hw:kC (D.ai-1) D.en+576460752303423488+140737488355328+8*jc+140737488355328<=kC D.ai D.en:=by unfold jc;omega
  have hk4:=AK (n:=D.ai) D.en (by omega) (by omega);have hd0:∀m a,dV (oD m a) (pU E).ob=0:=λm a=>Du λy hy=>by unfold oD;rw [ifN (λe=>W.op y hy (uh.2 e.1))]
  have DY:∀a,dV (oF a) (pU E).ob=0:=λa=>Du λy hy=>by unfold oF;rw [ifN (λe=>W.op y hy (uh.2 e.1))]
  refine⟨⟨.inl W.st,λ_=> ?_,λh=>by have:=W.st;omega,λh=>by have:=W.st;omega⟩,W.x, ?_⟩
  ·rw [W.ai,W.en];refine⟨W.jI.wide (by omega) (by omega) (aa _),⟨λa=> ?_,λm a=> ?_,λm a=> ?_,λa=> ?_⟩,W.h,W.op⟩
   ·rw [hz,DY]
   ·have h2:=W.jI.bD.lo m a;grind
   ·have h2:=W.jI.bD.hi m a;grind
   have h2:=W.jI.bD.es a;grind
  obtain⟨t,e,ht⟩:=W.lg;grind
 |Jx hk=>
  obtain⟨C,K,hC⟩:=H.jI;have key:∀C,aw C g D->C<=2896602589303406592->vP D=D\/O0 C g D (vP D):=λC K hC=>(K.Jx (by omega) (by omega)).2
  rcases key C K hC with e|W
  ·exact same _ e
  have lg:∃t,(vP D).log=D.log++t/\∀e∈t,e.k≠15:=⟨[],by rw [W.log];simp,by simp⟩;have ne:vP D≠D:=λe=>by have h1:=W.en;rw [e] at h1;rw [h1.1] at h1;exact absurd h1.2 (by simp)
  have XF:∀C,aw C g D->C<=2896602589303406592->O0 C g D (vP D):=λC K hC=>(key C K hC).resolve_left ne
  refine⟨⟨by rw [W.st];exact H.st,λh=> ?_,λh=> ?_,λh=> ?_⟩,Iq W.x lg⟩
  ·rw [W.st] at h;obtain⟨G,F,hh,ho⟩:=H.CE h;rw [W.en.1] at G F;have hk:=AK (n:=D.ai) aP G.ai.1 G.ai.2;have V:=XF _ G (by omega);rw [W.ai,W.en.2,XE,W.h,W.ob];exact⟨V.jI.wide (by omega) (by omega) (by omega),F.a3E V,hh,ho⟩
  ·rw [W.st] at h;obtain⟨G,F,hh,ho⟩:=H.yr h;rw [W.en.1] at G F;have hk:=AK (n:=D.ai-1) aP (by omega) (by have:=G.ai;omega);have V:=XF _ G (by omega);rw [W.ai,W.en.2,XE,W.h];exact⟨V.jI.wide (by omega) (by omega) (by omega),F.a3E V,hh,ho⟩
  rw [W.st] at h;obtain⟨G,hh,ho,h1⟩:=H.Io h;rw [W.en.1] at G;have hk:=AK (n:=D.ai-1) aP (by omega) (by have:=G.ai;omega);have V:=XF _ G (by omega);rw [W.ai,W.en.2,XE,W.h,W.ob];exact⟨V.jI.wide (by omega) (by omega) (by omega),hh,ho,h1⟩
 |az hk hl hI=>
  rename_i L;unfold xe;by_cases h0:lX D L=0
  ·rw [ifP h0];have hs:D.st=0:=by
    grind [lX]
   obtain⟨G,F,hh,_⟩:=H.CE hs;have W:=(G.az F (λ_=>hh) hl hI (by omega)).2 h0;refine⟨⟨.inr (.inl W.st),λh=>by have:=W.st;omega,λ_=> ?_,λh=>by have:=W.st;omega⟩,Iq W.x W.lg⟩;rw [W.ai,W.en,show D.ai+1-1=D.ai by omega];exact⟨W.jI.wide (dM _) W.jI.bD.big (by omega),W.Q5,W.up,by have:=G.ai;omega⟩
  grind
theorem Bk {n a b:Int}(h:bg n a b=aO):a<=n/\n<=b:=by grind [bg]
theorem Qr {x:ak}(h:okB x=aO):GK x:=by
 unfold okB at h;simp only [je] at h;obtain⟨⟨⟨⟨⟨⟨⟨h1,h2⟩,h3⟩,h4⟩,h5⟩,h6⟩,h7⟩,h8⟩:=h;unfold kT at h1;unfold lF at h2;unfold lV at h3;simp only [je] at h1 h2 h3;have a1:=Bk h1.2;have a2:=Bk h2.2;have a3:=Bk h3.2.1;refine⟨by omega,by omega,by omega,λy hy=> ?_,λy hy=> ?_,Bk h4,Bk h5,Bk h8⟩
 ·have:=List.all_eq_true.1 h1.1 y hy;unfold uf at this;simp only [je] at this;exact⟨Bk this.1,Bk this.2⟩
 have:=List.all_eq_true.1 h2.1 y hy;unfold uj at this;simp only [je] at this;exact⟨Bk this.1,Bk this.2⟩
theorem a7m:∀ {l:List Int},(∀y∈l,y=0)->sumI l=0
 | [],_=>rfl
 |x::l,h=>by rw [a7i,h x (by simp),a7m (λy hy=>h y (dh _ hy))];rfl
theorem aD3(M A n:Nat)(k m a:Int):balA M A (gR n 0) k m a=0:=by grind [balA]
theorem a4o {x:ak}(hx:GK x):Inv 0 (Bt x):=by
 have hz:∀k m a,balA (aA x.ms) (aA x.ss+1) (Bt x).l k m a=0:=λk m a=>aD3 _ _ _ k m a
 have hL:nN (aA x.ms) (aA x.ss+1) (Bt x).l:=by
  refine⟨Cs,λa _=>a7m λy hy=> ?_,λk m a n _ _=>by rw [hz];omega,λy hy=> ?_⟩
  ·unfold oQ at hy;exact(aA0.1 (List.mem_of_mem_drop (List.mem_of_mem_take hy))).2
  obtain⟨_,rfl⟩:=aA0.1 hy;decide
 have hk:kC 0 aP=0:=rfl;have hB:∀k m a,B (Bt x) k m a=0:=hz;refine⟨.inl rfl,λ_=>⟨?_,⟨λa=> ?_,λm a=> ?_,λm a=> ?_,λa=> ?_⟩,rfl,λy hy=>(by cases hy)⟩,λh=>(by cases h),λh=>(by cases h)⟩
 ·show aw (kC 0 aP+576460752303423488) 0 (Bt x);rw [hk];refine⟨hx,⟨hL,λm a=> ?_,λm a=> ?_,λa=> ?_,λa=> ?_,λm a=> ?_,λm a=> ?_,λa=> ?_,by omega,by omega⟩,λr hr=>(by cases hr),by show (0:Nat)<=16;omega,λa=>(hz 1 0 a).symm,⟨λe he=>(by cases he),λk a=> ?_⟩,aa 0,⟨U7,λm hm=>(by cases hm)⟩,⟨λy hy=>(by cases hy),λy hy=>(by cases hy),U7,λa=> ?_,λa=> ?_,by show ((0:Nat):Int)<=120*0;omega⟩,λd hd=>(by cases hd),by show (0:Nat)<=32;omega,by omega,by show (0:Int)<=0/\(0:Int)<=4;omega⟩
  ·grind
  ·grind
  ·grind
  ·grind
  ·grind
  ·grind
  ·grind
  ·have e:((Bt x).log.take k)= []:=List.take_nil;rw [e];show (0:Int)<=0/\(0:Int)<=_;omega
  ·have:=xY a;show (0:Int)<=_;omega
  have:=xY a;show (0:Int)<=_;omega
 ·rw [hB];rfl
 ·grind [dV,Bt]
 ·grind [dV,Bt]
 show _<=kC 0 aP;rw [hB,hk];omega
theorem aIQ {g:Nat} {D:Dk}(H:Inv g D):(lX D []=0\/lX D []=6)↔D.st=0:=by
 unfold lX;by_cases hs:D.st=0
 ·rw [ifN (by omega)];by_cases hc:(aA D.x.cy:Int)<=D.ai
  ·omega
  rw [ifN hc];obtain⟨G,_,_,ho⟩:=H.CE hs;have e1:mC D.x []=0:=rfl;have e2:gZ []= []:=rfl;have e3:∀(ks:List Nat),oU [] ks 0=0:=by
   intro ks;induction ks with
   |nil=>rfl
   |cons a ks ih=>
    unfold oU;have hm:=xY (a:Int);have hb:E5 [] (a:Int)=aP:=by unfold E5;have s1:yq [] (a:Int)=0:=rfl;have s2:jv [] (a:Int)=0:=rfl;have s3:lY [] (a:Int)=0:=rfl;grind
    rw [hb];have s4:jv [] (a:Int)=lY [] (a:Int):=rfl;grind
  rw [ifN (by rw [e1];simp),e2,e3,ifN (by simp)];unfold rA;have hl:=G.ob.len;have hcy:=G.ai;rw [ifN (by grind),ifN,ifN,ifN]
  ·simp [hs]
  ·simp [Eg]
  ·intro h;obtain⟨y,hy,nE⟩:=kA.1 h;have:=(G.ob.each y hy).c;grind
  grind
 omega
theorem aCQ:(aM.info? 51).map (λi=>(i.zero,i.size,i.bytes))=aC (aC (bQ #[aG aF 0,aG aF 0]),2,16):=by kernel_rfl
def uo(w:aJ)(v:aN)(n:Nat)(W:aJ):Prop:=∃L:List Pr,aA L=n/\(∀y∈L,aL y.a/\aL y.b)/\W.ownsRow w.heap.size 51 2 v n (gp L)/\aY w.heap.size w W
theorem uo.form {w W:aJ} {v:aN} {n:Nat}(h:uo w v n W):∃A c,v=aH A n c:=by obtain⟨L,_,_,h,_⟩:=h;exact bL h
theorem uo.full {w W:aJ} {v:aN} {n:Nat}(h:uo w v n W)(hn:1<=n):∃(g c:Nat) (L:List Pr),v=aH (aC ⟨g,0,aB⟩) n c/\w.heap.size<=g/\aA L=n/\(∀y∈L,aL y.a/\aL y.b)/\W.ownsRow w.heap.size 51 2 (aH (aC ⟨g,0,aB⟩) n c) n (gp L)/\aY w.heap.size w W:=by
 obtain⟨L,e,i,o,b⟩:=h;have ho:=o;rcases o.2 with⟨_,h0⟩|⟨g,cap,cur,rfl,h1,_⟩
 ·omega
 grind
def aAU(w:aJ)(e:dU)(w':aJ):Prop:=∃v n,e=aT v/\n<=100/\1<=n/\uo w v n w'
theorem aCb(M:Nat)(w:aJ)(h:(M:Int)<=16):
 aQ aM 20 #[ν (M:Int)] w (aAU w):=by
 have sX:Hid (uo w (aH aB 0 0) 0 w):=η ⟨[],rfl,by simp,fh _ _ _ _,aX _ _⟩;obtain⟨ic,yZ,hz0,hz1,hz2⟩:=dJ aCQ;have h0:(0:Int)<=(M:Int):=by omega
 have STEP:∀(W:aJ) (k m:Int) (A:Option aj) (c n:Nat),aL k->aL m->uo w (aH A n c) n W->∀v' w4,(∃L:List Pr,aA L=n/\(∀y∈L,aL y.a/\aL y.b)/\w4.ownsRow w.heap.size 51 2 v' (n+1) (gp L++ [ν k,ν m])/\β w w4)->uo w v' (n+1) w4:=by
  intro W k m A c n hk hm _ v' w4 ⟨L,e,i,o,b⟩;refine⟨L++ [⟨k,m⟩],by simp [e], ?_, ?_,b⟩
  ·grind
  grind [gp,Pr.cells]
 have Zw:=η STEP;go_enter func20,ntmps20
 go_wp2
 go_loopw [3,4] (λv i wr=>∃k:Nat,k<=6/\i=ν ((k:Int)+1)/\Hid (uo w v k wr)) (λ_ i _=>7-(af i).toNat)
 ·grind
 ·
  obtain⟨k,hk,rfl,HR⟩:=hrel;obtain⟨A,c,rfl⟩:=HR.o.form;by_cases hlt:k<6
  ·obtain⟨L,hL,hI,hO,hB⟩:=HR.o;have HO:=η hO;have HI:=η hI;have HB:=η hB;have hsz:=hB.size;have xR:(k:Int)+1<=6:=by omega
   go_wp2_with (at_builtin;refine iZ _ rfl _ _ 61 rfl w.heap.size 51 ic _ 2 16 aCC yZ hz0 hz1 hz2 rfl (by decide) _ k (gp L) rfl (HO.o.alloc _) ⟨wr.heap.size,0,aB⟩ 1 1 [ν ((k:Int)+1),ν 0] rfl rfl (dK _ _ #[_,_] (by simp)) SQ (by simp only [bM];omega) (by omega) (by simp;omega) ?_)
   intro v' w4 hown hgr _;have HN:Hid (uo w v' (k+1) w4):=η (Zw.o wr ((k:Int)+1) 0 A c k (by unfold aL;omega) (by decide) ⟨L,hL,HI.o,HO.o,HB.o⟩ v' w4 ⟨L,hL,HI.o,hown,((HB.o.alloc HB.o.size _).grown hgr (by simp;omega) (λj hj=>eF HO.o j hj))⟩);go_wp2
   go_roundw
   ·grind
   simp [af];omega
  obtain rfl:k=6:=by omega
  rw [show (((6:Nat):Int)+1)=7 from rfl];go_wp2
  go_loopw [3,5,6] (λv i _ wr=>∃k:Nat,k<=M/\i=ν ((k:Int)+1)/\Hid (uo w v (6+3*k) wr)) (λ_ i _ _=>M+1-(af i).toNat)
  ·grind
  ·
   obtain⟨k,hk,rfl,HR⟩:=hrel;obtain⟨A,c,rfl⟩:=HR.o.form;by_cases hlt:k<M
   ·have xR:(k:Int)+1<=(M:Int):=by omega
    go_wp2
    go_loopw [3,6] (λv i wr=>∃j:Nat,j<=3/\i=ν ((j:Int)+7)/\Hid (uo w v (6+3*k+j) wr)) (λ_ i _=>10-(af i).toNat)
    ·grind
    ·
     obtain⟨j,hj,rfl,HR⟩:=hrel;obtain⟨A,c,rfl⟩:=HR.o.form;by_cases I7:j<3
     ·obtain⟨L,hL,hI,hO,hB⟩:=HR.o;have HO:=η hO;have HI:=η hI;have HB:=η hB;have hsz:=hB.size;have WJ:(j:Int)+7<=9:=by omega
      go_wp2_with (at_builtin;refine iZ _ rfl _ _ 61 rfl w.heap.size 51 ic _ 2 16 aCC yZ hz0 hz1 hz2 rfl (by decide) _ (6+3*k+j) (gp L) rfl (HO.o.alloc _) ⟨wr.heap.size,0,aB⟩ 1 1 [ν ((j:Int)+7),ν ((k:Int)+1)] rfl rfl (dK _ _ #[_,_] (by simp)) SQ (by simp only [bM];omega) (by omega) (by simp;omega) ?_)
      intro v' w4 hown hgr _;have HN:Hid (uo w v' (6+3*k+(j+1)) w4):=η (Zw.o wr ((j:Int)+7) ((k:Int)+1) A c (6+3*k+j) (by unfold aL;omega) (by unfold aL;omega) ⟨L,hL,HI.o,HO.o,HB.o⟩ v' w4 ⟨L,hL,HI.o,hown,((HB.o.alloc HB.o.size _).grown hgr (by simp;omega) (λj hj=>eF HO.o j hj))⟩);go_wp2
      go_roundw
      ·exact⟨j+1,by omega,by go_num,HN⟩
      simp [af];omega
     obtain rfl:j=3:=by omega
     rw [show (((3:Nat):Int)+7)=10 from rfl];have HN:Hid (uo w (aH A (6+3*k+3) c) (6+3*(k+1)) wr):=η (by have:=HR.o;rwa [show 6+3*(k+1)=6+3*k+3 by omega]);go_wp2
     go_roundw
     ·exact⟨k+1,by omega,by go_num,HN⟩
     simp [af];omega
   obtain rfl:k=M:=by omega
   go_wp2
   go_ret;exact⟨_,_,rfl,by omega,by omega,HR.o⟩
def Jl(l:List Ac):List aN:=l.flatMap Ac.cells
theorem a1X {w:aJ} {B:Nat} {A:Option aj} {l:List Ac}(h:aW w B A (Jl l)) {k:Nat}(hk:k<aA l):
 ∃b o,A=aC ⟨b,o,aB⟩/\b<B/\w.cell? ⟨b,o+k*11,aB⟩=aC (ν l[k].k)/\w.cell? ⟨b,o+k*11+1,aB⟩=aC (aH l[k].At l[k].ts.length l[k].ct)/\w.cell? ⟨b,o+k*11+2,aB⟩=aC (aH l[k].Al l[k].ls.length l[k].cl)/\w.cell? ⟨b,o+k*11+3,aB⟩=aC (ν l[k].m)/\w.cell? ⟨b,o+k*11+4,aB⟩=aC (ν l[k].a)/\w.cell? ⟨b,o+k*11+5,aB⟩=aC (ν l[k].n)/\w.cell? ⟨b,o+k*11+6,aB⟩=aC (ν l[k].b.s)/\w.cell? ⟨b,o+k*11+7,aB⟩=aC (ν l[k].b.m)/\w.cell? ⟨b,o+k*11+8,aB⟩=aC (ν l[k].b.c)/\w.cell? ⟨b,o+k*11+9,aB⟩=aC (ν l[k].b.q)/\w.cell? ⟨b,o+k*11+10,aB⟩=aC (ν l[k].b.p):=by
 obtain⟨b,o,e,hb,hc⟩:=h.run (i:=k*11) (y:=ν l[k].k) (t:= [aH l[k].At l[k].ts.length l[k].ct,aH l[k].Al l[k].ls.length l[k].cl,ν l[k].m,ν l[k].a,ν l[k].n,ν l[k].b.s,ν l[k].b.m,ν l[k].b.c,ν l[k].b.q,ν l[k].b.p]) (λj u hu=>uV Ac.cells 11 (λ_=>rfl) l k hk j u hu);exact⟨b,o,e,hb,hc 0 _ rfl,hc 1 _ rfl,hc 2 _ rfl,hc 3 _ rfl,hc 4 _ rfl,hc 5 _ rfl,hc 6 _ rfl,hc 7 _ rfl,hc 8 _ rfl,hc 9 _ rfl,hc 10 _ rfl⟩
def zW(x:Ac):Bool:=decide (aA x.ts<=30)&&decide (aA x.ls<=60)
def Hh(x:ak)(l:List Ac):Bool:=Eo x&&(decide (aA l<=40)&&l.all zW)
theorem aFS(x:ak)(l:List Ac)(A:Option aj)(c:Nat)(w:aJ)(hm:aA x.ms<=bM)(hs:aA x.ss<=bM)(hc:aA x.cy<=bM)(hl:aA l<=bM)(hL:∀y∈l,aA y.ts<=bM/\aA y.ls<=bM)(nC:aW w w.heap.size A (Jl l)):
 aQ aM 7 #[x.val,aH A (aA l) c] w λe w'=>e=aT (bJ (Hh x l))/\β w w':=by
 have aZ:=η (mQ w x);have jP:=η (zi w x);have zC:Hid (∀W,aQ aM 22 #[x.val] W λe w'=>e=aT (bJ (Eo x))/\β W w'):=η λW=>aFU x W hm hs hc
 have HL:=η hL;have HS:=η ((nC.below aZ.o).mono aZ.o.size);have HF:=η (show Hh x l=(Eo x&&(decide (aA l<=40)&&l.all zW)) from rfl);unfold bM at hl;clear hm hs hc hL nC;generalize Hh x l=fb at*;generalize Eo x=fx at*;have c0:=jP.o.c0;have c1:=jP.o.c1;have c2:=jP.o.c2;have c3:=jP.o.c3;have c4:=jP.o.c4;have c5:=jP.o.c5;have c6:=jP.o.c6;have c7:=jP.o.c7;unfold ak.val at*;have cC:Hid (∀W,aY (w.alloc (aK #[aH x.Am (aA x.ms) x.cm,aH x.As (aA x.ss) x.cs,aH x.Ac (aA x.cy) x.cc,ν x.line,ν x.bV,ν x.lead,ν x.tr,ν x.bT] 26)).heap.size (w.alloc (aK #[aH x.Am (aA x.ms) x.cm,aH x.As (aA x.ss) x.cs,aH x.Ac (aA x.cy) x.cc,ν x.line,ν x.bV,ν x.lead,ν x.tr,ν x.bT] 26)) W->β w W/\aW W W.heap.size A (Jl l)):=η λW hW=>⟨aZ.o.trans (hW.mono aZ.o.size),(HS.o.below hW).mono hW.size⟩
 have JA:=η (zC.o (w.alloc (aK #[aH x.Am (aA x.ms) x.cm,aH x.As (aA x.ss) x.cs,aH x.Ac (aA x.cy) x.cc,ν x.line,ν x.bV,ν x.lead,ν x.tr,ν x.bT] 26)));clear zC aZ HS jP;go_enter func7,ntmps7
 cases fx
 ·have HG:Hid (aP=fb):=by grind
  clear HF;go_wp2_with (go_at_call 22;refine JA.o.mono ?_;rintro e w1 ⟨rfl,hb1⟩;have aR:=η (cC.o _ hb1).1;clear hb1)
  go_ret;exact⟨fQ HG.o,aR.o⟩
 by_cases h40:aA l<=40
 ·have aGB:¬(40:Int)<(aA l:Int):=by omega
  have cK:Hid (fb=l.all zW):=by grind
  clear HF;go_wp2_with (go_at_call 22;refine JA.o.mono ?_;rintro e w1 ⟨rfl,hb1⟩;have aR:=η (cC.o _ hb1).1;have cX:=η (cC.o _ hb1).2;clear hb1 c0 c1 c2 c3 c4 c5 c6 c7)
  go_loop [5] (λi=>∃k:Nat,k<=aA l/\i=ν k/\Hid ((l.take k).all zW=aO)) (λi=>aA l-(af i).toNat)
  case atStart=>exact⟨0,bK _,rfl,rfl⟩
  case round=>
   obtain⟨k,hk,rfl,HK⟩:=hrel;by_cases hlt:k<aA l
   ·obtain⟨b,o,rfl,hb,d0,d1,d2,d3,d4,d5,d6,d7,d8,d9,d10⟩:=a1X cX.o hlt;have pM:=HL.o l[k] (cH hlt);unfold bM at pM;clear d0 d3 d4 d5 d6 d7 d8 d9 d10;by_cases h30:l[k].ts.length<=30
    ·by_cases h60:l[k].ls.length<=60
     ·have HA:Hid ((l.take (k+1)).all zW=aO):=by
       grind [fF,zW]
      go_wp2_with fail
      go_round
      case rel=>grind
      case measure=>simp [af];omega
     have hA:aP=l.all zW:=by symm;grind [cH,zW]
     have HA:=η hA;clear hA;go_wp2_with fail
     go_ret;exact⟨fQ (HA.o.trans cK.o.symm),aR.o⟩
    have hA:aP=l.all zW:=by symm;grind [cH,zW]
    have HA:=η hA;clear hA;go_wp2_with fail
    go_ret;exact⟨fQ (HA.o.trans cK.o.symm),aR.o⟩
   obtain rfl:k=aA l:=by omega
   have hA:=HK.o;rw [cT] at hA;have HA:=η hA;clear hA;go_wp2_with fail
   go_ret;exact⟨fQ (HA.o.symm.trans cK.o.symm),aR.o⟩
 have aGB:(40:Int)<(aA l:Int):=by omega
 have HG:Hid (aP=fb):=by grind
 clear HF;go_wp2_with (go_at_call 22;refine JA.o.mono ?_;rintro e w1 ⟨rfl,hb1⟩;have aR:=η (cC.o _ hb1).1;clear hb1)
 go_ret;exact⟨fQ HG.o,aR.o⟩
theorem aH4(db:Nat)(p:Dp)(D:Dk)(g:Nat)(w:aJ)(H:bW w db p D)(I:Inv g D)(hg:g+1700<=90000):
 aQ aM 17 #[π db] w λe w'=>e=aT (bJ (decide (D.st=0)))/\β w w':=by
 obtain⟨C,K,hC⟩:=I.jI;have CR:=η (aEk db p D w H (K.ok (by omega)));have R:=I.Ii hg ⟨0,[],aB,0,[],aB,0,0,0,0,⟨0,0,0,0,0⟩⟩;have qU:=η (λBU p2 W (H2:bW W BU p2 D)=>VC BU p2 D [] aB 0 W H2 (λj u hu=>by simp [bA] at hu) (by simp) (by simp) (R.nt [] (by simp) (by simp)));have HI:=η (aIQ I);clear H I K R hC hg;have fZ:Hid (D.st=0->lX D []=0\/lX D []=6):=η λh=>HI.o.2 h
 have qQ:Hid (¬D.st=0->¬lX D []=0/\¬lX D []=6):=η λh=>⟨λe=>h (HI.o.1 (.inl e)),λe=>h (HI.o.1 (.inr e))⟩
 clear HI;obtain⟨E,hE⟩:∃E,E=lX D []:=⟨_,rfl⟩;have TY:=η (λBU p2 W (H2:bW W BU p2 D)=>(show aQ aM 26 #[π BU,aH aB 0 0] W λe w'=>e=aT (ν E)/\aq BU p2 (xe D []) W w' from by rw [hE];exact qU.o BU p2 W H2));rw [<-hE] at fZ qQ;clear qU hE;by_cases hs:D.st=0
 ·rw [decide_eq_true hs];have HI:=fZ.o hs;clear fZ qQ hs;rcases HI with h|h
  ·subst h;go_enter a0a,a0u
   go_wp2_with (first|(go_at_call 42;refine CR.o.mono ?_;rintro e w1 ⟨BU,p2,rfl,h2,hs2,hb1⟩;have oY:=η h2;have cM:=η hs2;have aR:=η hb1;clear h2 hs2 hb1)|(go_at_call 26;refine(TY.o _ _ _ oY.o).mono ?_;rintro e w2 ⟨rfl,jZ⟩;have aV:Hid (β w w2):=η (by obtain⟨_,_,_,_,_,_,hu,_⟩:=jZ;exact aR.o.trans (hu.toBelow aR.o.size (λk hk=>cM.o k hk)));clear jZ))
   go_ret;exact⟨rfl,aV.o⟩
  subst h;go_enter a0a,a0u
  go_wp2_with (first|(go_at_call 42;refine CR.o.mono ?_;rintro e w1 ⟨BU,p2,rfl,h2,hs2,hb1⟩;have oY:=η h2;have cM:=η hs2;have aR:=η hb1;clear h2 hs2 hb1)|(go_at_call 26;refine(TY.o _ _ _ oY.o).mono ?_;rintro e w2 ⟨rfl,jZ⟩;have aV:Hid (β w w2):=η (by obtain⟨_,_,_,_,_,_,hu,_⟩:=jZ;exact aR.o.trans (hu.toBelow aR.o.size (λk hk=>cM.o k hk)));clear jZ))
  go_ret;exact⟨rfl,aV.o⟩
 rw [decide_eq_false hs];obtain⟨n0,n6⟩:=qQ.o hs;have n0':(E==0)=aP:=by simpa using n0
 have n6':(E==6)=aP:=by simpa using n6
 clear fZ qQ hs;go_enter a0a,a0u
 go_wp2_with (first|(go_at_call 42;refine CR.o.mono ?_;rintro e w1 ⟨BU,p2,rfl,h2,hs2,hb1⟩;have oY:=η h2;have cM:=η hs2;have aR:=η hb1;clear h2 hs2 hb1)|(go_at_call 26;refine(TY.o _ _ _ oY.o).mono ?_;rintro e w2 ⟨rfl,jZ⟩;have aV:Hid (β w w2):=η (by obtain⟨_,_,_,_,_,_,hu,_⟩:=jZ;exact aR.o.trans (hu.toBelow aR.o.size (λk hk=>cM.o k hk)));clear jZ))
 go_ret;exact⟨rfl,aV.o⟩
structure qd(w:aJ)(db hb:Nat)(x:ak)(g:Nat)(D:Dk)(W:aJ):Prop where
 pl:∃p,bW W db p D/\∀k,eW db p k->w.heap.size<=k/\k≠hb
 bl:β w W
 inv:Inv g D
 ms:D.x.ms=x.ms
 ss:D.x.ss=x.ss
 hb:hb<W.heap.size
theorem qd.below {w W W':aJ} {db hb g:Nat} {x:ak} {D:Dk}(h:qd w db hb x g D W)(hW:aY W.heap.size W W'):qd w db hb x g D W':=by obtain⟨p,H,hs⟩:=h.pl;exact⟨⟨p,H.below hW,hs⟩,h.bl.trans (hW.mono h.bl.size),h.inv,h.ms,h.ss,cP h.hb hW.size⟩
theorem qd.step {w W W':aJ} {db hb g:Nat} {x:ak} {D D':Dk} {y:Ac} {p:Dp}(h:qd w db hb x g D W)(hs:∀k,eW db p k->w.heap.size<=k/\k≠hb)(hg:g+1700<=90000)(hR:vH D y D')(hP:aq db p D' W W'):qd w db hb x (g+1700) D' W'/\Cz D y D'/\W'.heap[hb]? =W.heap[hb]? :=by obtain⟨I,T⟩:=h.inv.step hg hR;obtain⟨p',H',_,_,_,_,hu,hs'⟩:=hP;have hz:=h.bl.size;have hh:=h.hb;refine⟨⟨⟨p',H',λk hk=> ?_⟩,h.bl.trans (hu.toBelow hz (λk hk=>(hs k hk).1)),I,by rw [T.cf];exact h.ms,by rw [T.cf];exact h.ss,cP hh hu.size⟩,T,hu.keep hb hh (λe=>(hs hb e).2 rfl)⟩;grind
def aAQ(w:aJ)(db hb:Nat)(x:ak)(g:Nat)(D:Dk)(y:Ac)(W:aJ)(e:dU)(W':aJ):Prop:=e=aT (bB #[])/\∃D',qd w db hb x (g+1700) D' W'/\Cz D y D'/\W'.heap[hb]? =W.heap[hb]?
theorem aHZ {w W:aJ} {db hb g:Nat} {x:ak} {D:Dk} {y:Ac}(h:qd w db hb x g D W)(hg:g+1700<=90000)(hy:y.ok)(ha:y.at w)(hn:aA y.ts<=30)(hl:aA y.ls<=60):
 aQ aM 12 #[π db,y.val] W (aAQ w db hb x g D y W):=by
 obtain⟨p,H,hs⟩:=h.pl;refine(aKH db p D y W H hy (ha.below h.bl) hn hl (h.inv.Ii hg y)).mono ?_;rintro e W' ⟨rfl,D',hR,hP⟩;exact⟨rfl,D',h.step hs hg hR hP⟩
theorem aHW {w W:aJ} {db hb g:Nat} {x:ak} {D:Dk}(h:qd w db hb x g D W)(hg:g+1700<=90000):
 aQ aM 17 #[π db] W λe W'=>e=aT (bJ (decide (D.st=0)))/\β W W':=by
 obtain⟨p,H,_⟩:=h.pl;exact aH4 db p D g W H h.inv hg
theorem aHU {w W:aJ} {db hb g:Nat} {x:ak} {D:Dk}(h:qd w db hb x g D W):
 aQ aM 18 #[π db] W (yy W D.ob):=by
 obtain⟨p,H,_⟩:=h.pl;obtain⟨C,K,_⟩:=h.inv.jI;exact aEi db p D W H (by have:=K.ob.len;have:=K.ai;omega)
theorem aHV {w W:aJ} {db hb g:Nat} {x:ak} {D:Dk}(h:qd w db hb x g D W)(k m a:Int)(hk:aL k)(hm:aL m):
 aQ aM 14 #[π db,bQ #[ν k,ν m],ν a] W λe W'=>e=aT (bB #[ν (B D k m a),ν (np (plcA (aA D.x.ms) (aA D.x.ss+1) k m a))])/\β W W':=by
 obtain⟨p,H,_⟩:=h.pl;grind [a2X]
theorem aHa {w W:aJ} {db hb g:Nat} {x:ak} {D:Dk}(h:qd w db hb x g D W)(a:Nat)(ha:a<aA x.ss+1):
 aQ aM 21 #[π db,ν (a:Int)] W λe W'=>e=aT (bB #[ν 0,ν 0])/\β W W':=by
 obtain⟨p,H,_⟩:=h.pl;obtain⟨C,K,_⟩:=h.inv.jI;have ha':a<aA D.x.ss+1:=by rw [h.ss];exact ha
 have h0:=K.bD.ok.row a ha';refine(aEo db p D a W H K.bD.ok.I ha').mono ?_;rintro e W' ⟨rfl,hb⟩;rw [h0];exact⟨rfl,hb⟩
def a8v(w:aJ)(hb:Nat)(x:ak)(W:aJ)(e:dU)(W':aJ):Prop:=∃db D,e=aT (bB #[bF (aC ⟨db,0,aB⟩),aG aF 0])/\qd w db hb x 0 D W'/\aY W.heap.size W W'/\D.log= []/\W.heap.size<=db
theorem aHX {w W:aJ} {hb:Nat} {x:ak}(hB:aY w.heap.size w W)(hh:hb<W.heap.size)(h:uq W x)(dS:okB x=aO):
 aQ aM 10 #[x.val] W (a8v w hb x W):=by
 have hx:=Qr dS;have hm:=hx.ml;have hs:=hx.sl;have hc:=hx.cl;refine(a2P x W h (by grind [zj]) (by omega) (by omega) (by omega)).mono ?_;rintro e W' ⟨db,p,Am,cm,As,cs,Ac,cc,rfl,H,hS,hb'⟩;have hx2:GK {x with Am:=Am,cm:=cm,As:=As,cs:=cs,Ac:=Ac,cc:=cc}:=⟨hx.ml,hx.sl,hx.cl,hx.mI,hx.sI,hx.li,hx.ca,hx.bd⟩;have hz:=hB.size;exact⟨db,_,rfl,⟨⟨p,H,λk hk=>by grind⟩,hB.trans (hb'.mono hz),a4o hx2,rfl,rfl,cP hh hb'.size⟩,hb',rfl,hS db (.inl rfl)⟩
theorem qd.aJv {w W W':aJ} {db hb hb' g:Nat} {x:ak} {D:Dk}(h:qd w db hb x g D W)(hW:aY W.heap.size W W')(h1:W.heap.size<=hb')(h2:hb'<W'.heap.size):qd w db hb' x g D W':=by obtain⟨p,H,hs⟩:=h.pl;exact⟨⟨p,H.below hW,λk hk=>⟨(hs k hk).1,by have:=H.tW hk;omega⟩⟩,h.bl.trans (hW.mono h.bl.size),h.inv,h.ms,h.ss,h2⟩
theorem aJB {w w':aJ} {base:Nat} {e:bY} {s n:Nat} {v:aN} {xs:List aN} {g:Nat}(ho:w.ownsRow base e s v n xs)(hg:v.ownBlock=aC g)(h:w'.heap[g]? =w.heap[g]?):w'.ownsRow base e s v n xs:=by
 rcases ho.2 with⟨hv0,hn⟩|⟨g',cap,cur,N7,h1,h2,h3,h4,h5⟩
 ·exact⟨ho.1,.inl ⟨hv0,hn⟩⟩
 have Bb:v.ownBlock=aC g':=by rw [N7];rfl
 have e:g'=g:=by grind
 subst e;exact⟨ho.1,.inr ⟨g',cap,cur,N7,h1,h.trans h2,h3,h4,h5⟩⟩
theorem Inv.fair {g:Nat} {D:Dk}(I:Inv g D):(∀k m a,qJ k=aP->0<=B D k m a)/\(D.st=0->∀m a,B D 1 m a=0)/\(D.st=0->∀y∈D.ob,y.st≠1):=by
 obtain⟨C,K,_⟩:=I.jI;refine⟨λk m a h=>K.bD.ok.nn h m a,λhs m a=> ?_,λhs y hy e=>(I.CE hs).2.2.2 y hy (uh.2 e)⟩;obtain⟨_,F,_,ho⟩:=I.CE hs;by_cases hm:m=0
 ·subst hm;rw [F.hd];grind [Du,oF,uh]
 grind [Gq,plcA,jt]
section
theorem aFT {x:ak} {l:List Ac}(h:Hh x l=aO):(aA x.ms<=20/\aA x.ss<=20/\aA x.cy<=20)/\aA l<=40/\∀y∈l,aA y.ts<=30/\aA y.ls<=60:=by grind [Hh,Eo,zW]
def DF(Am:Option aj)(cm:Nat)(As:Option aj)(cs:Nat)(Ac:Option aj)(cc:Nat):ak:=⟨[⟨1000,100⟩,⟨1000,100⟩,⟨1000,100⟩],Am,cm,[⟨10,12⟩],As,cs,[⟨4,7,9,10⟩],Ac,cc,500,200,1,64,32⟩
def Jn:List Lg:= [⟨1,0,30⟩,⟨1,1,-10⟩,⟨3,0,-30⟩,⟨3,1,10⟩]
section
variable (x:ak)
def Ur:Dk:=Bt x
def M0:Dk:=vP (Ur x)
def vM:Dk:=xe (M0 x) Jn
def M3:Dk:=zq (vM x) (pR (vM x) 3 1 10 7 3 1 0 5 (j7 3 1 10 (vM x).ob) (kV 3 1 10 (vM x).ob))
def zZ:Dk:=DM (M3 x)
def yO:Dk:=pU (zZ x)
end
def awB(x:ak):Bool:=decide (MF (Ur x)=0)&&decide (lX (M0 x) Jn=0)&&decide (K0 (vM x) (Br (vM x) 3 1 (j7 3 1 10 (vM x).ob) (kV 3 1 10 (vM x).ob))=0)&&decide (Jz (vM x) (Bq (vM x) 3 1 (j7 3 1 10 (vM x).ob) (kV 3 1 10 (vM x).ob))=0)&&(He (M3 x)==aP)&&decide (Hc (M3 x)=0)&&decide (Ik (zZ x)=0)&&decide ((zZ x).st=2)&&decide (jO (zZ x) 1=0)&&decide (B (yO x) 2 0 1=10)&&decide (B (yO x) 8 1 0=970)
theorem aCr(Am:Option aj)(cm:Nat)(As:Option aj)(cs:Nat)(Ac:Option aj)(cc:Nat):awB (DF Am cm As cs Ac cc)=aO:=by kernel_rfl
end
section
structure kM(w:aJ)(db:Nat)(g:Nat)(D:Dk)(W:aJ):Prop where
 pl:∃p,bW W db p D/\∀k,eW db p k->w.heap.size<=k
 bl:β w W
 inv:Inv g D
theorem kM.below {w W W':aJ} {db g:Nat} {D:Dk}(h:kM w db g D W)(hW:aY W.heap.size W W'):kM w db g D W':=by obtain⟨p,H,hs⟩:=h.pl;exact⟨⟨p,H.below hW,hs⟩,h.bl.trans (hW.mono h.bl.size),h.inv⟩
theorem kM.step {w W W':aJ} {db g:Nat} {D D':Dk} {p:Dp}(y:Ac)(h:kM w db g D W)(hs:∀k,eW db p k->w.heap.size<=k)(hg:g+1700<=90000)(hR:vH D y D')(hP:aq db p D' W W'):kM w db (g+1700) D' W':=by obtain⟨I,_⟩:=h.inv.step hg hR;obtain⟨p',H',_,_,_,_,hu,hs'⟩:=hP;have hz:=h.bl.size;refine⟨⟨p',H',λk hk=> ?_⟩,h.bl.trans (hu.toBelow hz (λk hk=>hs k hk)),I⟩;grind
def BO(k m a n:Int):Ac:=⟨k,[],aB,0,[],aB,0,m,a,n,⟨0,0,0,0,0⟩⟩
section
variable {w W:aJ} {db g:Nat} {D:Dk} (h:kM w db g D W) (hg:g+1700<=90000)
include h hg
theorem aCt:aQ aM 25 #[bF (aC ⟨db,0,aB⟩)] W λe W'=>e=aT (aG aF (MF D))/\kM w db (g+1700) (vP D) W':=by obtain⟨p,H,hs⟩:=h.pl;refine(a2Z db p D W H (h.inv.Ii hg (BO 8 0 0 0)).en).mono ?_;rintro e W' ⟨rfl,hP⟩;exact⟨rfl,h.step (BO 8 0 0 0) hs hg (.Jx rfl) hP⟩
theorem aCu(L:List Lg)(A:Option aj)(c:Nat)(hS:aW W W.heap.size A (bA L))(hI:∀y∈L,y.ok)(hl:aA L<=120):aQ aM 26 #[bF (aC ⟨db,0,aB⟩),aH A (aA L) c] W λe W'=>e=aT (aG aF (lX D L))/\kM w db (g+1700) (xe D L) W':=by obtain⟨p,H,hs⟩:=h.pl;refine(VC db p D L A c W H hS hI (by omega) ((h.inv.Ii hg (BO 0 0 0 0)).nt L hl hI)).mono ?_;rintro e W' ⟨rfl,hP⟩;exact⟨rfl,h.step (BO 0 0 0 0) hs hg (.az (.inl (by decide)) hl hI) hP⟩
theorem aCv(m a n:Int)(hm:aL m)(ha:aL a)(hn:aL n):aQ aM 27 #[bF (aC ⟨db,0,aB⟩),aG aF m,aG aF a,aG aF n] W λe W'=>e=aT (bB #[aG aF (K0 D (Br D m a (j7 m a n D.ob) (kV m a n D.ob))),aG aF (Jz D (Bq D m a (j7 m a n D.ob) (kV m a n D.ob)))])/\kM w db (g+1700) (zq D (pR D m a n 7 m 1 0 5 (j7 m a n D.ob) (kV m a n D.ob))) W':=by obtain⟨p,H,hs⟩:=h.pl;refine(a2a db p D m a n W H (h.inv.Ii hg (BO 1 m a n)).ok hm ha hn).mono ?_;rintro e W' ⟨rfl,hP⟩;exact⟨rfl,h.step (BO 1 m a n) hs hg (.pay rfl) hP⟩
theorem aCs:aQ aM 28 #[bF (aC ⟨db,0,aB⟩)] W λe W'=>e=aT (bB #[bJ (He D),aG aF (Hc D)])/\kM w db (g+1700) (DM D) W':=by obtain⟨p,H,hs⟩:=h.pl;refine(a2Y db p D W H (h.inv.Ii hg (BO 5 0 0 0)).due).mono ?_;rintro e W' ⟨rfl,hP⟩;exact⟨rfl,h.step (BO 5 0 0 0) hs hg (.due rfl) hP⟩
theorem aCx:aQ aM 29 #[bF (aC ⟨db,0,aB⟩)] W λe W'=>e=aT (aG aF (Ik D))/\∃D',Jj D D'/\kM w db (g+1700) D' W':=by obtain⟨p,H,hs⟩:=h.pl;refine(a2b db p D W H (h.inv.Ii hg (BO 7 0 0 0)).set).mono ?_;rintro e W' ⟨rfl,D',hR,hP⟩;exact⟨rfl,D',hR,h.step (BO 7 0 0 0) hs hg (.set rfl hR) hP⟩
omit hg in
theorem a1n(k m a:Int)(hk:aL k)(hm:aL m):
 aQ aM 14 #[π db,bQ #[ν k,ν m],ν a] W λe W'=>e=aT (bB #[ν (B D k m a),ν (np (plcA (aA D.x.ms) (aA D.x.ss+1) k m a))])/\kM w db g D W':=by
 obtain⟨p,H,_⟩:=h.pl;refine(a2X db p D k m a W H hk hm).mono ?_;rintro e W' ⟨rfl,hb⟩;exact⟨rfl,h.below hb⟩
end
theorem aCw {x:ak} {D':Dk}(h1:(zZ x).st=2)(h2:jO (zZ x) 1=0)(hs:(zZ x).x.ss.length=1)(h:Jj (zZ x) D'):D'=yO x:=by
 rcases h with⟨hn,_⟩|⟨_,E,hB,rfl⟩
 ·exact absurd h1 hn
 rw [hs] at hB;cases hB with
 |succ hB hR=>
  cases hB with
  |zero=>
   rcases hR with⟨_,rfl⟩|⟨hn,_⟩
   ·rfl
   exact absurd h2 hn
theorem aKR(W:aJ):aW (W.alloc (aK #[aG aF 1,aG aF 0,aG aF 30,aG aF 1,aG aF 1,aG aF (-10),aG aF 3,aG aF 0,aG aF (-30),aG aF 3,aG aF 1,aG aF 10] 76)) (W.alloc (aK #[aG aF 1,aG aF 0,aG aF 30,aG aF 1,aG aF 1,aG aF (-10),aG aF 3,aG aF 0,aG aF (-30),aG aF 3,aG aF 1,aG aF 10] 76)).heap.size (aC ⟨W.heap.size,0,aB⟩) (bA Jn):=λj u hu=>
 ⟨W.heap.size,0,rfl,by simp,by have:=dK W 76 #[ν 1,ν 0,ν 30,ν 1,ν 1,ν (-10),ν 3,ν 0,ν (-30),ν 3,ν 1,ν 10] rfl j u hu;grind [DC]⟩
def aAS(w:aJ)(db:Nat)(x:ak)(e:dU)(W':aJ):Prop:=e=aT (aG aF 0)/\kM w db 8500 (yO x) W'
theorem Us(w:aJ):aQ aM 9 #[] w λe w'=>e=aT (bJ aO)/\aY w.heap.size w w':=by
 have eJ:=η (aJP w);have OY:=η (λW x (h:uq W x) (hk:zj x=0) (hm:aA x.ms<=16) (hs:aA x.ss<=8) (hc:aA x.cy<=100)=>a2P x W h hk hm hs hc);go_enter func9,ntmps9
 go_wp2_with fail
 refine eJ.o.mono ?_;rintro e w1 ⟨Am,cm,As,cs,Ac,cc,rfl,IJ,hb1⟩;have aR:=η hb1;have oh:=η (OY.o w1 _ IJ (by kernel_rfl) (by show 3<=16;omega) (by show 1<=8;omega) (by show 1<=100;omega));unfold ak.val at oh ⊢;go_wp2_with fail
 refine oh.o.mono ?_;rintro e w2 ⟨db,p,CK,DG,CL,DK,CI,DD,rfl,H2,hS2,hb2⟩;have hx:GK (DF CK DG CL DK CI DD):=Qr (by kernel_rfl);have hz1:=aR.o.size;have fZ:Hid (kM w db 0 (Ur (DF CK DG CL DK CI DD)) w2):=η ⟨⟨p,H2,λk hk=>by grind⟩,aR.o.trans (hb2.mono hz1),a4o hx⟩;have hall:=aCr CK DG CL DK CI DD;have Qu:(zZ (DF CK DG CL DK CI DD)).x.ss.length=1:=by kernel_rfl
 have jJ:np (plcA (yO (DF CK DG CL DK CI DD)).x.ms.length ((yO (DF CK DG CL DK CI DD)).x.ss.length+1) 2 0 1)=0:=by kernel_rfl
 have oL:np (plcA (yO (DF CK DG CL DK CI DD)).x.ms.length ((yO (DF CK DG CL DK CI DD)).x.ss.length+1) 8 1 0)=0:=by kernel_rfl
 generalize DF CK DG CL DK CI DD=x at*;unfold awB at hall;simp only [je,decide_eq_true_eq,beq_iff_eq] at hall;obtain⟨⟨⟨⟨⟨⟨⟨⟨⟨⟨f1,f2⟩,f3⟩,f4⟩,f5⟩,f6⟩,f7⟩,f8⟩,f9⟩,f10⟩,f11⟩:=hall;have T1:Hid (aQ aM 25 #[π db] w2 λe W'=>e=aT (ν 0)/\kM w db 1700 (M0 x) W'):=η (by have:=aCt fZ.o (by omega);rw [f1] at this;exact this);have T2:=η (λW (h:kM w db 1700 (M0 x) W) A c (hS:aW W W.heap.size A (bA Jn))=>(show aQ aM 26 #[π db,aH A 4 c] W λe W'=>e=aT (ν 0)/\kM w db 3400 (vM x) W' from by have:=aCu h (by omega) Jn A c hS (by intro y hy;simp [Jn] at hy;rcases hy with rfl|rfl|rfl|rfl<;>exact⟨by decide,by decide,by decide⟩) (by decide);rw [f2] at this;exact this));have T3:=η (λW (h:kM w db 3400 (vM x) W)=>(show aQ aM 27 #[π db,ν 3,ν 1,ν 10] W λe W'=>e=aT (bB #[ν 0,ν 0])/\kM w db 5100 (M3 x) W' from by have:=aCv h (by omega) 3 1 10 (by decide) (by decide) (by decide);rw [f3,f4] at this;exact this));have T4:=η (λW (h:kM w db 5100 (M3 x) W)=>(show aQ aM 28 #[π db] W λe W'=>e=aT (bB #[bJ aP,ν 0])/\kM w db 6800 (zZ x) W' from by have:=aCs h (by omega);rw [f5,f6] at this;exact this));have T5:=η (λW (h:kM w db 6800 (zZ x) W)=>(show aQ aM 29 #[π db] W (aAS w db x) from by refine(aCx h (by omega)).mono ?_;rintro e W' ⟨rfl,D',hR,hI⟩;obtain rfl:=aCw f8 f9 Qu hR;exact⟨by rw [f7],hI⟩));have T6:=η (λW (h:kM w db 8500 (yO x) W)=>(show aQ aM 14 #[π db,bQ #[ν 2,ν 0],ν 1] W λe W'=>e=aT (bB #[ν 10,ν 0])/\kM w db 8500 (yO x) W' from by have:=a1n h 2 0 1 (by decide) (by decide);rw [f10,jJ] at this;exact this));have T7:=η (λW (h:kM w db 8500 (yO x) W)=>(show aQ aM 14 #[π db,bQ #[ν 8,ν 1],ν 0] W λe W'=>e=aT (bB #[ν 970,ν 0])/\kM w db 8500 (yO x) W' from by have:=a1n h 8 1 0 (by decide) (by decide);rw [f11,oL] at this;exact this));go_wp2_with fail
 refine T1.o.mono ?_;rintro e w3 ⟨rfl,h3⟩;have H3:=η h3;go_upto_region 3 with (fail)
 have H4:Hid (kM w db 1700 (M0 x) (w3.alloc (aK #[ν 1,ν 0,ν 30,ν 1,ν 1,ν (-10),ν 3,ν 0,ν (-30),ν 3,ν 1,ν 10] 76))):=η (H3.o.below σ);have T2':=η (T2.o _ H4.o _ 4 (aKR w3));go_wp2_with fail
 refine T2'.o.mono ?_;rintro e w4 ⟨rfl,h4⟩;have H5:=η h4;go_wp2_with fail
 refine(T3.o _ H5.o).mono ?_;rintro e w5 ⟨rfl,h5⟩;have H6:=η h5;go_wp2_with fail
 refine(T4.o _ H6.o).mono ?_;rintro e w6 ⟨rfl,h6⟩;have H7:=η h6;go_wp2_with fail
 refine(T5.o _ H7.o).mono ?_;rintro e w7 ⟨rfl,h7⟩;have H8:=η h7;go_wp2_with fail
 refine(T6.o _ H8.o).mono ?_;rintro e w8 ⟨rfl,h8⟩;have H9:=η h8;go_wp2_with fail
 refine(T7.o _ H9.o).mono ?_;rintro e w9 ⟨rfl,h9⟩;have H10:=η h9.bl;go_wp2_with fail
 go_ret;exact⟨rfl,H10.o⟩
end
section
open Go.ChangeShapes Go.WideShapes Go.ChangeAt Go.Joins Go.Deep
theorem VT {α:Type}(f:α->List aN)(n:Nat)(hf:∀a,aA (f a)=n):∀(l:List α) (J:Nat) (u:aN),(l.flatMap f)[J]? =aC u->∃(k:Nat) (hk:k<aA l) (j:Nat),J=k*n+j/\(f l[k])[j]? =aC u
 | [],J,u,h=>by simp at h
 |a::l,J,u,h=>by
  rw [wZ] at h;by_cases hJ:J<n
  ·rw [List.getElem?_append_left (by rw [hf];exact hJ)] at h;exact⟨0,by simp,J,by simp,h⟩
  rw [List.getElem?_append_right (by rw [hf];omega),hf] at h;obtain⟨k,hk,j,e,hj⟩:=VT f n hf l _ u h;refine⟨k+1,by simpa using hk,j, ?_,hj⟩;rw [Nat.succ_mul];omega
theorem a1b {w:aJ} {a:aj} {v:aN}(h:w.cell? a=aC v):a=⟨a.block,a.off,aB⟩/\a.block<w.heap.size:=by
 obtain⟨b,o,s⟩:=a;unfold World.cell? at h;cases hb:w.heap[b]? with
 |none=>simp [hb] at h
 |some ob=>
  refine⟨?_,(fX.1 hb).1⟩;cases ob<;>simp [hb] at h;cases s with
  |none=>rfl
  |some x=>simp at h
theorem a1Z(b o n:Nat):(⟨b,o,aB⟩:aj).add n=⟨b,o+n,aB⟩:=by unfold Addr.add;split<;>simp_all
theorem a9f {n:Int}(h:(Lit.int aF n).wf=aO):aL n:=by simp only [Lit.wf,IntKind.min,IntKind.max,IntKind.signed,a0C,je,decide_eq_true_eq,if_true] at h;unfold aL;omega
section
variable {H:Type} {enc:bY×aN->H} {P:Program} {w:aJ}
def Reads(enc:bY×aN->H)(P:Program)(w:aJ)(t:bY)(v:aN):Prop:=∃n x,a8e enc P w 0 (λ_=>aO) aO n t [v]=aC x
theorem Reads.int {t:bY} {v:aN}(ht:P.underlying t=aC (.int aF))(h:Reads enc P w t v):∃n,v= .int aF n/\aL n:=by obtain⟨n,x,h⟩:=h;obtain⟨y,e1,_,wy⟩:=DataW.trod_int ht h;simp only [List.cons.injEq,and_true] at e1;exact⟨y,e1,a9f wy⟩
theorem aJt {t:bY} {v:aN} {d:DataW H} {p:List MemPlace}(hc:v.cells.toList= [v])(h:DataW.Trod enc P w 0 (λ_=>aO) aO t v d p):Reads enc P w t v:=by obtain⟨n,h⟩:=h;rw [hc] at h;exact⟨n,_,h⟩
structure UK(enc:bY×aN->H)(P:Program)(w:aJ)(fs:Array Field)(x:List aN):Prop where
 len:aA x=fs.size
 cell:∀(j:Nat) (f:Field) (v:aN),fs[j]? =aC f->x[j]? =aC v->Reads enc P w f.type v
theorem Kc {t e:bY} {fs:Array Field} {v:aN}(ht:P.underlying t=aC (.slice e))(he:P.underlying e=aC (.struct fs))(KH:oneCellFields P fs=aO)(hC:P.cellsOf e=fs.size)(h0:0<fs.size)
 (h:Reads enc P w t v):
 ∃(A:Option aj) (c:Nat) (rows:List (List aN)),v= .slice A (aA rows) c/\aA rows<=c/\c<=bM/\(∀x∈rows,UK enc P w fs x)/\aW w w.heap.size A (rows.flatMap id):=by
 obtain⟨fuel,x,hf⟩:=h;rcases open_slice ht hf with⟨hcs,_⟩|⟨a,len,cap,m,n,D,Pl,hcs,hb,hl,hm,mR,hx,hi⟩
 ·simp at hcs;subst hcs;exact⟨aB,0,[],rfl,by simp,by simp,by simp,aW.nil⟩
 simp at hcs;subst hcs;simp only [if_true] at mR;subst mR;have hrow:∀i,∃x:List aN,i<len->UK enc P w fs x/\∀j y,x[j]? =aC y->w.cell? (a.add (i*fs.size+j))=aC y:=by
  intro i;by_cases nY:i<len
  ·obtain⟨cs',hc,AH⟩:=hi i (by omega);rw [hC] at hc;obtain⟨ys,n',KE,hy,hlen,Bi,gW⟩:=Yt he AH;obtain⟨_,jY,hat⟩:=aCJ hc;refine⟨cs',λ_=>⟨⟨jY, ?_⟩, ?_⟩⟩
   ·intro j f v Ml hv;obtain⟨ho,hk⟩:=hone_of KH j _ Ml;have h1:=gW j _ Ml;have qz:=(zR.1 hv).1;rw [ho,hk] at h1;have Wh:(cs'.drop j).take 1= [v]:=by
     rw [Jd qz,(zR.1 hv).2];rfl
    rw [Wh] at h1;have I6:j<aA ys:=by omega
    rw [iE I6] at h1;exact⟨_,_,h1⟩
   intro j y hy;have qz:=(zR.1 hy).1;rw [<-a1a,hat j (by omega)];exact hy
  exact⟨[],λh=>absurd h nY⟩
 obtain⟨g,hg⟩:=Yq.1 hrow;have N1:aA ((dR len).map g)=len:=by simp
 refine⟨aC a,_,(dR len).map g,by rw [N1],by rw [N1];exact hl,hm, ?_, ?_⟩
 ·intro x hx;obtain⟨i,hi',rfl⟩:=df.1 hx;exact(hg i (nP.1 hi')).1
 intro J u hu;have Ww:((dR len).flatMap g)[J]? =aC u:=by rw [a9s] at hu;exact hu
 have Wl:∀i,aA (if i<len then g i else gR fs.size (aG aF 0))=fs.size:=by
  intro i;split
  ·rename_i nY;exact(hg i nY).1.len
  simp
 have sA:((dR len).flatMap (λi=>if i<len then g i else gR fs.size (aG aF 0)))[J]? =aC u:=by
  have e:(dR len).flatMap (λi=>if i<len then g i else gR fs.size (aG aF 0))=(dR len).flatMap g:=by rw [UB,UB];congr 1;exact Je λi hi=>by rw [ifP (nP.1 hi)]
  rw [e];exact Ww
 obtain⟨k,hk,j,rfl,hj⟩:=VT _ fs.size Wl _ J u sA;have eE:k<len:=by simpa using hk
 have ek:(dR len)[k]=k:=by simp
 rw [ek,ifP eE] at hj;have hc:=(hg k eE).2 j u hj;obtain⟨x,hx0⟩:∃x,(g 0)[0]? =aC x:=by have hl0:=(hg 0 (by omega)).1.len;exact⟨_,iE (by rw [hl0];exact h0)⟩
 have hc0:=(hg 0 (by omega)).2 0 x hx0;have ea:a.add (0*fs.size+0)=a:=by simp [Addr.add]
 rw [ea] at hc0;obtain⟨e1,e2⟩:=a1b hc0;refine⟨a.block,a.off,by rw [<-e1],e2, ?_⟩;rw [<-a1Z,<-e1];exact hc
end
theorem Fg {α:Type}(f:α->List aN)(R:α->Prop):∀(rows:List (List aN)),(∀x∈rows,∃a,x=f a/\R a)->∃l:List α,aA l=aA rows/\rows.flatMap id=l.flatMap f/\∀a∈l,R a
 | [],_=>⟨[],rfl,rfl,by simp⟩
 |x::rows,h=>by
  obtain⟨a,rfl,ha⟩:=h x (by simp);obtain⟨l,h1,h2,h3⟩:=Fg f R rows λy hy=>h y (by simp [hy])
  refine⟨a::l,by simp [h1],by simp [h2], ?_⟩;intro b hb;rcases fE.1 hb with rfl|hb
  ·exact ha
  exact h3 b hb
end
section
open Go.ChangeShapes Go.WideShapes Go.ChangeAt Go.Joins Go.Deep
section
variable {H:Type} {enc:bY×aN->H} {w:aJ}
theorem XV {P:Program} {t e:bY} {A:Option aj} {n c:Nat}(ht:P.underlying t=aC (.slice e))(h:Reads enc P w t (.slice A n c)):A=aB->n=0/\c=0:=by
 obtain⟨fuel,x,hf⟩:=h;rcases open_slice ht hf with⟨hcs,_⟩|⟨a,len,cap,m,n',D,Pl,hcs,_⟩
 ·simp at hcs;exact λ_=>hcs.2
 simp at hcs;intro h;rw [hcs.1] at h;cases h
end
end
section
open Go.ChangeShapes Go.WideShapes Go.ChangeAt Go.Joins Go.Deep
section
variable {H:Type} {enc:bY×aN->H} {P:Program} {w:aJ}
def qD(enc:bY×aN->H)(P:Program)(w:aJ)(t:bY)(cs:List aN):Prop:=∃n x,a8e enc P w 0 (λ_=>aO) aO n t cs=aC x
theorem qD.fields {t:bY} {fs:Array Field} {cs:List aN}(ht:P.underlying t=aC (.struct fs))(h:qD enc P w t cs):
 ∀(i:Nat) (f:Field),fs[i]? =aC f->qD enc P w f.type ((cs.drop f.offset).take (P.cellsOf f.type)):=by
 obtain⟨fuel,x,h⟩:=h;obtain⟨xs,n,rfl,rfl,hl,nD,gW⟩:=Yt ht h;intro i f hf;have hi:=(fX.1 hf).1;have h1:=gW i f hf;rw [iE (show i<(aA xs) by omega)] at h1;exact⟨n,_,h1⟩
theorem aIj {t e:bY} {N:Nat} {v:aN}(ht:P.underlying t=aC (.slice e))(hC:P.cellsOf e=N)(h0:0<N)
 (h:Reads enc P w t v):
 ∃(A:Option aj) (c:Nat) (rows:List (List aN)),v= .slice A (aA rows) c/\aA rows<=c/\c<=bM/\(∀x∈rows,aA x=N/\qD enc P w e x)/\aW w w.heap.size A (rows.flatMap id):=by
 obtain⟨fuel,x,hf⟩:=h;rcases open_slice ht hf with⟨hcs,_⟩|⟨a,len,cap,m,n,D,Pl,hcs,hb,hl,hm,mR,hx,hi⟩
 ·simp at hcs;subst hcs;exact⟨aB,0,[],rfl,by simp,by simp,by simp,aW.nil⟩
 simp at hcs;subst hcs;simp only [if_true] at mR;subst mR;have hrow:∀i,∃x:List aN,i<len->(aA x=N/\qD enc P w e x)/\∀j y,x[j]? =aC y->w.cell? (a.add (i*N+j))=aC y:=by
  intro i;by_cases nY:i<len
  ·obtain⟨cs',hc,AH⟩:=hi i (by omega);rw [hC] at hc;obtain⟨_,jY,hat⟩:=aCJ hc;refine⟨cs',λ_=>⟨⟨jY,⟨_,_,AH⟩⟩, ?_⟩⟩;intro j y hy;have qz:=(zR.1 hy).1;rw [<-a1a,hat j (by omega)];exact hy
  exact⟨[],λh=>absurd h nY⟩
 obtain⟨g,hg⟩:=Yq.1 hrow;have N1:aA ((dR len).map g)=len:=by simp
 refine⟨aC a,_,(dR len).map g,by rw [N1],by rw [N1];exact hl,hm, ?_, ?_⟩
 ·intro x hx;obtain⟨i,hi',rfl⟩:=df.1 hx;exact(hg i (nP.1 hi')).1
 intro J u hu;have Ww:((dR len).flatMap g)[J]? =aC u:=by rw [a9s] at hu;exact hu
 have Wl:∀i,aA (if i<len then g i else gR N (aG aF 0))=N:=by
  intro i;split
  ·rename_i nY;exact(hg i nY).1.1
  simp
 have sA:((dR len).flatMap (λi=>if i<len then g i else gR N (aG aF 0)))[J]? =aC u:=by
  have e:(dR len).flatMap (λi=>if i<len then g i else gR N (aG aF 0))=(dR len).flatMap g:=by rw [UB,UB];congr 1;exact Je λi hi=>by rw [ifP (nP.1 hi)]
  rw [e];exact Ww
 obtain⟨k,hk,j,rfl,hj⟩:=VT _ N Wl _ J u sA;have eE:k<len:=by simpa using hk
 have ek:(dR len)[k]=k:=by simp
 rw [ek,ifP eE] at hj;have hc:=(hg k eE).2 j u hj;obtain⟨x,hx0⟩:∃x,(g 0)[0]? =aC x:=by have hl0:=(hg 0 (by omega)).1.1;exact⟨_,iE (by rw [hl0];exact h0)⟩
 have hc0:=(hg 0 (by omega)).2 0 x hx0;have ea:a.add (0*N+0)=a:=by simp [Addr.add]
 rw [ea] at hc0;obtain⟨e1,e2⟩:=a1b hc0;refine⟨a.block,a.off,by rw [<-e1],e2, ?_⟩;rw [<-a1Z,<-e1];exact hc
end
end
section
open Go.ChangeShapes Go.WideShapes Go.ChangeAt Go.Joins Go.Deep
section
variable {H:Type} {enc:bY×aN->H} {w:aJ}
theorem aIm {P:Program} {r:Reach} {b0:Nat} {t:bY} {fs:Array Field} {v:aN} {d:DataW H} {p:List MemPlace}(hs:P.underlying t=aC (.struct fs))(KH:oneCellFields P fs=aO)(hC:P.cellsOf t=fs.size)
 (hv:Value.okWide P w r b0 t v) (h:DataW.Trod enc P w 0 (λ_=>aO) aO t v d p):∃l:List aN,v= .agg l.toArray/\UK enc P w fs l:=by
 obtain⟨⟨l⟩,rfl,hsz⟩:=okWide_struct hs hv;obtain⟨fuel,hf⟩:=h;obtain⟨ys,n,_,_,_,Bi,gW⟩:=Yt hs hf;have hl:aA l=fs.size:=hsz.trans hC;refine⟨l,rfl,⟨hl, ?_⟩⟩;intro j f v Ml hv;obtain⟨ho,hk⟩:=hone_of KH j _ Ml;have h1:=gW j _ Ml;have qz:j<aA l:=(zR.1 hv).1;rw [ho,hk] at h1;have Wh:((Value.agg ⟨l⟩).cells.toList.drop j).take 1= [v]:=by show (l.drop j).take 1= [v];rw [Jd qz,(zR.1 hv).2];rfl
 rw [Wh] at h1;have I6:j<aA ys:=by omega
 rw [iE I6] at h1;exact⟨_,_,h1⟩
theorem aIl {v:aN}(h:Reads enc aM w 22 v):∃(A:Option aj) (c:Nat) (l:List Pr),v=aH A (aA l) c/\aA l<=bM/\aW w w.heap.size A (gp l):=by
 obtain⟨A,c,rows,rfl,hl,hc,hr,hs⟩:=Kc underlying22 underlying67 (by kernel_rfl) (by kernel_rfl) (by decide) h;obtain⟨l,e1,e2,_⟩:=Fg Pr.cells (λ_=>True) rows λx hx=>by
  have hx:=hr x hx
  match x,hx.len with
  | [x0,x1],_=>
   obtain⟨x0,rfl,_⟩:=(hx.cell 0 _ _ rfl rfl).int (by kernel_rfl);obtain⟨x1,rfl,_⟩:=(hx.cell 1 _ _ rfl rfl).int (by kernel_rfl);exact⟨⟨x0,x1⟩,rfl,trivial⟩
 rw [e2] at hs;rw [<-e1] at hl ⊢;exact⟨A,c,l,rfl,bz hl hc,hs⟩
theorem aNA {v:aN}(h:Reads enc aM w 23 v):∃(A:Option aj) (c:Nat) (l:List Pr),v=aH A (aA l) c/\aA l<=bM/\aW w w.heap.size A (gp l):=by
 obtain⟨A,c,rows,rfl,hl,hc,hr,hs⟩:=Kc underlying23 aCD (by kernel_rfl) (by kernel_rfl) (by decide) h;obtain⟨l,e1,e2,_⟩:=Fg Pr.cells (λ_=>True) rows λx hx=>by
  have hx:=hr x hx
  match x,hx.len with
  | [x0,x1],_=>
   obtain⟨x0,rfl,_⟩:=(hx.cell 0 _ _ rfl rfl).int (by kernel_rfl);obtain⟨x1,rfl,_⟩:=(hx.cell 1 _ _ rfl rfl).int (by kernel_rfl);exact⟨⟨x0,x1⟩,rfl,trivial⟩
 rw [e2] at hs;rw [<-e1] at hl ⊢;exact⟨A,c,l,rfl,bz hl hc,hs⟩
theorem aIi {v:aN}(h:Reads enc aM w 24 v):∃(A:Option aj) (c:Nat) (l:List Cy),v=aH A (aA l) c/\aA l<=bM/\aW w w.heap.size A (uS l):=by
 obtain⟨A,c,rows,rfl,hl,hc,hr,hs⟩:=Kc underlying24 underlying71 (by kernel_rfl) (by kernel_rfl) (by decide) h;obtain⟨l,e1,e2,_⟩:=Fg Cy.cells (λ_=>True) rows λx hx=>by
  have hx:=hr x hx
  match x,hx.len with
  | [x0,x1,x2,x3],_=>
   obtain⟨x0,rfl,_⟩:=(hx.cell 0 _ _ rfl rfl).int (by kernel_rfl);obtain⟨x1,rfl,_⟩:=(hx.cell 1 _ _ rfl rfl).int (by kernel_rfl);obtain⟨x2,rfl,_⟩:=(hx.cell 2 _ _ rfl rfl).int (by kernel_rfl);obtain⟨x3,rfl,_⟩:=(hx.cell 3 _ _ rfl rfl).int (by kernel_rfl);exact⟨⟨x0,x1,x2,x3⟩,rfl,trivial⟩
 rw [e2] at hs;rw [<-e1] at hl ⊢;exact⟨A,c,l,rfl,bz hl hc,hs⟩
end
end
section
open Go.ChangeShapes Go.WideShapes Go.ChangeAt Go.Joins Go.Deep
section
variable {H:Type} {enc:bY×aN->H} {w:aJ}
theorem aIn {v:aN}(h:Reads enc aM w 23 v):∃(A:Option aj) (c:Nat) (l:List Pr),v=aH A (aA l) c/\aA l<=bM/\(∀y∈l,aL y.a/\aL y.b)/\aW w w.heap.size A (gp l):=by
 obtain⟨A,c,rows,rfl,hl,hc,hr,hs⟩:=Kc underlying23 aCD (by kernel_rfl) (by kernel_rfl) (by decide) h;obtain⟨l,e1,e2,e3⟩:=Fg Pr.cells (λy=>aL y.a/\aL y.b) rows λx hx=>by
  have hx:=hr x hx
  match x,hx.len with
  | [x0,x1],_=>
   obtain⟨x0,rfl,h0⟩:=(hx.cell 0 _ _ rfl rfl).int (by kernel_rfl);obtain⟨x1,rfl,h1⟩:=(hx.cell 1 _ _ rfl rfl).int (by kernel_rfl);exact⟨⟨x0,x1⟩,rfl,h0,h1⟩
 rw [e2] at hs;rw [<-e1] at hl ⊢;exact⟨A,c,l,rfl,bz hl hc,e3,hs⟩
end
end
section
open Go.ChangeShapes Go.WideShapes Go.ChangeAt Go.Joins Go.Deep
section
variable {H:Type} {enc:bY×aN->H} {w:aJ}
theorem aIk {v:aN}(h:Reads enc aM w 39 v):
 ∃(A:Option aj) (c:Nat) (l:List Lg),v=aH A (aA l) c/\aA l<=c/\c<=bM/\(∀y∈l,aL y.m/\aL y.a/\aL y.n)/\aW w w.heap.size A (bA l):=by
 obtain⟨A,c,rows,rfl,hl,hc,hr,hs⟩:=Kc tE underlying76 (by kernel_rfl) (by kernel_rfl) (by decide) h;obtain⟨l,e1,e2,e3⟩:=Fg Lg.cells (λy=>aL y.m/\aL y.a/\aL y.n) rows λx hx=>by
  have hx:=hr x hx
  match x,hx.len with
  | [a,b,d],_=>
   obtain⟨a,rfl,ha⟩:=(hx.cell 0 _ _ rfl rfl).int (by kernel_rfl);obtain⟨b,rfl,hb⟩:=(hx.cell 1 _ _ rfl rfl).int (by kernel_rfl);obtain⟨d,rfl,hd⟩:=(hx.cell 2 _ _ rfl rfl).int (by kernel_rfl);exact⟨⟨a,b,d⟩,rfl,ha,hb,hd⟩
 rw [e2] at hs;rw [<-e1] at hl ⊢;exact⟨A,c,l,rfl,hl,hc,e3,hs⟩
end
end
section
open Go.ChangeShapes Go.WideShapes Go.ChangeAt Go.Joins Go.Deep
section
variable {H:Type} {enc:bY×aN->H} {w:aJ}
theorem aIh {r:Reach} {b0:Nat} {v:aN} {d:DataW H} {p:List MemPlace}(hv:Value.okWide aM w r b0 26 v)
 (h:DataW.Trod enc aM w 0 (λ_=>aO) aO 26 v d p):∃x:ak,v=x.val/\uq w x/\aA x.ms<=bM/\aA x.ss<=bM/\aA x.cy<=bM:=by
 obtain⟨l,rfl,hx⟩:=aIm underlying26 (by kernel_rfl) (by kernel_rfl) hv h
 match l,hx.len with
 | [x0,x1,x2,x3,x4,x5,x6,x7],_=>
  have g0:=hx.cell 0 _ _ rfl rfl;have g1:=hx.cell 1 _ _ rfl rfl;have g2:=hx.cell 2 _ _ rfl rfl;obtain⟨Am,cm,ms,rfl,hm,sm⟩:=aIl g0;obtain⟨As,cs,ss,rfl,hs,hI,sss⟩:=aIn g1;obtain⟨Ac,cc,cy,rfl,hc,sc⟩:=aIi g2;obtain⟨x3,rfl,_⟩:=(hx.cell 3 _ _ rfl rfl).int (by kernel_rfl);obtain⟨x4,rfl,_⟩:=(hx.cell 4 _ _ rfl rfl).int (by kernel_rfl);obtain⟨x5,rfl,_⟩:=(hx.cell 5 _ _ rfl rfl).int (by kernel_rfl);obtain⟨x6,rfl,_⟩:=(hx.cell 6 _ _ rfl rfl).int (by kernel_rfl);obtain⟨x7,rfl,_⟩:=(hx.cell 7 _ _ rfl rfl).int (by kernel_rfl);have n0:=XV underlying22 g0;have n1:=XV underlying23 g1;have n2:=XV underlying24 g2;exact⟨⟨ms,Am,cm,ss,As,cs,cy,Ac,cc,x3,x4,x5,x6,x7⟩,rfl,⟨⟨sm,sss,sc⟩,λe=>(n0 e).1,λe=>(n1 e).1,λe=>(n2 e).1⟩,hm,hs,hc⟩
theorem aIo {v:aN}(h:Reads enc aM w 38 v):
 ∃(A:Option aj) (c:Nat) (l:List Td),v=aH A (aA l) c/\aA l<=c/\c<=bM/\(∀y∈l,y.ok)/\aW w w.heap.size A (YR l):=by
 obtain⟨A,c,rows,rfl,hl,hc,hr,hs⟩:=Kc underlying38 underlying153 (by kernel_rfl) (by kernel_rfl) (by decide) h;obtain⟨l,e1,e2,e3⟩:=Fg Td.cells (λy=>y.ok) rows λx hx=>by
  have hx:=hr x hx
  match x,hx.len with
  | [a,b,c,d,e,f],_=>
   obtain⟨a,rfl,ha⟩:=(hx.cell 0 _ _ rfl rfl).int (by kernel_rfl);obtain⟨b,rfl,hb⟩:=(hx.cell 1 _ _ rfl rfl).int (by kernel_rfl);obtain⟨c,rfl,hc⟩:=(hx.cell 2 _ _ rfl rfl).int (by kernel_rfl);obtain⟨d,rfl,hd⟩:=(hx.cell 3 _ _ rfl rfl).int (by kernel_rfl);obtain⟨e,rfl,he⟩:=(hx.cell 4 _ _ rfl rfl).int (by kernel_rfl);obtain⟨f,rfl,hf⟩:=(hx.cell 5 _ _ rfl rfl).int (by kernel_rfl);exact⟨⟨a,b,c,d,e,f⟩,rfl,hb,hc,hd,he,hf⟩
 rw [e2] at hs;rw [<-e1] at hl ⊢;exact⟨A,c,l,rfl,hl,hc,e3,hs⟩
def SZ(w:aJ)(y:Ac):Prop:=y.ok/\y.at w/\aA y.ts<=bM/\aA y.ls<=bM
theorem aCO {x:List aN}(nD:aA x=11)(hx:qD enc aM w 43 x):∃y:Ac,x=y.cells/\SZ w y:=by
 have k0:aM.cellsOf 3=1:=by kernel_rfl
 have k1:aM.cellsOf 38=1:=by kernel_rfl
 have k2:aM.cellsOf 39=1:=by kernel_rfl
 have k3:aM.cellsOf 2=1:=by kernel_rfl
 have k4:aM.cellsOf 41=5:=by kernel_rfl
 match x,nD with
 | [a,b,c,d,e,f,g,h,i,j,k],_=>
  have hf:=hx.fields underlying43;have h0:qD enc aM w 3 (([a,b,c,d,e,f,g,h,i,j,k].drop 0).take (aM.cellsOf 3)):=hf 0 _ rfl;have h1:qD enc aM w 38 (([a,b,c,d,e,f,g,h,i,j,k].drop 1).take (aM.cellsOf 38)):=hf 1 _ rfl;have h2:qD enc aM w 39 (([a,b,c,d,e,f,g,h,i,j,k].drop 2).take (aM.cellsOf 39)):=hf 2 _ rfl;have h3:qD enc aM w 3 (([a,b,c,d,e,f,g,h,i,j,k].drop 3).take (aM.cellsOf 3)):=hf 3 _ rfl;have h4:qD enc aM w 3 (([a,b,c,d,e,f,g,h,i,j,k].drop 4).take (aM.cellsOf 3)):=hf 4 _ rfl;have h5:qD enc aM w 2 (([a,b,c,d,e,f,g,h,i,j,k].drop 5).take (aM.cellsOf 2)):=hf 5 _ rfl;have h6:qD enc aM w 41 (([a,b,c,d,e,f,g,h,i,j,k].drop 6).take (aM.cellsOf 41)):=hf 6 _ rfl;rw [k0] at h0 h3 h4;rw [k1] at h1;rw [k2] at h2;rw [k3] at h5;rw [k4] at h6;have hg:=qD.fields underlying41 h6;have g0:qD enc aM w 3 (([g,h,i,j,k].drop 0).take (aM.cellsOf 3)):=hg 0 _ rfl;have g1:qD enc aM w 3 (([g,h,i,j,k].drop 1).take (aM.cellsOf 3)):=hg 1 _ rfl;have g2:qD enc aM w 3 (([g,h,i,j,k].drop 2).take (aM.cellsOf 3)):=hg 2 _ rfl;have g3:qD enc aM w 2 (([g,h,i,j,k].drop 3).take (aM.cellsOf 2)):=hg 3 _ rfl;have g4:qD enc aM w 2 (([g,h,i,j,k].drop 4).take (aM.cellsOf 2)):=hg 4 _ rfl;rw [k0] at g0 g1 g2;rw [k3] at g3 g4;have r0:Reads enc aM w 3 a:=h0;have r1:Reads enc aM w 38 b:=h1;have r2:Reads enc aM w 39 c:=h2;have r3:Reads enc aM w 3 d:=h3;have r4:Reads enc aM w 3 e:=h4;have r5:Reads enc aM w 2 f:=h5;have q0:Reads enc aM w 3 g:=g0;have q1:Reads enc aM w 3 h:=g1;have q2:Reads enc aM w 3 i:=g2;have q3:Reads enc aM w 2 j:=g3;have q4:Reads enc aM w 2 k:=g4;obtain⟨a,rfl,_⟩:=r0.int (by kernel_rfl);obtain⟨At,ct,ts,rfl,t1,t2,t3,t4⟩:=aIo r1;obtain⟨Al,cl,ls,rfl,l1,l2,l3,l4⟩:=aIk r2;obtain⟨d,rfl,w3⟩:=r3.int (by kernel_rfl);obtain⟨e,rfl,w4⟩:=r4.int (by kernel_rfl);obtain⟨f,rfl,w5⟩:=r5.int (by kernel_rfl);obtain⟨g,rfl,u0⟩:=q0.int (by kernel_rfl);obtain⟨h,rfl,u1⟩:=q1.int (by kernel_rfl);obtain⟨i,rfl,u2⟩:=q2.int (by kernel_rfl);obtain⟨j,rfl,u3⟩:=q3.int (by kernel_rfl);obtain⟨k,rfl,u4⟩:=q4.int (by kernel_rfl);exact⟨⟨a,ts,At,ct,ls,Al,cl,d,e,f,⟨g,h,i,j,k⟩⟩,rfl,⟨w3,w4,w5,⟨u0,u1,u2,u3,u4⟩,t3,λy hy=>⟨(l3 y hy).1,(l3 y hy).2.1,(l3 y hy).2.2⟩⟩,⟨t4,l4⟩,bz t1 t2,bz l1 l2⟩
theorem aIg {v:aN}(h:Reads enc aM w 27 v):
 ∃(A:Option aj) (c:Nat) (l:List Ac),v=aH A (aA l) c/\aA l<=c/\c<=bM/\(∀y∈l,SZ w y)/\aW w w.heap.size A (Jl l):=by
 obtain⟨A,c,rows,rfl,hl,hc,hr,hs⟩:=aIj (N:=11) underlying27 (by kernel_rfl) (by decide) h;obtain⟨l,e1,e2,e3⟩:=Fg Ac.cells (λy=>SZ w y) rows λx hx=>aCO (hr x hx).1 (hr x hx).2
 rw [e2] at hs;rw [<-e1] at hl ⊢;exact⟨A,c,l,rfl,hl,hc,e3,hs⟩
end
end
theorem aD4(x:ak)(l:List Ac)(A:Option aj)(c:Nat)(w:aJ)(h:uq w x)(hm:aA x.ms<=bM)(hs:aA x.ss<=bM)(hc:aA x.cy<=bM)(hl:aA l<=bM)(hL:∀y∈l,aA y.ts<=bM/\aA y.ls<=bM)(nC:aW w w.heap.size A (Jl l))(dS:∀y∈l,y.ok/\y.at w):
 aQ aM 6 #[x.val,aH A (aA l) c] w λe w'=>e=aT (bJ aO)/\aY w.heap.size w w':=by
 have aZ:=η (mQ w x);have jP:=η (zi w x);have mJ:=η (h.below aZ.o);have px:=η ((nC.below aZ.o).mono aZ.o.size);have wY:=η (λy (hy:y∈l)=>kX (dS y hy).1 ((dS y hy).2.below aZ.o));have zC:=η (λW (hW:aW W W.heap.size A (Jl l))=>aFS x l A c W hm hs hc hl hL hW);have HLEN:Hid (Hh x l=aO->(aA x.ms<=20/\aA x.ss<=20/\aA x.cy<=20)/\aA l<=40/\∀y∈l,aA y.ts<=30/\aA y.ls<=60):=η aFT;clear h hm hs hc hL nC dS;unfold bM at hl;cases QX:Hh x l
 ·rw [QX] at zC;clear HLEN wY mJ;unfold ak.val at*;go_enter PG,a1G
  obtain⟨c0,c1,c2,c3,c4,c5,c6,c7,jk⟩:=jP.o;go_wp2_with fail
  refine(zC.o _ px.o).mono ?_;rintro e w2 ⟨rfl,hb⟩;have aV:Hid (aY w.heap.size w w2):=τ aZ hb;clear hb zC aZ jP px c0 c1 c2 c3 c4 c5 c6 c7 jk;go_wp2_with fail
  refine(Us _).mono ?_;rintro e w3 ⟨rfl,hb⟩;have ag:Hid (aY w.heap.size w w3):=τ aV hb;clear hb;go_wp2_with fail
  go_ret;exact⟨rfl,ag.o⟩
 obtain⟨⟨l1,l2,l3⟩,l40,hL⟩:=HLEN.o QX;have mH:=η hL;rw [QX] at zC;have rT:=η (λW (hW:uq W x)=>aKJ x W hW.ok (by omega) (by omega) (by omega));clear QX HLEN hL;cases FE:okB x
 ·have HX:=η (a8V FE);generalize iR x=ws at*;clear FE wY mH;unfold ak.val at*;go_enter PG,a1G
  obtain⟨c0,c1,c2,c3,c4,c5,c6,c7,jk⟩:=jP.o;go_wp2_with fail
  refine(zC.o _ px.o).mono ?_;rintro e w2 ⟨rfl,hb⟩;have aV:Hid (aY w.heap.size w w2):=τ aZ hb;have kN:=η (jP.o.below hb);have dE:=η (mJ.o.below hb);clear hb zC aZ jP px mJ c0 c1 c2 c3 c4 c5 c6 c7 jk;obtain⟨c0,c1,c2,c3,c4,c5,c6,c7,jk⟩:=kN.o;go_wp2_with fail
  refine(rT.o _ dE.o).mono ?_;rintro e w3 ⟨rfl,hb⟩;have ag:Hid (aY w.heap.size w w3):=τ aV hb;clear hb rT aV kN dE c0 c1 c2 c3 c4 c5 c6 c7 jk;rcases HX.o with rfl|rfl|rfl|rfl|rfl|rfl|rfl|rfl
  all_goals
   clear HX;go_wp2_with fail
   refine(Us _).mono ?_;rintro e w4 ⟨rfl,hb⟩;have ar:Hid (aY w.heap.size w w4):=τ ag hb;clear hb;go_wp2_with fail
   go_ret;exact⟨rfl,ar.o⟩
 have HE:=η (a8W FE);have aMQ:=η FE;have OY:=η (λ(w0 W:aJ) (hb:Nat) (h1:aY w0.heap.size w0 W) (h2:hb<W.heap.size) (h3:uq W x)=>aHX (hb:=hb) h1 h2 h3 FE);have aN1:aA x.ss<=8:=(Qr FE).sl.2;have aMv:aA x.ms<=16:=(Qr FE).ml.2;clear FE;rw [HE.o] at rT;clear HE;unfold ak.val at*;go_enter PG,a1G
 go_upto_region 1 with (fail)
 generalize w.alloc (aK #[aH x.Am (aA x.ms) x.cm,aH x.As (aA x.ss) x.cs,aH x.Ac (aA x.cy) x.cc,aG aF x.line,aG aF x.bV,aG aF x.lead,aG aF x.tr,aG aF x.bT] 26)=w0 at*;obtain⟨bx,bU⟩:∃bx,bx=w.heap.size:=⟨_,rfl⟩;rw [<-bU] at jP ⊢;clear bU;have bU:=jP.o.lt;have cC:=η (λW (hW:aY w0.heap.size w0 W)=>aZ.o.trans (hW.mono aZ.o.size));have eI:=η (λW (hW:aY w0.heap.size w0 W)=>jP.o.below hW);have HSW:=η (λW (hW:aY w0.heap.size w0 W)=>(px.o.below hW).mono hW.size);obtain⟨c0,c1,c2,c3,c4,c5,c6,c7,jk⟩:=jP.o;go_wp2_with fail
 refine(zC.o _ px.o).mono ?_;rintro e w1 ⟨rfl,hb⟩;have aR:=η hb;have cF:=η (mJ.o.below hb);clear hb zC c0 c1 c2 c3 c4 c5 c6 c7 jk px jP aZ mJ;obtain⟨c0,c1,c2,c3,c4,c5,c6,c7,jk⟩:=eI.o _ aR.o;go_wp2_with fail
 refine(rT.o _ cF.o).mono ?_;rintro e w2 ⟨rfl,hb⟩;have aV:=τ aR hb;have dE:=η (cF.o.below hb);have hz2:=aV.o.size;clear hb rT c0 c1 c2 c3 c4 c5 c6 c7 jk aR cF;obtain⟨c0,c1,c2,c3,c4,c5,c6,c7,jk⟩:=eI.o _ aV.o;go_wp2_with fail
 refine(OY.o w0 _ bx aV.o jk dE.o).mono ?_;rintro e w3 ⟨db,D0,rfl,hi,hb,aGf,-⟩;have JG:=η hi;clear hi hb aGf OY aV dE c0 c1 c2 c3 c4 c5 c6 c7 jk;have Yn:=η (aCb (aA x.ms) w3 (by omega));obtain⟨c0,c1,c2,c3,c4,c5,c6,c7,jk⟩:=eI.o _ JG.o.bl;go_wp2_with fail
 refine Yn.o.mono ?_;rintro e w4 ⟨v4,n4,rfl,Wd,jJ,hrow⟩;obtain⟨hb,k4,L,rfl,iO,rfl,hLI,gG,hb4⟩:=hrow.full jJ;have ZQ:=η (JG.o.aJv hb4 iO (gG.lt hb rfl).2);have EJ:=η hLI;have dP:=η gG;clear Yn JG hrow hLI gG hb4 iO jJ c0 c1 c2 c3 c4 c5 c6 c7 jk;go_wp2_with fail
 go_loopw [8,9,10,11,12,13,14,15,16,17] (λi _ _ _ _ _ _ _ _ _ wr=>∃(k:Nat) (D:Dk),k<=aA l/\i=aG aF (k:Int)/\Hid (qd w0 db hb x (1700*k) D wr)/\Hid (wr.ownsRow w3.heap.size 51 2 (aH (aC ⟨hb,0,aB⟩) (aA L) k4) (aA L) (gp L))) (λi _ _ _ _ _ _ _ _ _ _=>aA l-(af i).toNat)
 case atStart=>exact⟨0,D0,bK _,rfl,ZQ,dP⟩
 case round=>
  clear ZQ dP;obtain⟨k,D,hk,rfl,HI,HO⟩:=hrel;by_cases hlt:k<aA l
  ·have hg:1700*k+1700<=90000:=by omega
   have hg2:1700*k+1700+1700<=90000:=by omega
   have eY:(0:Int)<=(k:Int):=by omega
   have hkb:(k:Int)<(aA l:Int):=by omega
   obtain⟨ba,oa,rfl,nB,d0,d1,d2,d3,d4,d5,d6,d7,d8,d9,d10⟩:=a1X (HSW.o wr HI.o.bl) hlt;have HYK:=η (wY.o l[k] (cH hlt));have kO:=η (mH.o l[k] (cH hlt));have Tl:=η (aHZ HI.o hg HYK.o.1 HYK.o.2 kO.o.1 kO.o.2);unfold Ac.val at Tl;go_wp2_with fail
   refine Tl.o.mono ?_;rintro e w5 ⟨rfl,D5,h5,t5,e5⟩;have JH:=η h5;have GF:=η t5;have ZG:=η e5;clear h5 t5 e5 Tl d0 d1 d2 d3 d4 d5 d6 d7 d8 d9 d10;have ez:=η (aJB HO.o rfl ZG.o);have Yp:=η (aHW JH.o hg2);have Oe:Hid ((∀k m a,qJ k=aP->0<=B D5 k m a)/\(D5.st=0->∀m a,B D5 1 m a=0)/\(D5.st=0->∀y∈D5.ob,y.st≠1)):=η JH.o.inv.fair;clear HI HO ZG GF;go_wp2_with fail
   refine Yp.o.mono ?_;rintro e w6 ⟨rfl,iM⟩;have wT:=η (JH.o.below iM);have jh:=η (gh ez.o iM);have HR:Hid (decide (D5.st=0)=aO->(∀m a,B D5 1 m a=0)/\∀y∈D5.ob,y.st≠1):=η (λh=>⟨Oe.o.2.1 (of_decide_eq_true h),Oe.o.2.2 (of_decide_eq_true h)⟩);have HP:=η Oe.o.1;generalize decide (D5.st=0)=r at*;clear iM Yp JH ez Oe;go_wp2_with fail
   go_loopw [10,11,12,13,14,15] (λa _ _ _ _ _ wr=>∃m:Nat,m<=aA x.ss+1/\a=aG aF (m:Int)/\Hid (aY w6.heap.size w6 wr)) (λa _ _ _ _ _ _=>aA x.ss+1-(af a).toNat)
   case atStart=>exact⟨0,bK _,rfl,η (aX _ _)⟩
   case round=>
    obtain⟨m,hm,rfl,HB⟩:=hrel;have B8:=η (wT.o.below HB.o);obtain⟨c0,c1,c2,c3,c4,c5,c6,c7,jk⟩:=eI.o _ B8.o.bl;have Qe:aA x.ss<=20:=l2;by_cases hlm:m<aA x.ss+1
    ·have aMo:(m:Int)<=(aA x.ss:Int):=by omega
     have CT:=η (aHa B8.o m hlm);go_wp2_with fail
     refine CT.o.mono ?_;rintro e w7 ⟨rfl,fP⟩;have rH:=τ HB fP;clear fP CT B8 HB c0 c1 c2 c3 c4 c5 c6 c7 jk;go_wp2_with fail
     go_loopw [13,14,15] (λi _ _ wr=>∃j:Nat,j<=aA L/\i=aG aF (j:Int)/\Hid (aY w6.heap.size w6 wr)) (λi _ _ _=>aA L-(af i).toNat)
     case atStart=>exact⟨0,bK _,rfl,rH⟩
     case round=>
      clear rH;obtain⟨j,hj,rfl,HB⟩:=hrel;by_cases I7:j<aA L
      ·have B8:=η (wT.o.below HB.o);obtain⟨be,oe,jn,km,e0,e1⟩:=Bz ((aW.cA jh.o).below HB.o|>.mono HB.o.size) I7;have LH:=η (EJ.o L[j] (cH I7));have yb:(0:Int)<=(j:Int):=by omega
       have hjb:(j:Int)<(aA L:Int):=by omega
       obtain⟨y,hy⟩:∃y,y=L[j]:=⟨_,rfl⟩;have zE:=η hy.symm;rw [<-hy] at e0 e1 LH;clear hy;obtain⟨pa,pb⟩:=y;simp only at e0 e1 LH;cases jn;rw [Nat.zero_add] at e0 e1;have CB:=η (aHV B8.o pa pb (m:Int) LH.o.1 LH.o.2);have HN:=η (HP.o pa pb (m:Int));have oh:=η (λ(h:r=aO) (h1:pa=1)=>(show B D5 pa pb (m:Int)=0 from by rw [h1];exact(HR.o h).1 pb (m:Int)));generalize B D5 pa pb (m:Int)=n at*;go_wp2_with fail
       refine CB.o.mono ?_;rintro e w8 ⟨rfl,kF⟩;have lM:=τ HB kF;clear kF CB B8 LH;obtain⟨be2,oe2,MS,aGD,f0,f1⟩:=Bz ((aW.cA jh.o).below lM.o|>.mono lM.o.size) I7;cases MS;rw [Nat.zero_add] at f0 f1;rw [zE.o] at f0 f1;simp only at f0 f1;clear zE e0 e1;by_cases hn:n<0
       ·have aGY:5<=pa/\pa<=7:=by
         by_cases hf:qJ pa=aO
         ·unfold qJ at hf;simp only [Bool.or_eq_true,beq_iff_eq] at hf;omega
         have:=HN.o (by simpa using hf);omega
        have g1:¬pa<5:=by omega
        have g2:¬7<pa:=by omega
        have g3:(pa==1)=aP:=by simp;omega
        clear aGY HN oh;cases r
        all_goals
         go_wp2_with fail
         go_round
         case rel=>exact⟨j+1,by omega,by go_num,lM⟩
         case measure=>simp [af];omega
       cases r
       ·clear HN oh;go_wp2_with fail
        go_round
        case rel=>exact⟨j+1,by omega,by go_num,lM⟩
        case measure=>simp [af];omega
       by_cases h1:pa=1
       ·have ku:n=0:=oh.o rfl h1;subst ku;subst h1;clear HN oh;go_wp2_with fail
        go_round
        case rel=>exact⟨j+1,by omega,by go_num,lM⟩
        case measure=>simp [af];omega
       have g3:(pa==1)=aP:=by simpa using h1
       clear HN oh;go_wp2_with fail
       go_round
       case rel=>exact⟨j+1,by omega,by go_num,lM⟩
       case measure=>simp [af];omega
      obtain rfl:j=aA L:=by omega
      go_wp2_with fail
      go_round
      case rel=>exact⟨m+1,by omega,by go_num,HB⟩
      case measure=>simp [af];omega
    obtain rfl:m=aA x.ss+1:=by omega
    have Yo:=η (aHU B8.o);have aGn:aA D5.ob<=1024:=by obtain⟨C,K,-⟩:=B8.o.inv.jI;have:=K.ob.len;have:=K.ai;omega
    push_cast
    go_wp2_with fail
    refine Yo.o.mono ?_;rintro e w7 ⟨v7,rfl,Qf,fP⟩;obtain⟨A7,k7,rfl⟩:=bL Qf;have OE:Hid (qd w0 db hb x (1700*(k+1)) D5 w7):=η (by have:=B8.o.below fP;rwa [show 1700*(k+1)=1700*k+1700 by omega]);have kP:Hid (w7.ownsRow w3.heap.size 51 2 (aH (aC ⟨hb,0,aB⟩) (aA L) k4) (aA L) (gp L)):=η (gh jh.o (HB.o.trans (fP.mono HB.o.size)));have rP:=η (aW.cA Qf);clear Qf fP Yo B8 wT jh HB c0 c1 c2 c3 c4 c5 c6 c7 jk;go_wp2_with fail
    go_loop [17] (λi=>∃j:Nat,j<=aA D5.ob/\i=aG aF (j:Int)) (λi=>aA D5.ob-(af i).toNat)
    case atStart=>exact⟨0,bK _,rfl⟩
    case round=>
     obtain⟨j,hj,rfl⟩:=hrel;by_cases I7:j<aA D5.ob
     ·obtain⟨be,oe,jn,km,e0,e1,e2,e3,e4,e5⟩:=vx rP.o I7;have yb:(0:Int)<=(j:Int):=by omega
      have hjb:(j:Int)<(aA D5.ob:Int):=by omega
      have HST:=η (λh=>(HR.o h).2 D5.ob[j] (cH I7));generalize D5.ob[j]=y at*;cases jn;cases r
      ·go_wp2_with fail
       go_round
       case rel=>exact⟨j+1,by omega,by go_num⟩
       case measure=>simp [af];omega
      have hs1:(y.st==1)=aP:=by simpa using HST.o rfl
      clear HST;go_wp2_with fail
      go_round
      case rel=>exact⟨j+1,by omega,by go_num⟩
      case measure=>simp [af];omega
     obtain rfl:j=aA D5.ob:=by omega
     go_wp2_with fail
     go_round
     case rel=>exact⟨k+1,D5,by omega,by go_num,OE,kP⟩
     case measure=>simp [af];omega
  obtain rfl:k=aA l:=by omega
  have wM:=η (cC.o _ HI.o.bl);go_wp2_with fail
  refine(Us _).mono ?_;rintro e w9 ⟨rfl,hb⟩;have oX:Hid (aY w.heap.size w w9):=τ wM hb;clear hb;go_wp2_with fail
  go_ret;exact⟨rfl,oX.o⟩
end Go.Proofs.YtdokipdchlcmeaaGreat
namespace Go.Proofs.YtdokipdchlcmeaaGreat.cybal
open Go.Proofs.Tryz
open Go.ChangeShapes Go.WideShapes Go.ChangeAt Go.RowKit
theorem contract(H:Type)(enc:bY×aN->H)(W:aJ)(base:Nat)(args:Array aN)(ds gs:List (DataW H))(before:List MemPlace)
 (hval:∀(j:Nat) t v,Ed.params[j]? =aC t->args[j]? =aC v->Value.okWide aM W .any base t v)
 (hW:DataW.Whole enc aM Ed.params.toList Rows.cycleBalancesSpec.vars aP W args.toList ds gs before):
 aQ aM 6 args W λe W'=>∃v,e=aT v/\Rows.cycleBalancesSpec.post enc aM Ed aP aO aP aP W args v W':=by
 have Ex:=hW;obtain⟨p,q,hA,hV,rfl,vW,vg⟩:=hW;rw [params6] at hA hval;obtain⟨v0,vs0,d0,ds0,p0,q0,aMZ,rfl,rfl,h0,r0⟩:=trodAll_cons hA;obtain⟨v1,vs1,d1,ds1,p1,q1,rfl,rfl,rfl,h1,r1⟩:=trodAll_cons r0;obtain⟨rfl,rfl,rfl⟩:=trodAll_nil r1;obtain rfl:args= #[v0,v1]:=by cases args;simp_all
 obtain⟨x0,rfl,hC0,Qd,hs0,KO⟩:=aIh (hval 0 _ v0 rfl rfl) h0;obtain⟨a1,n1,k1,rfl⟩:=okWide_slice underlying27 (hval 1 _ v1 rfl rfl);obtain⟨A1,c1,z1,e1,oK,hc1,DV,hz1⟩:=aIg (aJt rfl h1);rw [e1] at Ex ⊢;refine tz (aD4 x0 z1 A1 c1 W hC0 Qd hs0 KO (bz oK hc1) (λy hy=>⟨(DV y hy).2.2.1,(DV y hy).2.2.2⟩) hz1 (λy hy=>⟨(DV y hy).1,(DV y hy).2.1⟩)) λe W' ⟨he,xE⟩=> ?_
 exact⟨_,he,aHY XG (by kernel_rfl) BN (by kernel_rfl) rfl Ex (λEk hd=>by
  have DY:aA Ek=2:=hd
  match Ek,DY with
  | [_,_],_=>rfl) xE⟩
theorem lifted(os:Os)(started:os.Started)(H:Type)(enc:bY×aN->H):
 ReturnsInHanded {} a0U os 6 .any (Rows.cycleBalancesSpec.pre6 enc aM Ed Rows.cycleBalancesRow.domain aP) (Rows.cycleBalancesSpec.post enc aM Ed aP aO aP aP):=by
 refine returnsInHanded_of_change (C:=a0U) aJ9 started (by kernel_rfl) PG
  (ChangeSpec.witness6 (enc:=enc) (C:=a0U) aP ⟨#[], #[(bQ #[aH aB 0 0,aH aB 0 0,aH aB 0 0,aG aF 0,aG aF 0,aG aF 0,aG aF 0,aG aF 0]:aN),aH aB 0 0],[]⟩ 8 (by kernel_rfl) (by kernel_rfl) (by kernel_rfl) (by kernel_rfl)) ?_
 intro W base args ds gs before hval hW _ _;exact contract H enc W base args ds gs before hval hW
theorem aCk {a b:Bool}(ha:a=aO)(hb:b=aO):(a&&b)=aO:=by rw [ha,hb];rfl
theorem facts:joinedFacts aM 6 Ed Rows.cycleBalancesSpec Rows.cycleBalancesRow=aO:=by
 unfold joinedFacts;repeat' with_reducible refine aCk ?_ ?_
 all_goals (as_aux_lemma=>kernel_rfl)
theorem named:aM.funcNamed Rows.cycleBalancesRow.func=aC 6:=by kernel_rfl
theorem inst:Ed.isInstance aM Rows.cycleBalancesRow.origin Rows.cycleBalancesRow.targs:=of_decide_eq_true (by kernel_rfl)
theorem wrap:Ed.isWrapper aM Rows.cycleBalancesRow.wrapper Rows.cycleBalancesRow.mainSum:=by unfold Func.isWrapper;first|(rw [ifP (by decide+kernel)];kernel_rfl)|(rw [ifN (by decide+kernel)];exact⟨rfl,rfl⟩)
theorem said:Rows.CycleBalancesSaid:=
 OpenClaim.holds_of_wide 6 Ed rfl rfl rfl rfl rfl rfl rfl ⟨rfl,rfl,rfl,rfl,rfl⟩ rfl rfl rfl rfl rfl named PG facts
  inst wrap (λos started H enc _=>lifted os started H enc)
end Go.Proofs.YtdokipdchlcmeaaGreat.cybal
