/-
  Several texts in one, for one claim (printed by pack.py).
-/
import Derived.Test.YtdokipdchlcmeaaGreatPe8
set_option linter.all false
set_option maxRecDepth 100000
set_option maxHeartbeats 12800000
open And renaming intro→kT
open Array renaming getElem?_eq_some_iff→fY,replicate→l9
open Bool renaming true→aO,false→aP,and_eq_true→jX,not_eq_true'→SC
open Go renaming World→aJ,Value→aN,Calls→aQ,Addr→ai,cell_of_row→bG,maxLen→bK,TypeId→bX,heap_alloc_new→cT,info_parts→dK,wpList_append_own→iw
open Go.Calls renaming mono→tT
open Go.Ending renaming returned→aU
open Go.Instr renaming makeSlice→OT
open Go.IntKind renaming i64→aF
open Go.IntWalk renaming i64_in→sM
open Go.Obj renaming cells→aK
open Go.Proofs renaming intOf→ag
open Go.Proofs.Tryz renaming prog→aM,underlying39→sU,func29→aAU,ntmps29→aBF
open Go.RowKit renaming Below→aa,wrap64→fV
open Go.RowKit.Below renaming refl→aX,size→gS,trans→jl,heap_setCell→nB
open Go.Value renaming int→aG,slice→aH,tuple→bB,pointer→bH,bool→bM,agg→bO,ownBlock→dx
open Go.World renaming ownsRow_nil→gC,cell?_of_block→gg,frozen?→iU
open Int renaming le_refl→dH,le_trans→jm,le_of_eq→rD,mul_le_mul_of_nonneg_right→LL
open List renaming length→aA,getElem_mem→cK,length_append→cL,take_length→cU,range→dQ,mem_map→dV,map_append→dY,mem_cons_of_mem→df,mem_cons→fC,take_succ_eq_append_getElem→fF,mem_append→gJ,replicate→gN,getElem?_eq_getElem→iA,length_map→iK,mem_filter→j6,any_eq_true→kK,zipWith→kL,pairwise_cons→kX,eq_nil_of_length_eq_zero→nG,mem_cons_self→oZ,length_filter_le→qN,getD_eq_getElem?_getD→sQ,mem_iff_getElem→sR,mem_append_left→uD,length_take→ur,pairwise_iff_getElem→uu,length_set→yA,map_cons→yB,pairwise_map→B8,foldl_cons→Ca,sum_append→Cc,length_zipWith→ED,mem_append_right→EE,sum_cons→EF,zipWith_cons_cons→EG,map_congr_left→JG,ext_getElem→LM,pairwise_append→LP,concat_eq_append→OX,eq_nil_or_concat→OY,contains_iff_mem→Tj,getElem_replicate→Tq,getElem_set_ne→Zm,getElem_set_self→Zn,take_append_of_le_length→Zq,flatten_append→a9Q
open List.Pairwise renaming and_mem→aLo
open Nat renaming le_refl→aZ,zero_le→bL,le_trans→cC,lt_of_lt_of_le→cR
open Option renaming none→aB,some→aC,getD_some→Og
open Option.some renaming inj→od
open Prod.mk renaming injEq→Om
namespace Go.Proofs.YtdokipdchlcmeaaGreat
open Go.Proofs.Tryz Go.RowKit
def wV(D:Dk)(d:Bd):Int:=if D.st≠2 then 11 else if nK D.x d≠0 then nK D.x d else if hasB D.who d.m=aO then 14 else if jE D d.c=0 then 8 else wT D.x D.bx d
def PG(D:Dk)(d:Bd):Dk:= {D with bx:=D.bx++ [{d with s:=(aA D.bx:Int)+1}],log:=D.log++ [⟨11,d.m,d.c,d.q,(aA D.bx:Int)+1⟩]}
def pW(D:Dk)(d:Bd):Dk:=if wV D d=0 then PG D d else D
def EK(D:Dk)(d:Bd):Int:=if wV D d=0 then (aA D.bx:Int)+1 else 0
theorem aCd {x y:ak}(h1:x.ms=y.ms)(h2:x.ss=y.ss)(d:Bd):nK x d=nK y d:=by obtain⟨ms,Am,cm,ss,As,cs,cy,Ac,cc,li,ca,le,tr,bi⟩:=x;obtain⟨ms',Am',cm',ss',As',cs',cy',Ac',cc',li',ca',Wv,tr',bi'⟩:=y;simp only at h1 h2;subst h1 h2;rfl
theorem aBw {x y:ak}(h1:x.ms=y.ms)(h2:x.ss=y.ss)(h3:x.bY=y.bY)(L:List Bd)(d:Bd):wT x L d=wT y L d:=by unfold wT;rw [aCd h1 h2,h3]
theorem bT.boxed {w w':aJ} {db:Nat} {p:Dp} {D:Dk} {v':aN} {Ln:List Bd}(H:bT w db p D)(hb:jY w' p.xb p.xc v' Ln)(hu:bC (λk=>k=p.xb\/p.xv.ownBlock=aC k) w w')(hs:∀k,v'.ownBlock=aC k->p.xv.ownBlock=aC k\/w.heap.size<=k):aq db p {D with bx:=Ln} w w':=by
 refine⟨{p with xv:=v'},H.box hu hb,rfl,rfl,rfl,rfl,hu.mono (λk hk=> .inl (.inr (.inr (.inr (.inl hk))))), ?_⟩;rintro k (e|e|e|(e|e)|e|e)
 ·exact .inl (.inl e)
 ·exact .inl (.inr (.inl e))
 ·exact .inl (.inr (.inr (.inl e)))
 ·exact .inl (.inr (.inr (.inr (.inl (.inl e)))))
 ·exact(hs k e).imp (λh=> .inr (.inr (.inr (.inl (.inr h))))) id
 ·exact .inl (.inr (.inr (.inr (.inr (.inl e)))))
 exact .inl (.inr (.inr (.inr (.inr (.inr e)))))
theorem aED(db:Nat)(p:Dp)(D:Dk)(d:Bd)(w:aJ)(H:bT w db p D)(hO:fZ D)(hI:d.ok)(hm:aA D.x.ms<=100000)(hs:aA D.x.ss<=100000)(hb:aL D.x.bY)(rT:D.st=2->nK D.x d=0->aL (balA (aA D.x.ms) (aA D.x.ss+1) D.l 1 0 d.c)):
 aQ aM 38 #[π db,d.val] w (CA db p (pW D d) (EK D d) (wV D d) w):=by
 obtain⟨ds,dm,dc,dq,dp⟩:=d;have J6:=η H.same;have hb0:β w ((w.alloc (aK #[ν ds,ν dm,ν dc,ν dq,ν dp] 41)).alloc (aK #[ν 2] 3)):=σ.alloc (by simp) _;have jI:=η (JY db p D 2 (aC ⟨w.heap.size+1,0,aB⟩) 1 _ (H.below hb0) (λj u hu=>⟨w.heap.size+1,0,rfl,by simp,by
  match j,hu with
  |0,hu=>exact(cM (w.alloc (aK #[ν ds,ν dm,ν dc,ν dq,ν dp] 41)) #[ν 2] 3 0 (by simp)).trans (by simpa using hu)
  |j+1,hu=>simp at hu⟩))
 have HF:=η H;have aY:=η hb0;have dC:Hid (((w.alloc (aK #[ν ds,ν dm,ν dc,ν dq,ν dp] 41)).alloc (aK #[ν 2] 3)).heap[w.heap.size]? =aC (aK #[ν ds,ν dm,ν dc,ν dq,ν dp] 41 (0,0))):=η ((fG _ _ (by simp)).trans (cT w _));have hz0:w.heap.size<((w.alloc (aK #[ν ds,ν dm,ν dc,ν dq,ν dp] 41)).alloc (aK #[ν 2] 3)).heap.size:=by simp;omega
 have mW:Hid (∀k,eY db p k->k<w.heap.size):=η (λk hk=>H.uR hk);clear hb0 H;have HE:Hid (wV D ⟨ds,dm,dc,dq,dp⟩=if D.st≠2 then 11 else if nK D.x ⟨ds,dm,dc,dq,dp⟩≠0 then nK D.x ⟨ds,dm,dc,dq,dp⟩ else if hasB D.who dm=aO then 14 else if jE D dc=0 then 8 else wT D.x D.bx ⟨ds,dm,dc,dq,dp⟩):=η rfl;have yi:Hid (∀er,wV D ⟨ds,dm,dc,dq,dp⟩=er->er≠0->∀W,β w W->CA db p (pW D ⟨ds,dm,dc,dq,dp⟩) (EK D ⟨ds,dm,dc,dq,dp⟩) (wV D ⟨ds,dm,dc,dq,dp⟩) w (aU (bB #[ν 0,ν er])) W):=η (λer h hn W hW=>by
  have e1:pW D ⟨ds,dm,dc,dq,dp⟩=D:=by unfold pW;rw [ifN (by rw [h];exact hn)]
  have e2:EK D ⟨ds,dm,dc,dq,dp⟩=0:=by unfold EK;rw [ifN (by rw [h];exact hn)]
  rw [e1,e2,h];exact⟨rfl,aq.bV HF.o hW⟩)
 have Sd:Hid (wV D ⟨ds,dm,dc,dq,dp⟩=0->∀W,aq db p (PG D ⟨ds,dm,dc,dq,dp⟩) w W->CA db p (pW D ⟨ds,dm,dc,dq,dp⟩) (EK D ⟨ds,dm,dc,dq,dp⟩) (wV D ⟨ds,dm,dc,dq,dp⟩) w (aU (bB #[ν ((aA D.bx:Int)+1),ν 0])) W):=η (λh W hW=>by
  have e1:pW D ⟨ds,dm,dc,dq,dp⟩=PG D ⟨ds,dm,dc,dq,dp⟩:=by unfold pW;rw [ifP h]
  have e2:EK D ⟨ds,dm,dc,dq,dp⟩=(aA D.bx:Int)+1:=by unfold EK;rw [ifP h]
  rw [e1,e2,h];exact⟨rfl,hW⟩)
 have pN:=η (λW (hW:β w W)=>a1Q D.x ⟨ds,dm,dc,dq,dp⟩ W (HF.o.below hW).src hm hs hI);have LC:=η (λW (hW:β w W) (h1:D.st=2) (h2:nK D.x ⟨ds,dm,dc,dq,dp⟩=0)=>Uq db p D dc W (HF.o.below hW) hO (rT h1 h2));have HAD:Hid (∀W,β w W->aQ aM 90 #[π p.xb,bO #[ν ds,ν dm,ν dc,ν dq,ν dp]] W (SF p.xb p.xc p.xv D.bx ⟨ds,dm,dc,dq,dp⟩ W)):=η (λW hW=>aLW p.xc p.xv D.bx ⟨ds,dm,dc,dq,dp⟩ p.xb W (HF.o.below hW).bx (HF.o.below hW).FK.src.ok (by rw [J6.o.1];exact hm) (by rw [J6.o.2.1];exact hs) hI (by have:=hO.bl;omega) (by rw [J6.o.2.2.2];exact hb));rw [show wT D.x D.bx ⟨ds,dm,dc,dq,dp⟩=wT p.xc D.bx ⟨ds,dm,dc,dq,dp⟩ from(aBw J6.o.1 J6.o.2.1 J6.o.2.2.2 _ _).symm] at HE;obtain⟨Aw,cw,hv⟩:=bJ HF.o.who;have sL:=η (λW (hW:β w W)=>(show aW W W.heap.size Aw (D.who.map (aG aF)) by have h1:=(HF.o.below hW).who;rw [hv] at h1;exact aW.cA h1));have xj:=η (λW (hW:β w W)=>MM D.who Aw cw dm W (sL.o W hW) (by have:=hO.wl;omega));have HC:=η (λW (hW:β w W)=>(HF.o.below hW).cells);have HV:=η hv;have Ae:Hid (aA D.log<=90000):=η hO.gl;clear hI hm hs hb rT hO hv sL;unfold ak.val Bd.val at pN;unfold Bd.val;generalize wV D ⟨ds,dm,dc,dq,dp⟩=ee at*;generalize pW D ⟨ds,dm,dc,dq,dp⟩=DW at*;generalize EK D ⟨ds,dm,dc,dq,dp⟩=dv at*;generalize nK D.x ⟨ds,dm,dc,dq,dp⟩=be at*;generalize hasB D.who dm=hw at*;generalize jE D dc=sv at*;go_enter func38,ntmps38
 by_cases h1:D.st=2
 case neg=>
  rw [ifP h1] at HE;rw [ifN h1] at jI;clear h1;go_wp2_with (go_at_call 51;refine jI.o.mono ?_;rintro e w1 ⟨rfl,hb1⟩;have aR:=τ aY hb1;clear hb1)
  go_ret2;exact yi.o 11 HE.o (by decide) _ aR.o
 rw [ifN (by simpa using h1)] at HE;rw [ifP h1] at jI;have H1:=η h1;clear h1;go_upto_region 4 with (go_at_call 51;refine jI.o.mono ?_;rintro e w4 ⟨rfl,hb4⟩;have ar:=τ aY hb4;have oY:=η ((hb4.block _ hz0).trans dC.o);have mM:=cR hz0 hb4.size;clear hb4)
 clear jI aY dC hz0;obtain⟨bx,bQ⟩:∃bx,bx=w.heap.size:=⟨_,rfl⟩;have dN:=η bQ;rw [<-bQ] at oY mM ⊢;clear bQ;have bP:Hid (¬eY db p bx):=η (λh=>by have:=mW.o bx h;rw [dN.o] at this;omega);have fL:Hid (∀W,β w4 W->W.cell? ⟨bx,0,aB⟩=aC (ν ds)/\W.cell? ⟨bx,1,aB⟩=aC (ν dm)/\W.cell? ⟨bx,2,aB⟩=aC (ν dc)/\W.cell? ⟨bx,3,aB⟩=aC (ν dq)/\W.cell? ⟨bx,4,aB⟩=aC (ν dp)):=η (λW hW=>by have hd:=(hW.block bx mM).trans oY.o;exact⟨ρ hd,ρ hd,ρ hd,ρ hd,ρ hd⟩);have eJ:Hid (∀W,β w4 W->β w W):=η (λW hW=>ar.o.trans (hW.mono ar.o.size));have kH:Hid (∀W,β w4 W->W.cell? ⟨db,0,aB⟩=aC (aH D.x.Am (aA D.x.ms) D.x.cm)/\W.cell? ⟨db,1,aB⟩=aC (aH D.x.As (aA D.x.ss) D.x.cs)/\W.cell? ⟨db,2,aB⟩=aC (aH D.x.Ac (aA D.x.cy) D.x.cc)/\W.cell? ⟨db,3,aB⟩=aC (ν D.x.line)/\W.cell? ⟨db,4,aB⟩=aC (ν D.x.bu)/\W.cell? ⟨db,5,aB⟩=aC (ν D.x.lead)/\W.cell? ⟨db,6,aB⟩=aC (ν D.x.tr)/\W.cell? ⟨db,7,aB⟩=aC (ν D.x.bY)/\W.cell? ⟨bx,0,aB⟩=aC (ν ds)/\W.cell? ⟨bx,1,aB⟩=aC (ν dm)/\W.cell? ⟨bx,2,aB⟩=aC (ν dc)/\W.cell? ⟨bx,3,aB⟩=aC (ν dq)/\W.cell? ⟨bx,4,aB⟩=aC (ν dp)):=η (λW hW=>by have c:=HC.o W (eJ.o W hW);exact⟨c.c0,c.c1,c.c2,c.c3,c.c4,c.c5,c.c6,c.c7,fL.o W hW⟩);have bU:β w4 w4.drew:=(aX _ _).drew;have hdd:=kH.o _ bU;go_region_held3 (λW=>W.cell? ⟨db,0,aB⟩=aC (aH D.x.Am (aA D.x.ms) D.x.cm)/\W.cell? ⟨db,1,aB⟩=aC (aH D.x.As (aA D.x.ss) D.x.cs)/\W.cell? ⟨db,2,aB⟩=aC (aH D.x.Ac (aA D.x.cy) D.x.cc)/\W.cell? ⟨db,3,aB⟩=aC (ν D.x.line)/\W.cell? ⟨db,4,aB⟩=aC (ν D.x.bu)/\W.cell? ⟨db,5,aB⟩=aC (ν D.x.lead)/\W.cell? ⟨db,6,aB⟩=aC (ν D.x.tr)/\W.cell? ⟨db,7,aB⟩=aC (ν D.x.bY)/\W.cell? ⟨bx,0,aB⟩=aC (ν ds)/\W.cell? ⟨bx,1,aB⟩=aC (ν dm)/\W.cell? ⟨bx,2,aB⟩=aC (ν dc)/\W.cell? ⟨bx,3,aB⟩=aC (ν dq)/\W.cell? ⟨bx,4,aB⟩=aC (ν dp)) (first|(with_reducible assumption)) ((go_at_call 88;refine(pN.o _ (eJ.o _ (by with_reducible assumption))).mono ?_;rintro e w5 ⟨rfl,dG⟩;have eH:β w4 w5:=jl (by with_reducible assumption) (dG.mono (gS (by with_reducible assumption)));have hcc:=kH.o _ eH))
 have cz:=η eH;clear dG eH bU hdd hcc kH pN;by_cases h2:be=0
 case neg=>
  have lO:(be==0)=aP:=by simpa using h2
  rw [ifP h2] at HE;have HB:=η h2;clear h2;go_wp2_with fail
  go_ret2;exact yi.o be HE.o HB.o _ (eJ.o _ cz.o)
 subst h2;rw [ifN (by simp)] at HE;have TQ:=η (λW (hW:β w W)=>LC.o W hW H1.o rfl);clear LC;go_upto_region 7 with (fail)
 have wL:Hid (∀W,β w4 W->W.cell? ⟨db,11,aB⟩=aC (aH Aw (aA D.who) cw)/\W.cell? ⟨bx,1,aB⟩=aC (ν dm)):=η (λW hW=>⟨by rw [<-HV.o];exact(HC.o W (eJ.o W hW)).c11,(fL.o W hW).2.1⟩);have bU:β w4 w5.drew:=cz.o.drew;have hdd:=wL.o _ bU;go_region_held3 (λW=>W.cell? ⟨db,11,aB⟩=aC (aH Aw (aA D.who) cw)/\W.cell? ⟨bx,1,aB⟩=aC (ν dm)) (first|(with_reducible assumption)) ((go_at_call 89;refine(xj.o _ (eJ.o _ (by with_reducible assumption))).mono ?_;rintro e w6 ⟨rfl,rfl⟩))
 have gz:=η bU;clear bU hdd wL xj cz;cases hh:hw with
 |true=>
  subst hh;rw [ifP rfl] at HE;go_wp2_with fail
  go_ret2;exact yi.o 14 HE.o (by decide) _ (eJ.o _ gz.o)
 |false=>
  subst hh;rw [ifN (by simp)] at HE;have b2:=(fL.o _ gz.o).2.2.1;by_cases h3:sv=0
  ·subst h3;rw [ifP rfl] at HE;go_wp2_with (go_at_call 69;refine(TQ.o _ (eJ.o _ gz.o)).mono ?_;rintro e w7 ⟨rfl,gD⟩;have ub:=τ gz gD;clear gD)
   go_ret2;exact yi.o 8 HE.o (by decide) _ (eJ.o _ ub.o)
  have WQ:(sv==0)=aP:=by simpa using h3
  rw [ifN h3] at HE;clear h3;go_upto_region 11 with (go_at_call 69;refine(TQ.o _ (eJ.o _ gz.o)).mono ?_;rintro e w7 ⟨rfl,gD⟩;have ub:=τ gz gD;clear gD)
  clear TQ gz b2;have zA:Hid (∀W,β w4 W->W.cell? ⟨db,10,aB⟩=aC (π p.xb)/\W.cell? ⟨bx,0,aB⟩=aC (ν ds)/\W.cell? ⟨bx,1,aB⟩=aC (ν dm)/\W.cell? ⟨bx,2,aB⟩=aC (ν dc)/\W.cell? ⟨bx,3,aB⟩=aC (ν dq)/\W.cell? ⟨bx,4,aB⟩=aC (ν dp)):=η (λW hW=>⟨(HC.o W (eJ.o W hW)).c10,fL.o W hW⟩);have Yb:Hid (∀W,β w4 W->aQ aM 90 #[π p.xb,bO #[ν ds,ν dm,ν dc,ν dq,ν dp]] W λe W'=>∃(n er:Int),e=aU (bB #[ν n,ν er])/\(W'.cell? ⟨db,10,aB⟩=aC (π p.xb)/\W'.cell? ⟨bx,0,aB⟩=aC (ν ds)/\W'.cell? ⟨bx,1,aB⟩=aC (ν dm)/\W'.cell? ⟨bx,2,aB⟩=aC (ν dc)/\W'.cell? ⟨bx,3,aB⟩=aC (ν dq)/\W'.cell? ⟨bx,4,aB⟩=aC (ν dp))/\((er≠0/\n=0/\ee=er/\β w4 W')\/(er=0/\n=(aA D.bx:Int)+1/\ee=0/\aq db p {D with bx:=D.bx++ [⟨(aA D.bx:Int)+1,dm,dc,dq,dp⟩]} w W'))):=η (λW hW=>by
   refine(HAD.o W (eJ.o W hW)).mono ?_;rintro e W' (⟨q1,rfl,q2⟩|⟨q1,v',rfl,q2,q3,q4⟩)
   ·have hb:β w4 W':=hW.trans (q2.mono hW.size);exact⟨0,_,rfl,zA.o W' hb,.inl ⟨q1,rfl,HE.o,hb⟩⟩
   have hd:=(HF.o.below (eJ.o W hW)).boxed q2 q3 q4;have qX:aq db p {D with bx:=D.bx++ [⟨(aA D.bx:Int)+1,dm,dc,dq,dp⟩]} w W':=aq.trans (bC.bV _ (eJ.o W hW)) (λ_ h=> .inl h) ⟨rfl,rfl,rfl,rfl⟩ hd;have hz:=cR mM hW.size;obtain⟨_,r0,r1,r2,r3,r4⟩:=zA.o W hW;refine⟨_,0,rfl,⟨?_,(hd.cell 0 hz bP.o).trans r0,(hd.cell 1 hz bP.o).trans r1,(hd.cell 2 hz bP.o).trans r2,(hd.cell 3 hz bP.o).trans r3,(hd.cell 4 hz bP.o).trans r4⟩,.inr ⟨rfl,rfl,HE.o.trans q1,qX⟩⟩;obtain⟨p3,H3,f1,f2,f3,f4,_⟩:=hd;rw [<-f3];exact H3.cells.c10)
  have bU:β w4 w7.drew:=ub.o.drew;have hdd:=zA.o _ bU;clear HAD HE HC;go_region_held3 (λW=>W.cell? ⟨db,10,aB⟩=aC (π p.xb)/\W.cell? ⟨bx,0,aB⟩=aC (ν ds)/\W.cell? ⟨bx,1,aB⟩=aC (ν dm)/\W.cell? ⟨bx,2,aB⟩=aC (ν dc)/\W.cell? ⟨bx,3,aB⟩=aC (ν dq)/\W.cell? ⟨bx,4,aB⟩=aC (ν dp)) (first|(with_reducible assumption)) ((go_at_call 90;refine(Yb.o _ (by with_reducible assumption)).mono ?_;rintro e w8 ⟨n,er,rfl,hcc,hor⟩))
  obtain⟨_,m0,m1,m2,m3,m4⟩:=hcc;clear bU hdd Yb zA;rcases hor with⟨q1,rfl,q2,q3⟩|⟨rfl,rfl,q2,q3⟩
  ·have lO:(er==0)=aP:=by simpa using q1
   have HB:=η (kT q1 (kT q2 q3));clear q1 q2 q3;go_wp2_with fail
   go_ret2;exact yi.o er HB.o.2.1 HB.o.1 _ (eJ.o _ HB.o.2.2)
  have HZ:=η q2;obtain⟨p3,q3⟩:=q3.q;have HQ:=η q3;clear q2 q3;have kU:=η (HQ.o.at.below ((aX w8.heap.size w8).alloc (aZ _) (aK #[ν 11,ν dm,ν dc,ν dq,ν ((aA D.bx:Int)+1)] 45)));have kW:=η (wx db p3 {D with bx:=D.bx++ [⟨(aA D.bx:Int)+1,dm,dc,dq,dp⟩]} [⟨11,dm,dc,dq,(aA D.bx:Int)+1⟩] w8.heap.size 1 _ kU.o (dM w8 45 #[ν 11,ν dm,ν dc,ν dq,ν ((aA D.bx:Int)+1)] rfl) (by simp) (by simp) (by have:=Ae.o;simp only;omega));have sH:=η (HQ.o.below ((aX w8.heap.size w8).alloc (aZ _) (aK #[ν 11,ν dm,ν dc,ν dq,ν ((aA D.bx:Int)+1)] 45)));clear HQ kU;go_wp2_with (go_at_call 55;refine kW.o.mono ?_;rintro e w9 ⟨rfl,h9⟩;obtain⟨p9,zq,_⟩:=sH.o.then h9;have lK:=η zq;clear h9 zq)
  go_ret2;exact Sd.o HZ.o _ lK.o.p
structure tU(w:aJ)(lb:Nat)(v:aN)(es:List En)(W:aJ):Prop where
 bl:β w W
 blk:W.heap[lb]? =aC (aK #[v] 101 (0,0))
 own:W.ownsRow w.heap.size 103 4 v (aA es) (qT es)
 lo:w.heap.size<=lb
theorem tU.lt {w W:aJ} {lb:Nat} {v:aN} {es:List En}(h:tU w lb v es W):lb<W.heap.size:=(fY.1 h.blk).1
theorem tU.below {w W W':aJ} {lb:Nat} {v:aN} {es:List En}(h:tU w lb v es W)(hb:aa W.heap.size W W'):tU w lb v es W':=
 ⟨h.bl.trans (hb.mono h.bl.size),(hb.block _ h.lt).trans h.blk,iI h.own hb,h.lo⟩
def gX(fk fm tk tm n:Int):List En:= [⟨fk,fm,0,-n⟩,⟨tk,tm,0,n⟩]
theorem aEm:(aM.info? 103).map (λi=>(i.zero,i.size,i.bytes))=aC (aC (bO #[aG aF 0,aG aF 0,aG aF 0,aG aF 0]),4,32):=by kernel_rfl
theorem aEn(es:List En):∀u∈qT es,u.oneCell'=aO:=by intro u hu;obtain⟨x,_,hx⟩:=List.mem_flatMap.1 hu;simp [En.cells] at hx;rcases hx with rfl|rfl|rfl|rfl<;>rfl
theorem PT(w:aJ)(lb:Nat)(v:aN)(es:List En)(fk fm tk tm n:Int)(W:aJ)(h:tU w lb v es W)(hn:aL n)(lf:0<=n)(hl:aA es<=1000):
 aQ aM 48 #[bO #[ν fk,ν fm],bO #[ν tk,ν tm],ν n,π lb] W λe W'=>e=aU (bB #[])/\∃v',tU w lb v' (es++gX fk fm tk tm n) W'/\bC (λk=>k=lb\/v.ownBlock=aC k) W W':=by
 obtain⟨i0,bj,hz0,hz1,hz2⟩:=dK aEm;have Ma:aF.wrap (-n)= -n:=vq (by unfold aL at*;omega);have af:Hid (β W (((W.alloc (aK #[ν fk,ν fm] 51)).alloc (aK #[ν tk,ν tm] 51)).alloc (aK #[ν fk,ν fm,ν 0,ν (-n),ν tk,ν tm,ν 0,ν n] 103))):=η ((σ.alloc (by simp) _).alloc (by simp;omega) _);have aV:Hid (β W ((W.alloc (aK #[ν fk,ν fm] 51)).alloc (aK #[ν tk,ν tm] 51))):=η (σ.alloc (by simp) _);have qp:=η (h.below af.o);have c2:((W.alloc (aK #[ν fk,ν fm] 51)).alloc (aK #[ν tk,ν tm] 51)).cell? ⟨lb,0,aB⟩=aC v:=bG _ _ _ _ _ (0,0) (h.below aV.o).blk;have HN:Hid (∀j u,([ν fk,ν fm,ν 0,ν (-n),ν tk,ν tm,ν 0,ν n]:List aN)[j]? =aC u->(((W.alloc (aK #[ν fk,ν fm] 51)).alloc (aK #[ν tk,ν tm] 51)).alloc (aK #[ν fk,ν fm,ν 0,ν (-n),ν tk,ν tm,ν 0,ν n] 103)).cell? ((⟨W.heap.size+1+1,0,aB⟩:ai).add j)=aC u):=η (dM _ 103 #[ν fk,ν fm,ν 0,ν (-n),ν tk,ν tm,ν 0,ν n] (by simp));go_enter func48,ntmps48
 go_wp2_with (at_builtin;refine iw _ rfl _ _ 101 rfl w.heap.size 103 i0 _ 4 32 underlying101 bj hz0 hz1 hz2 rfl (by decide) v (aA es) (qT es) rfl qp.o.own _ 2 _ [ν fk,ν fm,ν 0,ν (-n),ν tk,ν tm,ν 0,ν n] rfl rfl HN.o (aEn (gX fk fm tk tm n)) (by simp only [bK];omega) (by omega) qp.o.bl.size ?_)
 intro v' w4 gL hg4 _;obtain⟨A4,k4,hv4⟩:=bJ gL;subst hv4;have hne:v.ownBlock≠aC lb:=gM qp.o.own qp.o.blk (by decide);have hb4:=(hg4.block lb qp.o.lt (λe=>hne e.symm)).trans qp.o.blk;have c4:w4.cell? ⟨lb,0,aB⟩=aC v:=ρ hb4;have f4:w4.frozen? ⟨lb,0,aB⟩=aP:=by simp [iU,hb4]
 have hBL:β w w4:=EL qp.o.bl hg4 (λk hk=>(qp.o.own.lt k hk).1) qp.o.bl.size;have HR:Hid (tU w lb (aH A4 (aA es+2) k4) (es++gX fk fm tk tm n) (w4.setCell ⟨lb,0,aB⟩ (aH A4 (aA es+2) k4))):=η (by
  have jA:w4.ownsRow w.heap.size 103 4 (aH A4 (aA es+2) k4) (aA (es++gX fk fm tk tm n)) (qT (es++gX fk fm tk tm n)):=by rw [show aA (es++gX fk fm tk tm n)=aA es+2 from by simp [gX],show qT (es++gX fk fm tk tm n)=qT es++ [ν fk,ν fm,ν 0,ν (-n),ν tk,ν tm,ν 0,ν n] from by simp [qT,gX,En.cells]];exact gL
  exact⟨BD _ hBL qp.o.lo,(om hb4 0 _).trans rfl,jz jA (gM jA hb4 (by decide)) _,qp.o.lo⟩)
 have HU:Hid (bC (λk=>k=lb\/v.ownBlock=aC k) W (w4.setCell ⟨lb,0,aB⟩ (aH A4 (aA es+2) k4))):=η (((bC.bV _ af.o).trans (bC.I4 hg4 (λk hk=> .inl (.inr hk))) (λk hk=> .inl hk)).setCell (p:=⟨lb,0,aB⟩) (.inl (.inl rfl)) _);go_wp2
 go_end0
 exact⟨rfl,_,HR.o,HU.o⟩
def km(D:Dk)(k:Nat):Pr:=D.x.ms.getD k ⟨0,0⟩
def D7(D:Dk)(k:Nat):Bool:=decide ((km D k).a>1099511627776-balA (aA D.x.ms) (aA D.x.ss+1) D.l 8 ((k:Int)+1) 0)
def EN(D:Dk):Bool:=(dQ (aA D.x.ms)).any (D7 D)
def nN(D:Dk):Nat->List En
 |0=> []
 |k+1=>nN D k++gX 7 ((k:Int)+1) 8 ((k:Int)+1) (km D k).a++gX 7 ((k:Int)+1) 9 ((k:Int)+1) (km D k).b
def fT(D:Dk):List En:=nN D (aA D.x.ms)++gX 5 0 3 0 D.x.line++gX 6 0 4 0 D.x.bu
def Lv(D:Dk):Dk:= {D with en:=aO,l:=eK D (fT D)}
def Lx(D:Dk):Int:=if D.en=aO then 7 else if EN D=aO then 2 else lR (aA D.x.ms) (aA D.x.ss+1) D.l D.h (fT D)
def vD(D:Dk):Dk:=if D.en=aO then D else if EN D=aO then D else Lv D
theorem a2a(D:Dk)(k:Nat):aA (nN D k)=4*k:=by
 induction k with
 |zero=>rfl
 |succ k ih=>unfold nN;rw [cL,cL,ih];simp [gX];omega
structure IZ(D:Dk):Prop where
 ok:fZ D
 ml:aA D.x.ms<=100
 bI:∀k:Nat,k<aA D.x.ms->aL (1099511627776-balA (aA D.x.ms) (aA D.x.ss+1) D.l 8 ((k:Int)+1) 0)
 mI:∀x∈D.x.ms,(aL x.a/\0<=x.a)/\aL x.b/\0<=x.b
 li:aL D.x.line/\0<=D.x.line
 ca:aL D.x.bu/\0<=D.x.bu
theorem Qy {fk fm tk tm n:Int}(h1:aL fk)(h2:aL fm)(h3:aL tk)(h4:aL tm)(h5:aL n)(h6:0<=n):∀x∈gX fk fm tk tm n,x.ok:=by
 intro x hx;simp only [gX,fC,List.not_mem_nil,or_false] at hx;rcases hx with rfl|rfl
 ·exact⟨h1,h2,(by decide:aL 0),(by unfold aL at*;simp only;omega)⟩
 exact⟨h3,h4,(by decide:aL 0),h5⟩
theorem a5H {D:Dk}(P:IZ D) {k:Nat}(hk:k<aA D.x.ms):(aL (km D k).a/\0<=(km D k).a)/\aL (km D k).b/\0<=(km D k).b:=by unfold km;rw [sQ,iA hk];exact P.mI _ (cK hk)
theorem a2b {D:Dk}(P:IZ D):∀k,k<=aA D.x.ms->∀x∈nN D k,x.ok
 |0,_,x,hx=>by cases hx
 |k+1,hk,x,hx=>by
  have hI:aL ((k:Int)+1):=by have:=P.ml;unfold aL;omega
  obtain⟨⟨m1,m2⟩,m3,m4⟩:=a5H P (k:=k) (by omega);unfold nN at hx;rcases gJ.1 hx with hx|hx
  ·rcases gJ.1 hx with hx|hx
   ·exact a2b P k (by omega) x hx
   exact Qy (by decide) hI (by decide) hI m1 m2 x hx
  exact Qy (by decide) hI (by decide) hI m3 m4 x hx
theorem aEp {D:Dk}(P:IZ D):∀x∈fT D,x.ok:=by
 intro x hx;unfold fT at hx;rcases gJ.1 hx with hx|hx
 ·rcases gJ.1 hx with hx|hx
  ·exact a2b P _ (aZ _) x hx
  exact Qy (by decide) (by decide) (by decide) (by decide) P.li.1 P.li.2 x hx
 exact Qy (by decide) (by decide) (by decide) (by decide) P.ca.1 P.ca.2 x hx
theorem bT.aEl {w:aJ} {db:Nat} {p:Dp} {D:Dk}(H:bT w db p D)(b:Bool):cZ db p p {D with en:=b} w (w.setCell ⟨db,14,aB⟩ (bM b)):=
 ⟨H.PJ 14 (bM b) rfl rfl rfl rfl rfl rfl ⟨rfl,rfl,rfl,rfl,rfl,rfl,rfl⟩ H.who H.log,rfl,rfl,rfl,rfl,(bC.refl _ _).setCell (p:=⟨db,14,aB⟩) (.inl (.inl rfl)) _,λ_ h=> .inl h⟩
theorem a1y(db:Nat)(p:Dp)(D:Dk)(w:aJ)(H:bT w db p D)(P:IZ D):
 aQ aM 25 #[π db] w λe w'=>e=aU (ν (Lx D))/\aq db p (vD D) w w':=by
 have HF:=η H;have HP:=η P;have HE:Hid (Lx D=if D.en=aO then 7 else if EN D=aO then 2 else lR (aA D.x.ms) (aA D.x.ss+1) D.l D.h (fT D)):=η rfl;have HW:Hid (vD D=if D.en=aO then D else if EN D=aO then D else Lv D):=η rfl;have SV:Hid (EN D=(dQ (aA D.x.ms)).any (D7 D)):=η rfl;have ew:=η (λW (hW:β w W) m (hm:aL m)=>zW db p D 8 m 0 W (H.below hW) (by decide) hm);have Iw:=η (λW (hW:β w W)=>(aW.cA (H.below hW).cf.m));have HC:=η (λW (hW:β w W)=>(H.below hW).cells);have yN:=H.lt;have c14:=H.cells.c14;have iW:aA D.x.ms<=100:=P.ml;clear H P;generalize Lx D=ee at*;generalize vD D=DW at*;generalize EN D=eb at*;go_enter func25,ntmps25
 generalize hen:D.en=en at*;cases en with
 |true=>
  rw [ifP rfl] at HE HW;clear hen;go_wp2_with fail
  go_ret;exact⟨cY HE.o.symm,by rw [HW.o];exact aq.refl HF.o⟩
 |false=>
  rw [ifN (by simp)] at HE HW;have iY:=η hen;clear hen;have c0:=(HC.o w (aX _ _)).c0;generalize hM:aA D.x.ms=M at*;go_upto_region 6 with (fail)
  clear c0 c14;have oP:Hid (∀j,j<0->D7 D j=aP):=η (λj hj=>absurd hj (Nat.not_lt_zero _));have aY:Hid (β w w):=η (aX _ _);go_loopw [3,4,23] (λ_ _ i wr=>∃k:Nat,k<=M/\i=ν (k:Int)/\Hid (∀j,j<k->D7 D j=aP)/\Hid (β w wr)) (λ_ _ i _=>M-(ag i).toNat)
  case atStart=>exact⟨0,bL _,rfl,oP,aY⟩
  case round=>
   clear oP aY;obtain⟨k,hk,rfl,HN,HB⟩:=hrel;by_cases hlt:k<M
   ·have yO:k<aA D.x.ms:=by rw [hM];exact hlt
    obtain⟨bl,ol,kN,hbl,l0,l1⟩:=FB (Iw.o _ HB.o) yO;have eV:(0:Int)<=(k:Int):=by omega
    have hkb:(k:Int)<(M:Int):=by omega
    have pN:Hid (D7 D k=decide ((D.x.ms[k]).a>1099511627776-balA M (aA D.x.ss+1) D.l 8 ((k:Int)+1) 0)):=η (by unfold D7 km;rw [sQ,iA yO,hM];rfl);have yj:Hid (aL (1099511627776-balA M (aA D.x.ss+1) D.l 8 ((k:Int)+1) 0)):=η (by have h:=HP.o.bI k yO;rw [hM] at h;exact h);have Ei:aL ((k:Int)+1):=by unfold aL;omega
    have pM:=η (λW hW=>ew.o W hW ((k:Int)+1) Ei);have BU:aF.wrap ((k:Int)+1)=(k:Int)+1:=vq Ei;generalize D.x.ms[k]=x at*;obtain⟨xa,xb⟩:=x;simp only at l0 l1;generalize balA M (aA D.x.ss+1) D.l 8 ((k:Int)+1) 0=bq at*;have TZ:Hid (aF.wrap (1099511627776-bq)=1099511627776-bq):=η (vq yj.o);rw [<-BU] at pM;clear BU Ei;rw [kN] at*;have gz:Hid (β wr (wr.alloc (aK #[ν xa,ν xb] 67))):=η σ;have uA:Hid ((wr.alloc (aK #[ν xa,ν xb] 67)).heap[wr.heap.size]? =aC (aK #[ν xa,ν xb] 67 (0,0))):=η (cT wr _);have vW:wr.heap.size<(wr.alloc (aK #[ν xa,ν xb] 67)).heap.size:=by simp
    go_upto_region 8 with (fail)
    generalize wr.alloc (aK #[ν xa,ν xb] 67)=w6 at*;obtain⟨bx,bQ⟩:∃bx,bx=wr.heap.size:=⟨_,rfl⟩;rw [<-bQ] at uA vW ⊢;clear bQ l0 l1;have cE:Hid (β w w6):=η (HB.o.trans (gz.o.mono HB.o.size));have fL:Hid (∀W,β w6 W->W.cell? ⟨bx,0,aB⟩=aC (ν xa)):=η (λW hW=>bG _ _ _ _ _ (0,0) ((hW.block bx vW).trans uA.o));have eJ:Hid (∀W,β w6 W->β w W):=η (λW hW=>cE.o.trans (hW.mono cE.o.size));have bU:β w6 w6.drew:=(aX _ _).drew;have hdd:=fL.o _ bU;clear HB gz uA;go_region_held3 (λW=>W.cell? ⟨bx,0,aB⟩=aC (ν xa)) (first|(with_reducible assumption)) (first|(go_at_call 47;with_reducible refine tT (zQ (aF.wrap ((k:Int)+1)) _) ?_;rintro e wa ⟨rfl,mF⟩;have yL:β w6 wa:=jl (by with_reducible assumption) (mF.mono (gS (by with_reducible assumption)));have qV:=fL.o _ yL)|(go_at_call 46;with_reducible refine tT (pM.o _ (eJ.o _ (by with_reducible assumption))) ?_;rintro e wb ⟨rfl,js⟩;have rP:β w6 wb:=jl (by with_reducible assumption) (js.mono (gS (by with_reducible assumption)));have hcb:=fL.o _ rP))
    all_goals
     rw [TZ.o];by_cases hc:1099511627776-bq<xa
     ·have Ki:Hid (eb=aO):=η (by rw [SV.o];exact a1J hlt (by rw [pN.o];exact decide_eq_true hc));have mV:Hid (ee=2):=η (by rw [HE.o,ifP Ki.o]);have gB:Hid (DW=D):=η (by rw [HW.o,ifP Ki.o]);have wA:=η (eJ.o _ rP);clear mF yL qV js rP hcb bU hdd;go_wp2_with fail
      go_ret;exact⟨cY mV.o.symm,by rw [gB.o];exact aq.bV HF.o wA.o⟩
     have hc2:xa<=1099511627776-bq:=by omega
     have ui:Hid (∀i,i<k+1->D7 D i=aP):=η (λi hi=>by
      rcases Nat.lt_succ_iff_lt_or_eq.1 hi with h|rfl
      ·exact HN.o i h
      rw [pN.o];exact decide_eq_false (by simpa using hc))
     have wA:=η (eJ.o _ rP);clear mF yL qV js rP hcb bU hdd HN;go_wp2_with fail
     go_roundw
     case rel=>exact⟨k+1,by omega,by go_num,ui,wA⟩
     case measure=>simp [ag];omega
   obtain rfl:k=M:=by omega
   have Ki:Hid (¬eb=aO):=η (by rw [SV.o,a1K (λi hi=>HN.o i hi)];simp);rw [ifN Ki.o] at HE HW;clear HN SV Ki ew;have aR:Hid (tU w wr.heap.size (aH aB 0 0) (nN D 0) (wr.alloc (aK #[aH aB 0 0] 101))):=η ⟨HB.o.trans ((aX _ _).alloc HB.o.size _),cT wr _,gC _ _ _ _,HB.o.size⟩;have hzl:wr.heap.size<(wr.alloc (aK #[aH aB 0 0] 101)).heap.size:=by simp
   go_upto_region 13 with (fail)
   generalize wr.alloc (aK #[aH aB 0 0] 101)=w2 at*;obtain⟨lb,hlb⟩:∃lb,lb=wr.heap.size:=⟨_,rfl⟩;rw [<-hlb] at aR hzl ⊢;clear hlb HB;have c0:=(HC.o w2 aR.o.bl).c0;rw [hM] at c0;go_upto_region 14 with (fail)
   clear c0;have iP:Hid (∃v,tU w lb v (nN D 0) w2):=η ⟨_,aR.o⟩;clear aR;go_loopw [7,8,45] (λ_ _ i wr=>∃j:Nat,j<=k/\i=ν (j:Int)/\Hid (∃v,tU w lb v (nN D j) wr)) (λ_ _ i _=>k-(ag i).toNat)
   case atStart=>exact⟨0,bL _,rfl,iP⟩
   case round=>
    clear iP;obtain⟨j,hj,rfl,uf⟩:=hrel;obtain⟨v,hv⟩:=uf.o;have HI:=η hv;clear uf hv;by_cases hlt:j<k
    ·have yO:j<aA D.x.ms:=by rw [hM];exact hlt
     obtain⟨bl,ol,kN,hbl,l0,l1⟩:=FB (Iw.o _ HI.o.bl) yO;have eV:(0:Int)<=(j:Int):=by omega
     have hkb:(j:Int)<(k:Int):=by omega
     have ZE:Hid (km D j=D.x.ms[j]):=η (by unfold km;rw [sQ,iA yO];rfl);have uh:=η (a5H HP.o yO);have CI:Hid (nN D (j+1)=nN D j++gX 7 ((j:Int)+1) 8 ((j:Int)+1) (km D j).a++gX 7 ((j:Int)+1) 9 ((j:Int)+1) (km D j).b):=η rfl;rw [ZE.o] at uh CI;have hjw:(j:Int)+1=aF.wrap ((j:Int)+1):=(vq (by unfold aL;omega)).symm;rw [hjw] at CI;have CH:Hid (aA (nN D j)<=400):=η (by rw [a2a];omega);clear hjw ZE;generalize D.x.ms[j]=x at*;obtain⟨xa,xb⟩:=x;simp only at l0 l1;rw [kN] at*;have gz:Hid (β wr (wr.alloc (aK #[ν xa,ν xb] 67))):=η σ;have uA:Hid ((wr.alloc (aK #[ν xa,ν xb] 67)).heap[wr.heap.size]? =aC (aK #[ν xa,ν xb] 67 (0,0))):=η (cT wr _);have vW:wr.heap.size<(wr.alloc (aK #[ν xa,ν xb] 67)).heap.size:=by simp
     go_upto_region 16 with (fail)
     generalize wr.alloc (aK #[ν xa,ν xb] 67)=w6 at*;obtain⟨bx,bQ⟩:∃bx,bx=wr.heap.size:=⟨_,rfl⟩;rw [<-bQ] at uA vW ⊢;clear bQ l0 l1;have qx:=η (HI.o.below gz.o);have fL:Hid (∀W,β w6 W->W.cell? ⟨bx,0,aB⟩=aC (ν xa)):=η (λW hW=>bG _ _ _ _ _ (0,0) ((hW.block bx vW).trans uA.o));have Ke:Hid (∀W,β w6 W->aQ aM 48 #[bO #[ν 7,ν (aF.wrap ((j:Int)+1))],bO #[ν 8,ν (aF.wrap ((j:Int)+1))],ν xa,π lb] W λe W'=>e=aU (bB #[])/\(∃v',tU w lb v' (nN D j++gX 7 (aF.wrap ((j:Int)+1)) 8 (aF.wrap ((j:Int)+1)) xa) W')/\W'.heap[bx]? =aC (aK #[ν xa,ν xb] 67 (0,0))/\W'.cell? ⟨bx,0,aB⟩=aC (ν xa)):=η (λW hW=>by
      have hE:=qx.o.below hW;have oC:=(hW.block bx vW).trans uA.o;refine(PT w lb v (nN D j) 7 (aF.wrap ((j:Int)+1)) 8 (aF.wrap ((j:Int)+1)) xa W hE uh.o.1.1 uh.o.1.2 (by have:=CH.o;omega)).mono ?_;rintro e W' ⟨q1,v',q2,q3⟩;have Py:W'.heap[bx]? =aC (aK #[ν xa,ν xb] 67 (0,0)):=(q3.keep bx (fY.1 oC).1 (λh=>by
       rcases h with h|h
       ·subst h;have:=oC.symm.trans hE.blk;simp at this
       exact gM hE.own oC (by decide) h)).trans oC
      exact⟨q1,⟨v',q2⟩,Py,ρ Py⟩)
     have bU:β w6 w6.drew:=(aX _ _).drew;have hdd:=fL.o _ bU;clear HI gz;go_region_held3 (λW=>W.cell? ⟨bx,0,aB⟩=aC (ν xa)) (first|(with_reducible assumption)) (first|(go_at_call 47;with_reducible refine tT (zQ (aF.wrap ((j:Int)+1)) _) ?_;rintro e wa ⟨rfl,mF⟩;have yL:β w6 wa:=jl (by with_reducible assumption) (mF.mono (gS (by with_reducible assumption)));have qV:=fL.o _ yL)|(go_at_call 49;with_reducible refine tT (EM (aF.wrap ((j:Int)+1)) _) ?_;rintro e wb ⟨rfl,js⟩;have rP:β w6 wb:=jl (by with_reducible assumption) (js.mono (gS (by with_reducible assumption)));have hcb:=fL.o _ rP)|(go_at_call 48;with_reducible refine tT (Ke.o _ (by with_reducible assumption)) ?_;rintro e wc ⟨rfl,Vb,a3Z,VZ⟩))
     all_goals
      have Yw:=η Vb;have dN:=η a3Z;clear Vb a3Z VZ mF yL qV js rP hcb bU hdd fL Ke uA qx;obtain⟨v8,Qa⟩:=Yw.o;have yt:=η Qa;have hz8:bx<wc.heap.size:=(fY.1 dN.o).1;clear Qa Yw vW;go_upto_region 17 with (fail)
      have fL:Hid (∀W,β wc W->W.cell? ⟨bx,1,aB⟩=aC (ν xb)):=η (λW hW=>bG _ _ _ _ _ (0,0) ((hW.block bx hz8).trans dN.o));have Ke:Hid (∀W,β wc W->aQ aM 48 #[bO #[ν 7,ν (aF.wrap ((j:Int)+1))],bO #[ν 9,ν (aF.wrap ((j:Int)+1))],ν xb,π lb] W λe W'=>e=aU (bB #[])/\(∃v',tU w lb v' (nN D (j+1)) W')/\W'.cell? ⟨bx,1,aB⟩=aC (ν xb)):=η (λW hW=>by
       have hE:=yt.o.below hW;have oC:=(hW.block bx hz8).trans dN.o;refine(PT w lb v8 _ 7 (aF.wrap ((j:Int)+1)) 9 (aF.wrap ((j:Int)+1)) xb W hE uh.o.2.1 uh.o.2.2 (by rw [cL];have:=CH.o;simp [gX];omega)).mono ?_;rintro e W' ⟨q1,v',q2,q3⟩;have Py:W'.heap[bx]? =aC (aK #[ν xa,ν xb] 67 (0,0)):=(q3.keep bx (fY.1 oC).1 (λh=>by
        rcases h with h|h
        ·subst h;have:=oC.symm.trans hE.blk;simp at this
        exact gM hE.own oC (by decide) h)).trans oC
       exact⟨q1,⟨v',by rw [CI.o];exact q2⟩,ρ Py⟩)
      have bU:β wc wc.drew:=(aX _ _).drew;have hdd:=fL.o _ bU;go_region_held3 (λW=>W.cell? ⟨bx,1,aB⟩=aC (ν xb)) (first|(with_reducible assumption)) (first|(go_at_call 49;with_reducible refine tT (EM (aF.wrap ((j:Int)+1)) _) ?_;rintro e wd ⟨rfl,js⟩;have rP:β wc wd:=jl (by with_reducible assumption) (js.mono (gS (by with_reducible assumption)));have hcb:=fL.o _ rP)|(go_at_call 48;with_reducible refine tT (Ke.o _ (by with_reducible assumption)) ?_;rintro e we ⟨rfl,Vc,VZ⟩))
      all_goals
       have HIE:=η Vc;clear Vc VZ js rP hcb bU hdd fL Ke;go_wp2_with fail
       go_roundw
       case rel=>exact⟨j+1,by omega,by go_num,HIE⟩
       case measure=>simp [ag];omega
    obtain rfl:j=k:=by omega
    have Dx:Hid (fT D=nN D j++gX 5 0 3 0 D.x.line++gX 6 0 4 0 D.x.bu):=η (by unfold fT;rw [hM]);have FW:Hid (aA (nN D j)<=400):=η (by rw [a2a];omega);have Yh:=η (λW v (h:tU w lb v (nN D j) W)=>PT w lb v (nN D j) 5 0 3 0 D.x.line W h HP.o.li.1 HP.o.li.2 (by have:=FW.o;omega));have ud:=η (λW v (h:tU w lb v (nN D j++gX 5 0 3 0 D.x.line) W)=>PT w lb v _ 6 0 4 0 D.x.bu W h HP.o.ca.1 HP.o.ca.2 (by rw [cL];have:=FW.o;simp [gX];omega));rw [<-Dx.o] at ud;have c3:=(HC.o _ HI.o.bl).c3;have aFm:=(HF.o.below HI.o.bl).lt;clear Iw Dx;go_upto_region 20 with (go_at_call 48;refine(Yh.o _ v HI.o).mono ?_;rintro e w3 ⟨rfl,v3,rQ,_⟩;have wF:=η rQ;clear rQ)
    have c4:=(HC.o _ wF.o.bl).c4;have aFn:=(HF.o.below wF.o.bl).lt;clear c3 aFm HI;go_upto_region 21 with (go_at_call 48;refine(ud.o _ v3 wF.o).mono ?_;rintro e w4 ⟨rfl,v4,vL,_⟩;have qw:=η vL;clear vL)
    have pR:=η (cZ.bV HF.o qw.o.bl);clear c4 aFn wF Yh ud;have aFo:=pR.o.at.lt;have c14:=pR.o.at.cells.c14;have f14:w4.frozen? ⟨db,14,aB⟩=aP:=by have hb:=pR.o.at.blk;simp [iU,hb]
    go_upto_region 22 with (fail)
    obtain⟨A4,k4,hv4⟩:=bJ qw.o.own;subst hv4;have oU:=η (pR.o.trans (pR.o.at.aEl aO));have aG5:lb≠db:=by rintro rfl;have:=pR.o.at.blk.symm.trans qw.o.blk;simp at this
    have dG:(w4.setCell ⟨db,14,aB⟩ (bM aO)).heap[lb]? =aC (aK #[aH A4 (aA (fT D)) k4] 101 (0,0)):=(nB _ _ _ _ aG5).trans qw.o.blk;have fK:Hid ((w4.setCell ⟨db,14,aB⟩ (bM aO)).ownsRow w.heap.size 103 4 (aH A4 (aA (fT D)) k4) (aA (fT D)) (qT (fT D))):=η (jz qw.o.own (gM qw.o.own pR.o.at.blk (by decide)) _);have cz:=η dG;have Aj:Hid (w.heap.size<=lb):=η qw.o.lo;clear dG qw pR c14 f14 aFo;generalize w4.setCell ⟨db,14,aB⟩ (bM aO)=w5 at*;have Mv:lb<w5.heap.size:=(fY.1 cz.o).1;have xt:Hid (∀W,β w5 W->W.cell? ⟨db,8,aB⟩=aC (π p.vb)/\W.cell? ⟨lb,0,aB⟩=aC (aH A4 (aA (fT D)) k4)):=η (λW hW=>⟨(oU.o.at.below hW).cells.c8,bG _ _ _ _ _ (0,0) ((hW.block lb Mv).trans cz.o)⟩);have dP:Hid (fZ {D with en:=aO}):=η ⟨HP.o.ok.lI,HP.o.ok.hl,HP.o.ok.wl,HP.o.ok.gl,HP.o.ok.ob,HP.o.ok.bl,HP.o.ok.st⟩;have Yn:Hid (∀x∈fT D,x.ok):=η (aEp HP.o);have Ym:Hid (aA (fT D)<=1000):=η (by unfold fT;rw [cL,cL,hM];have:=FW.o;simp [gX];omega);have ZN:Hid (∀W,β w5 W->aQ aM 50 #[π p.vb,aH A4 (aA (fT D)) k4] W λe W'=>e=aU (ν ee)/\aq db p (Lv D) W W'/\W'.cell? ⟨db,8,aB⟩=aC (π p.vb)/\W'.cell? ⟨lb,0,aB⟩=aC (aH A4 (aA (fT D)) k4)):=η (λW hW=>by
     have HH:=oU.o.at.below hW;refine(Y7 p.vb p.vp (aA D.x.ms) (aA D.x.ss+1) (aA D.x.ms) D.l D.h (fT D) A4 k4 W HH.vt (aW.cA (iI fK.o hW)) Yn.o dP.o.lI (by have:=dP.o.hl;simp only at this;omega) (by have:=Ym.o;omega)).mono ?_;intro e W' h;obtain⟨q1,q2⟩:=HH.moved h;have hn:¬eY db p lb:=λh=>by have h1:=HF.o.uR h;have h2:=Aj.o;omega
     obtain⟨_,r1⟩:=xt.o W hW;have r2:=(q2.cell 0 (cR Mv hW.size) hn).trans r1;obtain⟨p3,H3,f1,f2,f3,f4,px,hs3⟩:=q2;exact⟨by rw [HE.o,<-hM];exact q1,⟨p3,H3,f1,f2,f3,f4,px,hs3⟩,by rw [<-f1];exact H3.cells.c8,r2⟩)
    have bU:β w5 w5.drew:=(aX _ _).drew;have hdd:=xt.o _ bU;clear dP Yn Ym fK FW;go_region_held3 (λW=>W.cell? ⟨db,8,aB⟩=aC (π p.vb)/\W.cell? ⟨lb,0,aB⟩=aC (aH A4 (aA (fT D)) k4)) (first|(with_reducible assumption)) ((go_at_call 50;with_reducible refine tT (ZN.o _ (by with_reducible assumption)) ?_;rintro e w6 ⟨rfl,hpt,Vt⟩))
    obtain⟨p6,q6,_⟩:=(oU.o.below bU).then hpt;have oV:=η q6;clear q6 hpt Vt bU hdd ZN xt oU;go_wp2_with fail
    go_ret;exact⟨rfl,by rw [HW.o];exact oV.o.p⟩
section
theorem a7s {w:aJ} {ops:Array Oper} {rest:List Oper} {o:Oper} {a:Act} {Q:Exit->Act->aJ->Prop}(hgd:o.guard=aB)(s x:Operand)
 (ho:o.op= .call {callee:= .builtin .append,args:= #[s,x],argTypes:= #[39,39]}) (base:Nat)
 (v:aN) (n:Nat) (xs:List aN) (hs:a.eval s=v) (hown:w.ownsRow base 76 3 v n xs)
 (A:Option ai) (c:Nat) (L:List Lg) (hx:a.eval x=aH A (aA L) c) (hz:sN w A c L) (hlen:n+aA L<=1000000) (hbase:base<=w.heap.size)
 (h:∀v' w',w'.ownsRow base 76 3 v' (n+aA L) (xs++bA L)->w.grownBy w' v.ownBlock->(v'.ownBlock=v.ownBlock\/v'.ownBlock=aC w.heap.size)->wpList aM ops Q rest (a.put o.dst v') w'):wpList aM ops Q (o::rest) a w:=by
 obtain⟨i0,bj,hz0,hz1,hz2⟩:=dK N3;cases A with
 |none=>
  obtain⟨h1,rfl⟩:=hz.nil rfl;obtain rfl:L= []:=nG h1;refine wpList_append_own_none hgd s x 39 ho base 76 i0 3 sU bj v n xs hs hown hx (h v w (by simpa [bA] using hown) ⟨rfl,rfl,rfl,aZ _,λ_ _ _=>rfl⟩ (.inl rfl))
 |some ad=>
  refine wpList_append_own_at w hgd s x 39 ho base 76 i0 _ 3 24 sU bj hz0 hz1 hz2 rfl (by decide) v n xs hs hown ad (aA L) c (bA L) hx (a4m L) ?_ (a4n L) (by simp only [bK];omega) (by omega) hbase ?_
  ·intro j u hu;obtain⟨b,o',e,_,hc⟩:=hz.dh j u hu;have e:=od e;subst e;have ea:(⟨b,o',aB⟩:ai).add j=⟨b,o'+j,aB⟩:=by unfold Addr.add;split<;>simp_all
   rw [ea];exact hc
  intro v' w' h1 h2 _ h4;exact h v' w' h1 h2 h4
def TL:List bX:= [76,39]
theorem bT.far {w w':aJ} {db:Nat} {p:Dp} {D:Dk}(H:bT w db p D) {S:Nat->Prop}(hu:bC S w w')(hS:∀k,S k->Ty w TL k):bT w' db p D:=by
 have no:∀ {T:List bX} {k:Nat},Ty w T k->(∀t∈T,t∉TL)->¬S k:=λhk hd hs=>hk.apart (hS _ hs) hd
 exact⟨(hu.keep db H.lt (no H.ty (by decide))).trans H.blk,H.cf.upd hu (λk hk=>no hk (by decide)),H.vt.upd hu (λk hk=>no (H.vt.ty hk) (by decide)),H.sh.upd hu (λk hk=>no hk (by decide)),H.bx.upd hu (λk hk=>no hk (by decide)),H.FK.upd hu (λk hk=>no hk (by decide)),H.same,hu.own H.who (λk hk=>no (Ty.own H.who hk) (by decide)),hu.own H.log (λk hk=>no (Ty.own H.log hk) (by decide))⟩
theorem cZ.far {w wr w':aJ} {db:Nat} {p pk:Dp} {D:Dk}(hq:cZ db p pk D w wr) {S:Nat->Prop}(hu:bC S wr w')(hS:∀k,S k->Ty wr TL k)(hn:∀k,S k->w.heap.size<=k):cZ db p pk D w w':=by obtain⟨H,e1,e2,e3,e4,tI,vR⟩:=hq;refine⟨H.far hu hS,e1,e2,e3,e4, ?_,vR⟩;exact tI.trans hu (λk hk=> .inr (hn k hk))
structure mY(w:aJ)(db:Nat)(pk:Dp)(gb:Nat)(cs:List aN)(GS:List (List Lg))(lv:aN)(LK:List Lg)(wr:aJ):Prop where
 BO:wr.heap[gb]? =aC (aK cs.toArray 39 (0,0))
 Jf:¬eY db pk gb
 M8:w.heap.size<=gb
 len:aA cs=aA GS
 each:∀j (h:j<aA GS),∃A c,cs[j]? =aC (aH A (aA (GS[j])) c)/\iE db pk wr A (bA GS[j])/\(bA GS[j]≠ []->∀q,A=aC q->q.block≠gb/\lv.ownBlock≠aC q.block)
 own:wr.ownsRow w.heap.size 76 3 lv (aA LK) (bA LK)
 NB:∀k,lv.ownBlock=aC k->¬eY db pk k
section
variable {w wr w':aJ} {db:Nat} {pk:Dp} {gb:Nat} {cs:List aN} {GS:List (List Lg)} {lv:aN} {LK:List Lg} (H:mY w db pk gb cs GS lv LK wr)
include H
theorem mY.yK:gb<wr.heap.size:=(fY.1 H.BO).1
theorem mY.step {p':Dp} {D':Dk}(hq:cZ db pk p' D' wr w'):mY w db p' gb cs GS lv LK w':=by
 have hq':=hq;obtain⟨_,_,_,_,_,hu,hs⟩:=hq;refine⟨(hu.keep gb H.yK H.Jf).trans H.BO,λh=> ?_,H.M8,H.len,λj h=> ?_,hu.own H.own H.NB,λk hk h=> ?_⟩
 ·rcases hs _ h with h1|h1
  ·exact H.Jf h1
  have:=H.yK;omega
 ·obtain⟨A,c,h1,h2,h3⟩:=H.each j h;exact⟨A,c,h1,h2.step hq',h3⟩
 rcases hs _ h with h1|h1
 ·exact H.NB k hk h1
 have:=(H.own.lt k hk).2;omega
theorem mY.below(hb:aa wr.heap.size wr w'):mY w db pk gb cs GS lv LK w':=by refine⟨(hb.block gb H.yK).trans H.BO,H.Jf,H.M8,H.len,λj h=> ?_,iI H.own hb,H.NB⟩;obtain⟨A,c,h1,h2,h3⟩:=H.each j h;exact⟨A,c,h1,h2.below hb,h3⟩
theorem mY.cell {j:Nat}(h:j<aA GS):∃A c,wr.cell? ⟨gb,j,aB⟩=aC (aH A (aA (GS[j])) c)/\iE db pk wr A (bA GS[j]):=by obtain⟨A,c,h1,h2,_⟩:=H.each j h;refine⟨A,c, ?_,h2⟩;rw [bG wr gb j _ _ (0,0) H.BO];simpa using h1
theorem mY.ngl:lv.ownBlock≠aC gb:=gM H.own H.BO (by decide)
theorem mY.put {j:Nat}(hj:j<aA GS) {A:Option ai} {c:Nat} {G:List Lg} {w0:aJ}(ho:nw db pk w0 wr A c G)(hg:gb<w0.heap.size)(hl:∀k,lv.ownBlock=aC k->k<w0.heap.size):mY w db pk gb (cs.set j (aH A (aA G) c)) (GS.set j G) lv LK (wr.setCell ⟨gb,j,aB⟩ (aH A (aA G) c)):=by
 have hb:∀k,k≠gb->(wr.setCell ⟨gb,j,aB⟩ (aH A (aA G) c)).heap[k]? =wr.heap[k]? :=λk hk=>nB _ _ _ _ hk
 have hsz:(wr.setCell ⟨gb,j,aB⟩ (aH A (aA G) c)).heap.size=wr.heap.size:=by simp
 have Jy:∀ {B:Option ai} {xs:List aN},iE db pk wr B xs->(xs≠ []->∀q,B=aC q->q.block≠gb)->iE db pk (wr.setCell ⟨gb,j,aB⟩ (aH A (aA G) c)) B xs:=by intro B xs h1 h2;refine⟨?_,h1.o⟩;rw [hsz];intro i u hu;obtain⟨b,o,e,hb',hc⟩:=h1.dh i u hu;refine⟨b,o,e,hb', ?_⟩;rw [<-hc];exact gg (a:=⟨b,o+i,aB⟩) (hb b (h2 (by rintro rfl;simp at hu) _ e))
 refine⟨?_,H.Jf,H.M8,by rw [yA,yA];exact H.len,λi hi=> ?_,jz H.own H.ngl _,H.NB⟩
 ·rw [om H.BO j _];simp
 rw [yA] at hi;by_cases rR:j=i
 ·subst rR;refine⟨A,c,by rw [List.getElem?_set];simp [H.len,hi], ?_, ?_⟩
  ·rw [Zn];exact Jy ho.o (λ_ q hq e=>by have:=ho.new q hq;omega)
  rw [Zn];exact λ_ q hq=>⟨λe=>by have:=ho.new q hq;omega,λe=>by have h1:=ho.new q hq;have h2:=hl _ e;omega⟩
 obtain⟨B,d,h1,h2,h3⟩:=H.each i hi;refine⟨B,d,by rw [List.getElem?_set,ifN rR];rw [Zm rR];exact h1, ?_, ?_⟩
 ·rw [Zm rR];exact Jy h2 (λhx q hq=>(h3 hx q hq).1)
 rw [Zm rR];exact h3
theorem mY.more {yR:aN} {K:List Lg} {n:Nat}(hn:n=aA (LK++K))(ho:w'.ownsRow w.heap.size 76 3 yR n (bA (LK++K)))(hg:wr.grownBy w' lv.ownBlock)(ha:yR.ownBlock=lv.ownBlock\/yR.ownBlock=aC wr.heap.size)(hlt:∀k,eY db pk k->k<wr.heap.size):mY w db pk gb cs GS yR (LK++K) w':=by
 subst hn;refine⟨(hg.block gb H.yK (λe=>H.ngl e.symm)).trans H.BO,H.Jf,H.M8,H.len,λj h=> ?_,ho,λk hk h=> ?_⟩
 ·obtain⟨A,c,h1,h2,h3⟩:=H.each j h;refine⟨A,c,h1,⟨?_,h2.o⟩,λhx q hq=>⟨(h3 hx q hq).1,λe=> ?_⟩⟩
  ·intro i u hu;obtain⟨b,o,e,hb,hc⟩:=h2.dh i u hu;refine⟨b,o,e,cR hb hg.size, ?_⟩;rw [<-hc];have hx:bA GS[j]≠ []:=by intro e0;rw [e0] at hu;simp at hu
   exact gg (a:=⟨b,o+i,aB⟩) (hg.block b hb (λe'=>(h3 hx _ e).2 e'.symm))
  rcases ha with ha|ha
  ·rw [ha] at e;exact(h3 hx q hq).2 e
  rw [ha] at e;injection e with e;have:=a6e h2.dh hx q hq;omega
 rcases ha with ha|ha
 ·exact H.NB k (ha▸hk) h
 rw [ha] at hk;injection hk with hk;have:=hlt k h;omega
theorem mY.upd {n:Nat} {D:Dk} {p:Dp}(hq:cZ db p pk D w wr)(hg:wr.grownBy w' lv.ownBlock):cZ db p pk D w w':=
 hq.far (S:=λk=>lv.ownBlock=aC k) (bC.I4 hg (λk hk=> .inl hk)) (λk hk=>(Ty.own H.own hk).mono (by decide)) (λk hk=>(H.own.lt k hk).1)
theorem mY.a7h {D:Dk} {p:Dp}(hq:cZ db p pk D w wr)(j:Nat)(u:aN):cZ db p pk D w (wr.setCell ⟨gb,j,aB⟩ u):=
 hq.far (S:=λk=>k=gb) ((bC.refl (λk=>k=gb) wr).setCell (p:=⟨gb,j,aB⟩) (.inl rfl) u) (λk hk=>⟨_,_,by decide,hk▸H.BO⟩) (λk hk=>hk▸H.M8)
end
end
inductive vu(D:Dk):Nat->Dk->Prop
 |zero:vu D 0 D
 |succ {n:Nat} {E E':Dk}:vu D n E->IW E ((n:Int)+1) E'->vu D (n+1) E'
def hands(E:Dk):Nat->Dk
 |0=>E
 |n+1=>Ea (hands E n) ((n:Int)+1)
def rN(E:Dk)(N:Nat):Nat->List (List Lg)
 |0=>gN (N+1) []
 |k+1=>(rN E N k).set (k+1) (jP (hands E k) ((k:Int)+1))
def iM(E:Dk):Nat->List Lg
 |0=> []
 |k+1=>iM E k++oB (hands E k) ((k:Int)+1)
theorem aFW(E:Dk)(N k:Nat):aA (rN E N k)=N+1:=by
 induction k with
 |zero=>simp [rN]
 |succ k ih=>unfold rN;rw [yA];exact ih
def F6(GS:List (List Lg))(lost:List Lg)(E:Dk)(x:Ob):Dk:= {E with ob:=lQ x.m x.a (rj x.a (-x.az) (ofV x.m (GS.getD x.a.toNat [])) (decide (ofV x.m lost>0))) (Bh (-x.az) (ofV x.m (GS.getD x.a.toNat []))) E.ob}
def rh(GS:List (List Lg))(lost:List Lg)(E:Dk)(L:List Ob):Dk:=L.foldl (F6 GS lost) E
theorem aHM {GS:List (List Lg)} {lost:List Lg} {E:Dk} {L:List Ob} {k:Nat}(h:k<aA L):rh GS lost E (L.take (k+1))=F6 GS lost (rh GS lost E (L.take k)) L[k]:=by rw [fF h];unfold rh;rw [List.foldl_append];rfl
def sq(D:Dk):List Ob:=D.ob.filter λx=>x.st==1&&(λx=>decide (x.az<0)) x
def nh(E:Dk):Dk:=hands E (aA E.x.ss)
def pJ(E:Dk):List Lg:=iM E (aA E.x.ss)
def eT(E:Dk):Dk:=I8 (nh E) (pJ E)
def tS(E:Dk):List (List Lg):=(rN E (aA E.x.ss) (aA E.x.ss)).set 0 (iu (nh E) (pJ E))
def Br(E:Dk):List Lg:=mQ (nh E) (pJ E)
def iX(E:Dk):Dk:=rh (tS E) (Br E) (eT E) (sq (eT E))
def NT(E:Dk):Dk:=leaveD (iX E) ((iX E).x.ss.length+1)
def pI(E:Dk):Dk:= {NT E with bx:= [],st:=0}
def JM(D D':Dk):Prop:=(D.st≠2/\D'=D)\/(D.st=2/\∃E,vu D (aA D.x.ss) E/\D'=pI E)
def IC(D:Dk):Int:=if D.st=2 then 0 else 11
structure OQ(D:Dk)(s:Int):Prop where
 b:aL (balA (aA D.x.ms) (aA D.x.ss+1) D.l 1 0 s)
 O:∀k,k<=aA (jP D s)->fZ (ij D ((jP D s).take k))
 I:∀x∈jP D s,aL x.m/\aL x.a/\aL x.n/\0<=x.n
 l:aA (jP D s)<=80000
 g:(ij D (jP D s)).log.length+aA (oB D s)<=90000
 k:aA (oB D s)<=400
structure Zx(E:Dk):Prop where
 sl:aA E.x.ss<=1000
 hand:∀k,k<aA E.x.ss->OQ (hands E k) ((k:Int)+1)
 lk:∀k,k<=aA E.x.ss->aA (iM E k)<=400
 pay:Oh (nh E) (pJ E)
 ol:(eT E).ob.length<=1024
 cl:∀x∈sq (eT E),0<=x.a/\x.a<((aA E.x.ss+1:Nat):Int)/\aL x.az/\fj<x.az
 mO:∀k,k<=aA (sq (eT E))->fZ (rh (tS E) (Br E) (eT E) ((sq (eT E)).take k))
 gl:∀G∈tS E,aA G<=100000
 ll:aA (Br E)<=100000
 vO:∀k,k<=(iX E).x.ss.length+1->fZ (leaveD (iX E) k)
 vI:∀k,k<=(iX E).x.ss.length->aL (balA (iX E).x.ms.length ((iX E).x.ss.length+1) (leaveD (iX E) k).l 1 0 (k:Int))
 vs:(iX E).x.ss.length<=100000
structure Tx(D:Dk):Prop where
 sl:aA D.x.ss<=1000
 PH:∀n E,n<aA D.x.ss->vu D n E->SE E ((n:Int)+1)
 rest:∀E,vu D (aA D.x.ss) E->Zx E
theorem nw.a6g {db:Nat} {p:Dp} {w0 wr:aJ} {A:Option ai} {c:Nat} {L:List Lg}(h:nw db p w0 wr A c L) {gb:Nat}(hg:gb<w0.heap.size)(j:Nat)(u:aN):nw db p w0 (wr.setCell ⟨gb,j,aB⟩ u) A c L:=by
 refine⟨⟨?_,h.o.o⟩,h.new,h.nil⟩;have hsz:(wr.setCell ⟨gb,j,aB⟩ u).heap.size=wr.heap.size:=by simp
 rw [hsz];intro i v hv;obtain⟨b,o,e,hb,hc⟩:=h.o.dh i v hv;refine⟨b,o,e,hb, ?_⟩;rw [<-hc];exact gg (a:=⟨b,o+i,aB⟩) (nB _ _ _ _ (λe'=>by have h1:w0.heap.size<=b:=h.new _ e;simp only at e';omega))
theorem aHG(n:Nat):madeCells (aH aB 0 0).cells n=l9 n (aH aB 0 0):=by apply Array.toList_inj.1;have e:(aH aB 0 0).cells= #[aH aB 0 0]:=rfl;rw [e,toList_madeCells_one];simp
theorem aHI(n:Nat)(hn:n<=100000)(W:aJ):(OT 124 (aG aF (n:Int)) (aG aF (n:Int))).run aM W= .ok (aH (aC ⟨W.heap.size,0,aB⟩) n n) (W.alloc (aK (l9 n (aH aB 0 0)) 39)):=by
 have inf:(aM.info? 39).map (λi=>(i.zero,i.size,i.bytes))=aC (aC (aH aB 0 0),1,24):=by kernel_rfl
 obtain⟨i0,hi,hz0,hz1,hz2⟩:=dK inf;have h:=run_makeSlice (P:=aM) W 124 39 i0 _ underlying124 hi hz0 aF aF n n (by omega) (dH _) (by rw [hz1];simp;omega) (by rw [hz2];simp;omega) (by omega);rw [hz1] at h;simp only [Int.toNat_natCast,Nat.mul_one] at h;rw [aHG] at h;exact h
theorem aHJ(n:Nat)(hn:n<=10000)(W:aJ):(OT 124 (aG aF ((n:Int)+1)) (aG aF ((n:Int)+1))).run aM W= .ok (aH (aC ⟨W.heap.size,0,aB⟩) (n+1) (n+1)) (W.alloc (aK (l9 (n+1) (aH aB 0 0)) 39)):=by have h:=aHI (n+1) (by omega) W;rw [show (((n+1:Nat):Int))=(n:Int)+1 from by omega] at h;exact h
theorem bT.cleared {w:aJ} {db:Nat} {p:Dp} {D:Dk}(H:bT w db p D)(h:jY (w.setCell ⟨p.xb,8,aB⟩ (aH aB 0 0)) p.xb p.xc (aH aB 0 0) []):aq db p {D with bx:= []} w (w.setCell ⟨p.xb,8,aB⟩ (aH aB 0 0)):=
 H.boxed h ((bC.refl _ _).setCell (p:=⟨p.xb,8,aB⟩) (.inl (.inl rfl)) _) (λk hk=>by simp [dx] at hk)
theorem a2B(db:Nat)(p:Dp)(D:Dk)(w:aJ)(H:bT w db p D)(hP:D.st=2->Tx D):
 aQ aM 29 #[bH (aC ⟨db,0,aB⟩)] w λe w'=>e=aU (aG aF (IC D))/\∃D',JM D D'/\aq db p D' w w':=by
 have hb0:aa w.heap.size w (w.alloc (aK #[aG aF 2] 3)):=(aX _ _).alloc (aZ _) _;have jI:=η (JY db p D 2 (aC ⟨w.heap.size,0,aB⟩) 1 _ (H.below hb0) (λj u hu=>⟨w.heap.size,0,rfl,by simp,by
  match j,hu with
  |0,hu=>exact(cM w #[aG aF 2] 3 0 rfl).trans (by simpa using hu)
  |j+1,hu=>simp at hu⟩))
 have HF:=η H;have aY:=η hb0;clear hb0 H;by_cases h1:D.st=2
 case neg=>
  have e2:IC D=11:=by unfold IC;rw [ifN h1]
  have HR:Hid (JM D D):=η (.inl ⟨h1,rfl⟩);rw [ifN h1] at jI;rw [e2];clear h1 e2 hP;go_enter aAU,aBF
  go_wp2_with (go_at_call 51;refine jI.o.mono ?_;rintro e w1 ⟨rfl,hb1⟩;have aR:=τ aY hb1;clear hb1)
  go_ret;exact⟨rfl,D,HR.o,aq.bV HF.o aR.o⟩
 have HP:=η (hP h1);have e2:IC D=0:=by unfold IC;rw [ifP h1]
 have HR:Hid (∀E,vu D (aA D.x.ss) E->JM D (pI E)):=η (λE h=> .inr ⟨h1,E,h,rfl⟩);rw [ifP h1] at jI;rw [e2];have jf:aA D.x.ss<=1000:=HP.o.sl;clear h1 e2 hP;go_enter aAU,aBF
 go_upto_region 4 with (go_at_call 51;refine jI.o.mono ?_;rintro e w1 ⟨rfl,hb1⟩;have aR:=τ aY hb1;clear hb1)
 clear jI aY;have iP:Hid (∃E,vu D 0 E/\cZ db p p E w w1):=η ⟨D,.zero,cZ.bV HF.o aR.o⟩;have yN:=(HF.o.below aR.o).lt;have c1:=(HF.o.below aR.o).cells.c1;clear HF aR;generalize hN:aA D.x.ss=N at*;go_upto_region 5 with (fail)
 clear c1 yN;go_loopw [4,27] (λ_ i wr=>∃(k:Nat) (pk:Dp),k<=N/\i=aG aF (k:Int)/\Hid (∃E,vu D k E/\cZ db p pk E w wr)) (λ_ i _=>N-(ag i).toNat)
 case atStart=>exact⟨0,p,bL _,rfl,iP⟩
 case round=>
  clear iP;obtain⟨k,pk,hk,rfl,HQ⟩:=hrel;by_cases hlt:k<N
  ·have eV:(0:Int)<=(k:Int):=by omega
   have hkb:(k:Int)<(N:Int):=by omega
   have Kc:Hid (aQ aM 70 #[bH (aC ⟨db,0,aB⟩),aG aF ((k:Int)+1)] wr λe w'=>e=aU (bB #[])/\∃p',∃E,vu D (k+1) E/\cZ db p p' E w w'):=η (by obtain⟨E,hE,hq⟩:=HQ.o;refine(aEL db pk E ((k:Int)+1) wr hq.at (HP.o.PH k E (by rw [hN];exact hlt) hE)).mono ?_;rintro e w' ⟨h1,E',h2,h3⟩;obtain⟨p',h4,_⟩:=hq.then h3;exact⟨h1,p',E',.succ hE h2,h4⟩);go_wp2_with (go_at_call 70;refine Kc.o.mono ?_;rintro e w2 ⟨rfl,p2,h2⟩;have kG:=η h2;clear h2)
   go_roundw
   case rel=>exact⟨k+1,p2,by omega,by go_num,kG⟩
   case measure=>simp [ag];omega
  obtain rfl:k=N:=by omega
  obtain⟨E,hE,hq⟩:=HQ.o;have Az:=η hq;have TI:=η (HR.o E (by rw [hN] at*;exact hE));have dP:=η (HP.o.rest E (by rw [hN];exact hE));clear hE hq HQ HR HP hN hk hlt jf;have jf:aA E.x.ss<=1000:=dP.o.sl;have yN:=Az.o.at.lt;have c1:=Az.o.at.cells.c1;have kF:Hid (∀k,k<=aA E.x.ss->aA (iM E k)<=400):=η dP.o.lk;have Nw:Hid (∀k,k<aA E.x.ss->OQ (hands E k) ((k:Int)+1)):=η dP.o.hand;have mk:=aHJ (aA E.x.ss) (by omega) wr;have hG0:rN E (aA E.x.ss) 0=gN (aA E.x.ss+1) []:=rfl;have Aa:=η hG0;clear hG0;have Ko:Hid (hands E 0=E):=η rfl;have Ky:Hid (iM E 0= []):=η rfl;have xj:Hid (∀k,hands E (k+1)=Ea (hands E k) ((k:Int)+1)):=η (λ_=>rfl);have Yu:Hid (∀N k,rN E N (k+1)=(rN E N k).set (k+1) (jP (hands E k) ((k:Int)+1))):=η (λ_ _=>rfl);have FZ:Hid (∀k,iM E (k+1)=iM E k++oB (hands E k) ((k:Int)+1)):=η (λ_=>rfl);have Sh:Hid (nh E=hands E (aA E.x.ss)):=η rfl;have O0:Hid (pJ E=iM E (aA E.x.ss)):=η rfl;have Sb:Hid (tS E=(rN E (aA E.x.ss) (aA E.x.ss)).set 0 (iu (nh E) (pJ E))):=η rfl;have Ae:Hid (∀k,aA (rN E (aA E.x.ss) k)=aA E.x.ss+1):=η (λk=>aFW E _ k);generalize hM:aA E.x.ss=M at*;have kG:Hid (cZ db p pk (hands E 0) w (wr.alloc (aK (l9 (M+1) (aH aB 0 0)) 39))):=η (by rw [Ko.o];exact Az.o.below ((aX _ _).alloc (aZ _) _));have gT:Hid (mY w db pk wr.heap.size (gN (M+1) (aH aB 0 0)) (rN E M 0) (aH aB 0 0) (iM E 0) (wr.alloc (aK (l9 (M+1) (aH aB 0 0)) 39))):=η (by
   rw [Aa.o,Ky.o];refine⟨?_,λh=>by have:=Az.o.at.uR h;omega,Az.o.size,by simp,λj h=>⟨aB,0, ?_, ?_, ?_⟩,gC _ _ _ _,λk hk=>by simp [dx] at hk⟩
   ·rw [List.toArray_replicate];exact cT wr _
   ·have hj:j<M+1:=by simpa using h
    rw [List.getElem?_replicate,ifP hj,Tq];rfl
   ·rw [Tq];exact iE.nil
   rw [Tq];exact λh=>absurd rfl h)
  go_upto_region 9 with (fail)
  go_upto_region 10 with (fail)
  clear mk;generalize (wr.alloc (aK (l9 (M+1) (aH aB 0 0)) 39))=w2 at*;obtain⟨gb,hgb⟩:∃gb,gb=wr.heap.size:=⟨_,rfl⟩;rw [<-hgb] at gT ⊢;generalize gN (M+1) (aH aB 0 0)=cs0 at*;have yN:=kG.o.at.lt;have c1:=kG.o.at.cells.c1;rw [Ko.o,hM] at c1;clear hgb Aa Ky Az;go_upto_region 12 with (fail)
  clear c1 yN;have mX:Hid (∃cs,mY w db pk gb cs (rN E M 0) (aH aB 0 0) (iM E 0) w2):=η ⟨_,gT.o⟩;clear gT;go_loopw [6,7,8,9,49] (λlv _ _ _ i wr=>∃(k:Nat) (pk:Dp),k<=M/\i=aG aF (k:Int)/\Hid (cZ db p pk (hands E k) w wr)/\Hid (∃cs,mY w db pk gb cs (rN E M k) lv (iM E k) wr)) (λ_ _ _ _ i _=>M-(ag i).toNat)
  case atStart=>exact⟨0,pk,bL _,rfl,kG,mX⟩
  case round=>
   clear mX kG;obtain⟨k,pk,hk,rfl,HQ,uf⟩:=hrel;by_cases hlt:k<M
   ·have eV:(0:Int)<=(k:Int):=by omega
    have hkb:(k:Int)<(M:Int):=by omega
    obtain⟨cs,hi⟩:=uf.o;have HI:=η hi;clear hi uf;have Du:=η (Nw.o k hlt);have Yv:=η (aER db pk (hands E k) ((k:Int)+1) wr HQ.o.at Du.o.b Du.o.O Du.o.I Du.o.l Du.o.g (by have:=Du.o.k;omega));have a8f:=η (xj.o k);have a8d:=η (Yu.o M k);have a8i:=η (FZ.o k);have a8j:Hid (aA (iM E k)<=400):=η (kF.o k (by omega));have a8h:Hid (aA (oB (hands E k) ((k:Int)+1))<=400):=η Du.o.k;have Sc:=η (Ae.o k);clear Du;generalize jP (hands E k) ((k:Int)+1)=G at*;generalize oB (hands E k) ((k:Int)+1)=K at*;generalize Ea (hands E k) ((k:Int)+1)=E3 at*;go_upto_region 15 with (go_at_call 71;refine Yv.o.mono ?_;rintro e w3 ⟨A3,k3,B3,d3,p3,rfl,Ju,pn,BV⟩;have J2:=η (HQ.o.trans Ju);have wF:=η (HI.o.step Ju);have iZ:=η pn;have ZB:=η BV;clear Ju pn BV)
    clear Yv HQ;have qY:k+1<aA (rN E M k):=by rw [Sc.o];omega
    have Kt:=η qY;obtain⟨A9,n9,c9,g9⟩:∃A n c,w3.cell? ⟨gb,k+1,aB⟩=aC (aH A n c):=by obtain⟨A,c,h,_⟩:=wF.o.cell qY;exact⟨A,_,c,h⟩
    have f9:w3.frozen? ⟨gb,k+1,aB⟩=aP:=by have hb:=wF.o.BO;simp [iU,hb]
    have Mp:((k:Int)+1).toNat=k+1:=by omega
    have aFy:=wF.o.yK;clear qY;go_upto_region 16 with (fail)
    have qw:=η (wF.o.put Kt.o iZ.o HI.o.yK (λj hj=>(HI.o.own.lt j hj).2));have pR:=η (wF.o.a7h J2.o (k+1) (aH A3 (aA G) k3));have Sw:=η (ZB.o.a6g HI.o.yK (k+1) (aH A3 (aA G) k3));clear wF J2 ZB iZ HI g9 f9 Mp aFy Kt;generalize (w3.setCell ⟨gb,k+1,aB⟩ (aH A3 (aA G) k3))=w4 at*;go_wp2_with (at_builtin;refine a7s rfl _ _ rfl w.heap.size _ (aA (iM E k)) (bA (iM E k)) rfl qw.o.own B3 d3 K rfl ⟨Sw.o.o.dh,Sw.o.nil⟩ (by have:=a8j.o;have:=a8h.o;omega) pR.o.size ?_)
    intro yR w5 jA eZ ha5;have Kr:Hid (∃cs,mY w db p3 gb cs (rN E M (k+1)) yR (iM E (k+1)) w5):=η ⟨_,by rw [a8d.o,a8i.o];exact qw.o.more (n:=aA (iM E k)+aA K) (by simp) (by rw [show bA (iM E k++K)=bA (iM E k)++bA K from by simp [bA]];exact jA) eZ ha5 (λj hj=>pR.o.at.uR hj)⟩;have oU:Hid (cZ db p p3 (hands E (k+1)) w w5):=η (by rw [a8f.o];exact qw.o.upd (n:=0) pR.o eZ);clear jA eZ ha5 qw pR Sw;go_wp2_with fail
    go_roundw
    case rel=>exact⟨k+1,p3,by omega,by go_num,oU,Kr⟩
    case measure=>simp [ag];omega
   obtain rfl:k=M:=by omega
   obtain⟨cs,hi⟩:=uf.o;obtain⟨Al,cl,hlv⟩:=bJ hi.own;subst hlv;have HI:=η hi;have jQ:=HI.o.yK;clear hi uf Nw kF Yu FZ xj;have CS:Hid (Oh (hands E k) (iM E k)):=η (by have h:=dP.o.pay;rw [Sh.o,O0.o] at h;exact h);have E5:=η (aEa db pk (hands E k) (iM E k) Al cl wr HQ.o.at (aW.cA HI.o.own) CS.o);rw [<-Sh.o,<-O0.o] at E5;have hsp:eT E=I8 (nh E) (pJ E):=rfl;have a3r:Br E=mQ (nh E) (pJ E):=rfl;rw [<-hsp,<-a3r] at E5;have Sc:=η (Ae.o k);have Sv:Hid (aA (tS E)=k+1):=η (by rw [Sb.o,yA];exact Ae.o k);have tq:Hid ((eT E).ob.length<=1000000):=η (by have:=dP.o.ol;omega);have eC:aA (pJ E)=aA (iM E k):=by rw [O0.o]
   rw [eC] at E5;clear CS hsp a3r eC Ae Ko;go_upto_region 19 with (go_at_call 72;refine E5.o.mono ?_;rintro e w6 ⟨A6,c6,B6,d6,p6,rfl,Es,hn6,hm6⟩;have oV:=η (HQ.o.trans Es);have qx:=η (HI.o.step Es);have wH:=η hn6;have Iu:=η hm6;clear Es hn6 hm6)
   clear E5 HQ;have qY:0<aA (rN E k k):=by rw [Sc.o];omega
   have Kt:=η qY;obtain⟨A9,n9,c9,g9⟩:∃A n c,w6.cell? ⟨gb,0,aB⟩=aC (aH A n c):=by obtain⟨A,c,h,_⟩:=qx.o.cell qY;exact⟨A,_,c,h⟩
   have f9:w6.frozen? ⟨gb,0,aB⟩=aP:=by have hb:=qx.o.BO;simp [iU,hb]
   have aFz:=qx.o.yK;clear qY;go_upto_region 20 with (fail)
   have Nx:Hid (∃cs,mY w db p6 gb cs (tS E) (aH Al (aA (iM E k)) cl) (iM E k) (w6.setCell ⟨gb,0,aB⟩ (aH A6 (aA (iu (nh E) (pJ E))) c6))):=η ⟨_,by rw [Sb.o];exact qx.o.put Kt.o wH.o HI.o.yK (λj hj=>(HI.o.own.lt j hj).2)⟩;have qI:=η (qx.o.a7h oV.o 0 (aH A6 (aA (iu (nh E) (pJ E))) c6));have O7:=η (Iu.o.a6g HI.o.yK 0 (aH A6 (aA (iu (nh E) (pJ E))) c6));clear qx oV Iu wH HI g9 f9 aFz Kt Sb;generalize (w6.setCell ⟨gb,0,aB⟩ (aH A6 (aA (iu (nh E) (pJ E))) c6))=w7 at*;have c9':=qI.o.at.cells.c9;have aFp:=qI.o.at.lt;have SU:=η (aHv (eT E).ob p6.sv p6.sb 0 w7 qI.o.at.sh tq.o);have hce:((eT E).ob.filter λx=>x.st==1&&(λx=>decide (x.az<0)) x)=sq (eT E):=rfl;rw [hce] at SU;have jt:aA (sq (eT E))<=100000:=by have h1:aA (sq (eT E))<=(eT E).ob.length:=qN _ _;have:=dP.o.ol;omega
   have Yf:Hid (∀x∈sq (eT E),0<=x.a/\x.a<((k+1:Nat):Int)/\aL x.az/\fj<x.az):=η (by have h:=dP.o.cl;rw [hM] at h;exact h);have uh:Hid (∀j,j<=aA (sq (eT E))->fZ (rh (tS E) (Br E) (eT E) ((sq (eT E)).take j))):=η dP.o.mO;have Nv:Hid (∀G∈tS E,aA G<=100000):=η dP.o.gl;have mi:aA (Br E)<=100000:=dP.o.ll;have lx:=η mi;have yv:Hid (iX E=rh (tS E) (Br E) (eT E) (sq (eT E))):=η rfl;have ZW:Hid (NT E=leaveD (iX E) ((iX E).x.ss.length+1)):=η rfl;have FV:Hid (pI E= {NT E with bx:= [],st:=0}):=η rfl;have lH:=η (λW p' (h:bT W db p' (iX E))=>aEU db p' (iX E) W h dP.o.vO dP.o.vI dP.o.vs);rw [<-ZW.o] at lH;clear hce tq dP jQ hM Sh O0 ZW mi;go_upto_region 21 with (go_at_call 73;refine SU.o.mono ?_;rintro e w8 ⟨v8,rfl,WG,jr⟩;obtain⟨A8,k8,Qa⟩:=bJ WG;subst Qa;have tj:=η (iE.cA qI.o.at WG);have oW:=η (qI.o.below jr);have yt:Hid (∃cs,mY w db p6 gb cs (tS E) (aH Al (aA (iM E k)) cl) (iM E k) w8):=η (Exists.imp (λ_ h=>mY.below h jr) Nx.o);have ZC:=η (O7.o.below jr);clear WG jr)
   clear SU c9' aFp qI Nx O7;generalize tS E=GS at*;generalize Br E=lost at*;generalize eT E=P2 at*;generalize sq P2=L at*;have dt:Hid (cZ db p p6 (rh GS lost P2 (L.take 0)) w w8):=η oW.o;have qE:Hid (iE db p6 w8 B6 (bA lost)):=η ZC.o.o;clear oW ZC;go_loopw [13,14,83] (λ_ _ i wr=>∃(j:Nat) (pk:Dp),j<=aA L/\i=aG aF (j:Int)/\Hid (cZ db p pk (rh GS lost P2 (L.take j)) w wr)/\Hid (∃cs,mY w db pk gb cs GS (aH Al (aA (iM E k)) cl) (iM E k) wr)/\Hid (iE db pk wr B6 (bA lost))/\Hid (iE db pk wr A8 (fJ L))) (λ_ _ i _=>aA L-(ag i).toNat)
   case atStart=>exact⟨0,p6,bL _,rfl,dt,yt,qE,tj⟩
   case round=>
    clear dt yt qE tj;obtain⟨j,pk,hj,rfl,HQ,uf,O3,Np⟩:=hrel;by_cases hlt:j<aA L
    ·obtain⟨bl,ol,kN,hbl,l0,l1,l2,l3,l4,l5⟩:=xO Np.o.dh hlt;have zk:(0:Int)<=(j:Int):=by omega
     have hjb:(j:Int)<(aA L:Int):=by omega
     have HL:=η (aHM (GS:=GS) (lost:=lost) (E:=P2) hlt);have a8n:=η (uh.o j hj);have HX:=η (Yf.o _ (cK hlt));obtain⟨cs,hi⟩:=uf.o;have HI:=η hi;clear hi uf;have mW:Hid (∀i,eY db pk i->i<wr.heap.size):=η (λi hi=>HQ.o.at.uR hi);subst kN;generalize rh GS lost P2 (L.take j)=E1 at*;generalize L[j]=x at*;obtain⟨xc,xm,xa,xn,xd,xs⟩:=x;simp only at l0 l1 l2 l3 l4 l5;obtain⟨na,hna⟩:∃na:Nat,xa=(na:Int):=⟨xa.toNat,by have h:0<=xa:=HX.o.1;omega⟩;subst hna;have pA:na<k+1:=by have h:(na:Int)<((k+1:Nat):Int):=HX.o.2.1;omega
     have WE:na<aA GS:=by rw [Sv.o];exact pA
     have HM1:Hid (F6 GS lost E1 ⟨xc,xm,(na:Int),xn,xd,xs⟩= {E1 with ob:=lQ xm (na:Int) (rj (na:Int) (-xn) (ofV xm GS[na]) (decide (ofV xm lost>0))) (Bh (-xn) (ofV xm GS[na])) E1.ob}):=η (by unfold F6;simp only [Int.toNat_natCast];rw [show GS.getD na []=GS[na] from by rw [sQ,iA WE];rfl]);obtain⟨Ag,cg,hgc,hgo⟩:=HI.o.cell WE;have HGO:=η hgo;have Ys:=η hgc;have HGM:Hid (aA GS[na]<=100000):=η (Nv.o _ (cK WE));have hwn:aF.wrap (-xn)= -xn:=vq (by have h:aL xn/\fj<xn:=HX.o.2.2;unfold fj aL at*;omega);have lf:(0:Int)<=(na:Int):=by omega
     have mj:(na:Int)<(k:Int)+1:=by omega
     have xg:Hid (gb<wr.heap.size/\¬eY db pk gb):=η ⟨HI.o.yK,HI.o.Jf⟩;clear hgc hgo HX;generalize GS[na]=Gn at*;have sG:Hid (aa wr.heap.size wr ((wr.alloc (aK #[aG aF xc,aG aF xm,aG aF (na:Int),aG aF xn,aG aF xd,aG aF xs] 59)).alloc (aK #[aG aF xm,aG aF (na:Int),aG aF (-xn)] 76))):=η (((aX _ _).alloc (aZ _) _).alloc (by simp) _);have Za:Hid (((wr.alloc (aK #[aG aF xc,aG aF xm,aG aF (na:Int),aG aF xn,aG aF xd,aG aF xs] 59)).alloc (aK #[aG aF xm,aG aF (na:Int),aG aF (-xn)] 76)).heap[wr.heap.size]? =aC (aK #[aG aF xc,aG aF xm,aG aF (na:Int),aG aF xn,aG aF xd,aG aF xs] 59 (0,0))):=η ((fG _ _ (by simp)).trans (cT wr _));have Zd:Hid (((wr.alloc (aK #[aG aF xc,aG aF xm,aG aF (na:Int),aG aF xn,aG aF xd,aG aF xs] 59)).alloc (aK #[aG aF xm,aG aF (na:Int),aG aF (-xn)] 76)).heap[wr.heap.size+1]? =aC (aK #[aG aF xm,aG aF (na:Int),aG aF (-xn)] 76 (0,0))):=η (MS _ _ (by simp));have Mw:wr.heap.size+1<((wr.alloc (aK #[aG aF xc,aG aF xm,aG aF (na:Int),aG aF xn,aG aF xd,aG aF xs] 59)).alloc (aK #[aG aF xm,aG aF (na:Int),aG aF (-xn)] 76)).heap.size:=by simp
     go_upto_region 23 with (fail)
     have e1:(wr.alloc (aK #[aG aF xc,aG aF xm,aG aF (na:Int),aG aF xn,aG aF xd,aG aF xs] 59)).cell? ⟨wr.heap.size,1,aB⟩=aC (aG aF xm):=bG _ _ _ _ _ (0,0) (cT wr _);have e2:(wr.alloc (aK #[aG aF xc,aG aF xm,aG aF (na:Int),aG aF xn,aG aF xd,aG aF xs] 59)).cell? ⟨wr.heap.size,2,aB⟩=aC (aG aF (na:Int)):=bG _ _ _ _ _ (0,0) (cT wr _);have e3:(wr.alloc (aK #[aG aF xc,aG aF xm,aG aF (na:Int),aG aF xn,aG aF xd,aG aF xs] 59)).cell? ⟨wr.heap.size,3,aB⟩=aC (aG aF xn):=bG _ _ _ _ _ (0,0) (cT wr _);go_upto_region 24 with (fail)
     clear e1 e2 e3 l0 l1 l2 l3 l4 l5;generalize ((wr.alloc (aK #[aG aF xc,aG aF xm,aG aF (na:Int),aG aF xn,aG aF xd,aG aF xs] 59)).alloc (aK #[aG aF xm,aG aF (na:Int),aG aF (-xn)] 76))=w9 at*;obtain⟨bx,bQ⟩:∃bx,bx=wr.heap.size:=⟨_,rfl⟩;have dN:=η bQ;rw [<-bQ] at Za Zd Mw ⊢;clear bQ;have HF9:=η (HQ.o.at.below sG.o);have bP:Hid (¬eY db pk bx/\¬eY db pk (bx+1)):=η ⟨λh=>by have:=mW.o bx h;rw [dN.o] at this;omega,λh=>by have:=mW.o _ h;rw [dN.o] at this;omega⟩;obtain⟨gl,jQ⟩:∃gl,gl=aA Gn:=⟨_,rfl⟩;have Km:=η jQ;rw [<-jQ] at Ys;have bW:Hid (∀W,aa w9.heap.size w9 W->W.cell? ⟨bx+1,0,aB⟩=aC (aG aF xm)/\W.cell? ⟨bx+1,1,aB⟩=aC (aG aF (na:Int))/\W.cell? ⟨bx+1,2,aB⟩=aC (aG aF (-xn))/\W.cell? ⟨bx,1,aB⟩=aC (aG aF xm)/\W.cell? ⟨bx,2,aB⟩=aC (aG aF (na:Int))/\W.cell? ⟨gb,na,aB⟩=aC (aH Ag gl cg)):=η (λW hW=>by have hd:=(hW.block bx (by omega)).trans Za.o;have qX:=(hW.block (bx+1) Mw).trans Zd.o;have hg:=(hW.cell (p:=⟨gb,na,aB⟩) (cR xg.o.1 sG.o.size)).trans ((sG.o.cell (p:=⟨gb,na,aB⟩) xg.o.1).trans Ys.o);exact⟨bG _ _ _ _ _ (0,0) qX,bG _ _ _ _ _ (0,0) qX,bG _ _ _ _ _ (0,0) qX,bG _ _ _ _ _ (0,0) hd,bG _ _ _ _ _ (0,0) hd,hg⟩);have cF:Hid (∀W,aa w9.heap.size w9 W->aQ aM 75 #[aH Ag gl cg,aG aF xm] W λe w'=>e=aU (aG aF (ofV xm Gn))/\aa W.heap.size W w'):=η (λW hW=>by rw [Km.o];exact a1p Gn xm Ag cg W (((HGO.o.below sG.o).below hW).dh) HGM.o);have dB:Hid (∀W,aa w9.heap.size w9 W->aQ aM 75 #[aH B6 (aA lost) d6,aG aF xm] W λe w'=>e=aU (aG aF (ofV xm lost))/\aa W.heap.size W w'):=η (λW hW=>a1p lost xm B6 d6 W (((O3.o.below sG.o).below hW).dh) lx.o);have qy:Hid (∀W,aa w9.heap.size w9 W->aQ aM 74 #[bH (aC ⟨db,0,aB⟩),bO #[aG aF xm,aG aF (na:Int),aG aF (-xn)],aG aF (ofV xm Gn),bM (decide (ofV xm lost>0))] W λe W'=>e=aU (bB #[])/\aq db pk {E1 with ob:=lQ xm (na:Int) (rj (na:Int) (-xn) (ofV xm Gn) (decide (ofV xm lost>0))) (Bh (-xn) (ofV xm Gn)) E1.ob} W W'/\W'.cell? ⟨bx+1,0,aB⟩=aC (aG aF xm)/\W'.cell? ⟨bx+1,1,aB⟩=aC (aG aF (na:Int))/\W'.cell? ⟨bx+1,2,aB⟩=aC (aG aF (-xn))/\W'.cell? ⟨bx,1,aB⟩=aC (aG aF xm)/\W'.cell? ⟨bx,2,aB⟩=aC (aG aF (na:Int))/\W'.cell? ⟨gb,na,aB⟩=aC (aH Ag gl cg)):=η (λW hW=>by refine(aEW db pk E1 xm (na:Int) (-xn) (ofV xm Gn) (decide (ofV xm lost>0)) W (HF9.o.below hW) a8n.o).mono ?_;rintro e W' ⟨q1,q2⟩;have hz:=cR Mw hW.size;have hzg:=cR xg.o.1 (cC sG.o.size hW.size);obtain⟨r0,r1,r2,r3,r4,r5⟩:=bW.o W hW;exact⟨q1,q2,(q2.cell 0 hz bP.o.2).trans r0,(q2.cell 1 hz bP.o.2).trans r1,(q2.cell 2 hz bP.o.2).trans r2,(q2.cell 1 (by omega) bP.o.1).trans r3,(q2.cell 2 (by omega) bP.o.1).trans r4,(q2.cell na hzg xg.o.2).trans r5⟩);generalize ofV xm Gn=v1 at*;generalize ofV xm lost=v2 at*;clear jQ;have bU:aa w9.heap.size w9 w9.drew:=(aX _ _).drew;have hdd:=bW.o _ bU;go_region_held3 (λW=>W.cell? ⟨bx+1,0,aB⟩=aC (aG aF xm)/\W.cell? ⟨bx+1,1,aB⟩=aC (aG aF (na:Int))/\W.cell? ⟨bx+1,2,aB⟩=aC (aG aF (-xn))/\W.cell? ⟨bx,1,aB⟩=aC (aG aF xm)/\W.cell? ⟨bx,2,aB⟩=aC (aG aF (na:Int))/\W.cell? ⟨gb,na,aB⟩=aC (aH Ag gl cg)) (first|(with_reducible assumption)) (first|(go_at_call 75;with_reducible refine tT (cF.o _ (by with_reducible assumption)) ?_;rintro e wa ⟨rfl,mF⟩;have yL:aa w9.heap.size w9 wa:=jl (by with_reducible assumption) (mF.mono (gS (by with_reducible assumption)));have qV:=bW.o _ yL)|(go_at_call 75;with_reducible refine tT (dB.o _ (by with_reducible assumption)) ?_;rintro e wb ⟨rfl,js⟩;have rP:aa w9.heap.size w9 wb:=jl (by with_reducible assumption) (js.mono (gS (by with_reducible assumption)));have hcb:=bW.o _ rP)|(go_at_call 74;refine(qy.o _ (by with_reducible assumption)).mono ?_;rintro e wc ⟨rfl,DO,zn⟩))
     all_goals
      have CR:Hid (aq db pk (F6 GS lost E1 ⟨xc,xm,(na:Int),xn,xd,xs⟩) wr wc):=η (by rw [HM1.o];exact aq.trans (bC.bV _ (sG.o.trans (Below.mono (by with_reducible assumption) sG.o.size))) (λ_ h=> .inl h) ⟨rfl,rfl,rfl,rfl⟩ DO);obtain⟨pc,Mi,QT⟩:=HQ.o.then CR.o;have TF:Hid (cZ db p pc (rh GS lost P2 (L.take (j+1))) w wc):=η (by rw [HL.o];exact Mi);have Sk:Hid (∃cs,mY w db pc gb cs GS (aH Al (aA (iM E k)) cl) (iM E k) wc):=η ⟨_,HI.o.step QT⟩;have HLC:=η (O3.o.step QT);have AY:=η (Np.o.step QT);clear DO zn mF yL qV js rP hcb bU hdd bW cF dB qy HQ HI O3 Np Mi QT CR;go_wp2_with fail
      go_roundw
      case rel=>exact⟨j+1,pc,by omega,by go_num,TF,Sk,HLC,AY⟩
      case measure=>simp [ag];omega
    obtain rfl:j=aA L:=by omega
    rw [cU,<-yv.o] at HQ;clear uf O3 Np uh Yf Nv yv;go_upto_region 27 with (go_at_call 76;refine(lH.o _ pk HQ.o.at).mono ?_;rintro e wa ⟨rfl,ha⟩;obtain⟨pa,QR,_⟩:=HQ.o.then ha;have lK:=η QR;clear ha QR)
    have c10:=lK.o.at.cells.c10;have aFq:=lK.o.at.lt;have Zb:=η (aLY pa.xc pa.xv (NT E).bx pa.xb wa lK.o.at.bx);have Ye:Hid (jY (wa.setCell ⟨pa.xb,8,aB⟩ (aH aB 0 0)) pa.xb pa.xc (aH aB 0 0) []->aq db pa {NT E with bx:= []} wa (wa.setCell ⟨pa.xb,8,aB⟩ (aH aB 0 0))):=η (λh=>lK.o.at.cleared h);go_upto_region 28 with (go_at_call 77;refine Zb.o.mono ?_;rintro e wb ⟨rfl,rfl,bQ⟩;obtain⟨pb,Jv,_⟩:=lK.o.then (Ye.o bQ);have CT:=η Jv;clear bQ Jv)
    clear Zb Ye c10 aFq;generalize (wa.setCell ⟨pa.xb,8,aB⟩ (aH aB 0 0))=wb at*;have f13:wb.frozen? ⟨db,13,aB⟩=aP:=by have hb:=CT.o.at.blk;simp [iU,hb]
    have c13:=CT.o.at.cells.c13;have aM9:=CT.o.at.lt;go_wp2_with fail
    go_ret;refine⟨rfl,pI E,TI.o, ?_⟩;rw [FV.o];exact(CT.o.trans (CT.o.at.Rf 0)).p
section
def yJ(x:Ev):Int:=if x.k=5\/x.k=10\/x.k=12 then x.n else if x.k=6\/x.k=13\/x.k=16\/x.k=19 then-x.n else 0
def mf:List Ev->Int->Int
 | [],_=>0
 |x::l,a=>(if x.a=a then yJ x else 0)+mf l a
theorem D8(l r:List Ev)(a:Int):mf (l++r) a=mf l a+mf r a:=by
 induction l with
 |nil=>simp [mf]
 |cons x l ih=>grind [mf]
theorem D9(e:Ev)(a:Int):mf [e] a=if e.a=a then yJ e else 0:=by simp [mf]
def M0(S:Nat)(x:Ev):Prop:=0<=x.a/\x.a<=(S:Int)/\(1<=x.n\/x.k=4\/x.k=8)
structure LQ(S:Nat)(log:List Ev):Prop where
 ev:∀x∈log,M0 S x
 pre:∀k a,0<=mf (log.take k) a/\mf (log.take k) a<=5000000000000000000
theorem LQ.snoc {S:Nat} {log:List Ev} {e:Ev}(h:LQ S log)(he:M0 S e)(hp:∀a,0<=mf (log++ [e]) a/\mf (log++ [e]) a<=5000000000000000000):LQ S (log++ [e]):=by
 refine⟨λx hx=> ?_,λk a=> ?_⟩
 ·rcases gJ.1 hx with hx|hx
  ·exact h.ev x hx
  grind
 by_cases hk:k<=aA log
 ·rw [Zq hk];exact h.pre k a
 grind [List.take_of_length_le]
theorem JR {M A:Nat} {l:List Int} {k m a:Int}(h:plcA M A k m a=aB):balA M A l k m a=0:=by unfold balA;rw [h]
theorem Va {h:List Hr} {k m a:Int}(hh:∀r∈h,r.s=8)(hk:k≠8):iG h k m a=0:=by
 suffices H:∀(h:List Hr) (n:Int),(∀r∈h,r.s=8)->h.foldl (λn r=>if r.s==k&&r.m==m&&r.a==a then fV (n+r.n) else n) n=n from H h 0 hh
 intro h;induction h with
 |nil=>intro n _;rfl
 |cons r h ih=>
  grind
structure OU(M A:Nat)(C F:Int)(l:List Int):Prop where
 ok:nE M A l
 sr:∀m a,balA M A l 8 m a<=1099511627776
 zY:∀m a,balA M A l 9 m a<=F
 zx:∀a,balA M A l 3 0 a<=F
 cap:∀a,balA M A l 4 0 a<=F
 lo:∀m a,-C<=balA M A l 7 m a+balA M A l 8 m a-balA M A l 1 0 a
 hi:∀m a,balA M A l 7 m a+balA M A l 8 m a+balA M A l 1 0 a<=C
 es:∀a,balA M A l 2 0 a+balA M A l 1 0 a<=C
 big:C<=4611686018427387904+1125899906842624
 F0:F<=1099511627776
theorem nE.nn {M A:Nat} {l:List Int}(h:nE M A l) {k:Int}(hk:uK k=aP)(m a:Int):0<=balA M A l k m a:=by
 cases hp:plcA M A k m a with
 |none=>grind [JR]
 |some n=>exact h.pos k m a n hp hk
theorem OU.wide {M A:Nat} {C C' F:Int} {l:List Int}(h:OU M A C F l)(hc:C<=C')(hb:C'<=4611686018427387904+1125899906842624):OU M A C' F l:=
 ⟨h.ok,h.sr,h.zY,h.zx,h.cap,λm a=>by have:=h.lo m a;omega,λm a=>by have:=h.hi m a;omega,λa=>by have:=h.es a;omega,hb,h.F0⟩
theorem Qz {D:Dk} {fk fm tk tm a n:Int} {i j:Nat}(h:uU D fk fm tk tm a n=0)(hlen:aA D.l=(aA D.x.ss+1)*(6+3*aA D.x.ms))(hf:plcA (aA D.x.ms) (aA D.x.ss+1) fk fm a=aC i)(ht:plcA (aA D.x.ms) (aA D.x.ss+1) tk tm a=aC j)(k m b:Int):
 balA (aA D.x.ms) (aA D.x.ss+1) (bg D fk fm tk tm a n) k m b=balA (aA D.x.ms) (aA D.x.ss+1) D.l k m b+((if k=fk/\m=fm/\b=a then-n else 0)+(if k=tk/\m=tm/\b=a then n else 0)):=by
 cases hp:plcA (aA D.x.ms) (aA D.x.ss+1) k m b with
 |some z=>
  rw [aHb h hlen hp];grind
 |none=>
  grind [JR]
structure Fo(x:ak):Prop where
 ml:2<=aA x.ms/\aA x.ms<=16
 sl:1<=aA x.ss/\aA x.ss<=8
 cl:aA x.cy<=4
 mI:∀y∈x.ms,(0<=y.a/\y.a<=1099511627776)/\0<=y.b/\y.b<=1099511627776
 sI:∀y∈x.ss,(1<=y.a/\y.a<=1048576)/\y.a<=y.b/\y.b<=1048576
 li:0<=x.line/\x.line<=1099511627776
 ca:0<=x.bu/\x.bu<=1099511627776
 bd:1<=x.bY/\x.bY<=32
structure Le(M:Nat)(L:List Int):Prop where
 up:L.Pairwise (· < ·)
 pD:∀m∈L,1<=m/\m<=(M:Int)
theorem S5:∀ {L:List Int} {k:Nat} {lo:Int},L.Pairwise (· < ·)->(∀m∈L,lo<m/\m<=lo+(k:Int))->aA L<=k
 | [],k,_,_,_=>bL _
 |x::L,k,lo,h,hi=>by have hx:=hi x (by simp);rw [kX] at h;have:=S5 (L:=L) (k:=k-1) (lo:=x) h.2 (λm hm=>⟨h.1 m hm,by grind⟩);grind
theorem Le.len {M:Nat} {L:List Int}(h:Le M L):aA L<=M:=S5 (lo:=0) h.up (λm hm=>by have:=h.pD m hm;omega)
def dT(f:Ob->Int)(L:List Ob):Int:=(L.map f).sum
def pY(a:Int)(x:Ob):Int:=if x.st=1/\x.az<0/\x.a=a then-x.az else 0
def vB(a:Int)(x:Ob):Int:=if x.st=1/\0<x.az/\x.a=a then x.az else 0
def ou(a:Int)(x:Ob):Int:=if x.st=1/\0<x.az/\x.a=a then x.done else 0
def o7(m a:Int)(x:Ob):Int:=if x.st=1/\0<x.az/\x.m=m/\x.a=a then x.done else 0
structure LU(M S:Nat)(aj:Int)(who:List Int)(x:Ob):Prop where
 m:1<=x.m/\x.m<=(M:Int)
 a:0<=x.a/\x.a<=(S:Int)
 big: -kQ x.a<=x.az/\x.az<=kQ x.a
 c:x.c<=aj
 st:1<=x.st/\x.st<=5
 a6h:x.st=2->x.done=x.size
 o:x.st=3->hasB who x.m=aO/\(x.az<0->x.done=0)/\(0<x.az->x.done<x.az)
 cmp:(x.st=4\/x.st=5)->x.az<0/\x.done< -x.az/\(x.st=4->x.a≠0)
def aIN(x y:Ob):Prop:=eW x=aO->eW y=aO->x.m<y.m\/(x.m=y.m/\x.a<y.a)
structure kY(M S:Nat)(aj:Int)(who:List Int)(L:List Ob):Prop where
 each:∀x∈L,LU M S aj who x
 ok:∀x∈L,x.ok
 ord:L.Pairwise aIN
 cl:∀a,dT (pY a) L<=kQ a
 db:∀a,dT (vB a) L<=kQ a
 len:(aA L:Int)<=120*aj
theorem kY.fine {M S:Nat} {aj:Int} {who:List Int} {L:List Ob}(h:kY M S aj who L)(hc:aj<=4):sD L:=by refine⟨h.ok,λj k hj hk hjk h1 h2=> ?_,by have:=h.len;omega⟩;have:=(uu.1 h.ord) j k hj hk hjk h1 h2;omega
def YI(x:ak)(d:Bd):Prop:=(1<=d.m/\d.m<=(aA x.ms:Int))/\(1<=d.c/\d.c<=(aA x.ss:Int))/\(1<=d.q/\d.q<=274877906944)/\(1<=d.p/\d.p<=1048576)/\aL d.s
structure aw(C:Int)(g:Nat)(D:Dk):Prop where
 hs:Fo D.x
 bE:OU (aA D.x.ms) (aA D.x.ss+1) C (if D.en=aO then 1099511627776 else 0) D.l
 h8:∀r∈D.h,r.s=8
 hl:aA D.h<=16
 fl:∀a,mf D.log a=balA (aA D.x.ms) (aA D.x.ss+1) D.l 1 0 a
 lg:LQ (aA D.x.ss) D.log
 gl:aA D.log<=g
 who:Le (aA D.x.ms) D.who
 ob:kY (aA D.x.ms) (aA D.x.ss) D.aj D.who D.ob
 bx:∀d∈D.bx,YI D.x d
 bl:aA D.bx<=32
 st:0<=D.st/\D.st<=2
 aj:0<=D.aj/\D.aj<=4
theorem aw.ok {C:Int} {g:Nat} {D:Dk}(H:aw C g D)(hg:g<=90000):fZ D:=
 ⟨H.bE.ok.I,by have:=H.hl;omega,by have:=H.who.len;have:=H.hs.ml;omega,by have:=H.gl;omega,H.ob.fine H.aj.2,by have:=H.bl;omega,by have:=H.st;unfold aL;omega⟩
theorem aw.wide {C C':Int} {g g':Nat} {D:Dk}(H:aw C g D)(hc:C<=C')(hb:C'<=4611686018427387904+1125899906842624)(hg:g<=g'):aw C' g' D:=
 ⟨H.hs,H.bE.wide hc hb,H.h8,H.hl,H.fl,H.lg,by have:=H.gl;omega,H.who,H.ob,H.bx,H.bl,H.st,H.aj⟩
section
variable {C:Int} {g:Nat} {D:Dk}
theorem aw.house(H:aw C g D)(a:Int):0<=(balA (aA D.x.ms) (aA D.x.ss+1) D.l) 1 0 a/\(balA (aA D.x.ms) (aA D.x.ss+1) D.l) 1 0 a<=C:=by refine⟨H.bE.ok.nn rfl 0 a, ?_⟩;have h1:=H.bE.lo 0 a;have h2:=H.bE.hi 0 a;omega
theorem aw.own(H:aw C g D)(m a:Int): -C-1099511627776<=(balA (aA D.x.ms) (aA D.x.ss+1) D.l) 7 m a/\(balA (aA D.x.ms) (aA D.x.ss+1) D.l) 7 m a+(balA (aA D.x.ms) (aA D.x.ss+1) D.l) 1 0 a<=C:=by have h1:=H.bE.lo m a;have h2:=H.bE.hi m a;have h3:=H.bE.ok.nn (k:=8) rfl m a;have h4:=H.bE.sr m a;have h5:=H.bE.ok.nn (k:=1) rfl 0 a;omega
theorem NL {M A:Nat} {a:Int}(h:0<=a)(h':a<(A:Int)):∃n,plcA M A 1 0 a=aC n:=by unfold plcA jx;simp [h,h']
theorem aIz {M A:Nat} {a:Int}(h:0<=a)(h':a<(A:Int)):∃n,plcA M A 2 0 a=aC n:=by unfold plcA jx;simp [h,h']
theorem aJ0 {M A:Nat} {a:Int}(h:0<=a)(h':a<(A:Int)):∃n,plcA M A 3 0 a=aC n:=by unfold plcA jx;simp [h,h']
theorem aIy {M A:Nat} {a:Int}(h:0<=a)(h':a<(A:Int)):∃n,plcA M A 4 0 a=aC n:=by unfold plcA jx;simp [h,h']
theorem Bp {M A:Nat} {k m a:Int}(hk:k=7\/k=8\/k=9)(hm:1<=m/\m<=(M:Int))(h:0<=a)(h':a<(A:Int)):∃n,plcA M A k m a=aC n:=by unfold plcA jx;rcases hk with rfl|rfl|rfl<;>simp [h,h',hm.1,hm.2]
theorem aw.goes(H:aw C g D) {tk tm a n:Int} {e:Ev}(ht:(tk=7/\1<=tm/\tm<=(aA D.x.ms:Int))\/(tk=2/\tm=0))(ha:0<=a/\a<=(aA D.x.ss:Int))(h1:1<=n)(h2:n<=(balA (aA D.x.ms) (aA D.x.ss+1) D.l) 1 0 a)(he:e.a=a/\e.n=n/\yJ e= -n):
 uU D 1 0 tk tm a n=0/\aw C (g+1) {D with l:=bg D 1 0 tk tm a n,log:=D.log++ [e]}/\∀k m b,balA (aA D.x.ms) (aA D.x.ss+1) (bg D 1 0 tk tm a n) k m b=(balA (aA D.x.ms) (aA D.x.ss+1) D.l) k m b+((if k=1/\m=0/\b=a then-n else 0)+(if k=tk/\m=tm/\b=a then n else 0)):=by
 obtain⟨i,hi⟩:=NL (M:=aA D.x.ms) (A:=aA D.x.ss+1) ha.1 (by omega);have hj:∃j,plcA (aA D.x.ms) (aA D.x.ss+1) tk tm a=aC j:=by
  rcases ht with⟨rfl,h⟩|⟨rfl,rfl⟩
  ·exact Bp (.inl rfl) h ha.1 (by omega)
  exact aIz ha.1 (by omega)
 obtain⟨j,hj⟩:=hj;have hb:=H.bE.big;have hle:=H.bE.es a;have hes:=H.bE.ok.nn (k:=2) rfl 0 a;have hr2:aL ((balA (aA D.x.ms) (aA D.x.ss+1) D.l) tk tm a+n):=by
  rcases ht with⟨rfl,_⟩|⟨rfl,rfl⟩
  ·have:=H.own tm a;unfold aL;omega
  unfold aL;omega
 have Q5:=N6 hi hj (by omega) (by omega) (by unfold aL;omega) (.inr ⟨h2,by rw [Va H.h8 (by decide)];omega⟩) (by unfold aL;omega) hr2 H.bE.ok.len;have hd:=Qz Q5 H.bE.ok.len hi hj;have dR:nE (aA D.x.ms) (aA D.x.ss+1) (bg D 1 0 tk tm a n):=nE.mv H.bE.ok H.hs.sl.2;refine⟨Q5,⟨H.hs,⟨dR, ?_, ?_, ?_, ?_, ?_, ?_, ?_,H.bE.big,H.bE.F0⟩,H.h8,H.hl, ?_, ?_, ?_,H.who,H.ob,H.bx,H.bl,H.st,H.aj⟩,hd⟩
 ·intro m b;show balA (aA D.x.ms) (aA D.x.ss+1) (bg D 1 0 tk tm a n) 8 m b<=_;rw [hd];have:=H.bE.sr m b;split<;>split<;>omega
 ·intro m b;show balA (aA D.x.ms) (aA D.x.ss+1) (bg D 1 0 tk tm a n) 9 m b<=_;rw [hd,ifN (by omega),ifN (by omega)];have:=H.bE.zY m b;simpa using this
 ·intro b;show balA (aA D.x.ms) (aA D.x.ss+1) (bg D 1 0 tk tm a n) 3 0 b<=_;rw [hd,ifN (by omega),ifN (by omega)];have:=H.bE.zx b;simpa using this
 ·intro b;show balA (aA D.x.ms) (aA D.x.ss+1) (bg D 1 0 tk tm a n) 4 0 b<=_;rw [hd,ifN (by omega),ifN (by omega)];have:=H.bE.cap b;simpa using this
 ·intro m b;show _<=balA (aA D.x.ms) (aA D.x.ss+1) (bg D 1 0 tk tm a n) 7 m b+balA (aA D.x.ms) (aA D.x.ss+1) (bg D 1 0 tk tm a n) 8 m b-balA (aA D.x.ms) (aA D.x.ss+1) (bg D 1 0 tk tm a n) 1 0 b;rw [hd 7,hd 8,hd 1];have:=H.bE.lo m b;repeat' split
  all_goals omega
 ·intro m b;show balA (aA D.x.ms) (aA D.x.ss+1) (bg D 1 0 tk tm a n) 7 m b+balA (aA D.x.ms) (aA D.x.ss+1) (bg D 1 0 tk tm a n) 8 m b+balA (aA D.x.ms) (aA D.x.ss+1) (bg D 1 0 tk tm a n) 1 0 b<=_;rw [hd 7,hd 8,hd 1];have:=H.bE.hi m b;repeat' split
  all_goals omega
 ·intro b;show balA (aA D.x.ms) (aA D.x.ss+1) (bg D 1 0 tk tm a n) 2 0 b+balA (aA D.x.ms) (aA D.x.ss+1) (bg D 1 0 tk tm a n) 1 0 b<=_;rw [hd 2,hd 1];have:=H.bE.es b;repeat' split
  all_goals omega
 ·intro b;show mf (D.log++ [e]) b=balA (aA D.x.ms) (aA D.x.ss+1) (bg D 1 0 tk tm a n) 1 0 b;rw [D8,D9,H.fl b,hd,he.1,he.2.2];repeat' split
  all_goals omega
 ·refine H.lg.snoc ⟨by rw [he.1];exact ha.1,by rw [he.1];exact ha.2,.inl (by rw [he.2.1];exact h1)⟩ (λb=> ?_);have h9:mf (D.log++ [e]) b=balA (aA D.x.ms) (aA D.x.ss+1) (bg D 1 0 tk tm a n) 1 0 b:=by
   rw [D8,D9,H.fl b,hd,he.1,he.2.2];repeat' split
   all_goals omega
  rw [h9];refine⟨dR.nn rfl 0 b, ?_⟩;rw [hd];have:=H.house b;repeat' split
  all_goals omega
 show aA (D.log++ [e])<=g+1;rw [cL];have:=H.gl;simp;omega
end
end
def a2P(l:List Dw)(k m:Int):Int:=l.foldl (λs x=>if x.k=k/\x.m=m then fV (s+x.n) else s) 0
def jW(p:bz)(k m:Int):Int:=
 if 1<=m/\m<=aA p.co/\k=8 then cN p.co m else if 1<=m/\m<=aA p.co/\k=9 then cN p.fu m else if m=0/\k=3 then p.line else if m=0/\k=4 then p.cap else-1
def oJ(os:List Int)(k m:Int):Int:=if k=8 then m else if k=9 then (if os.contains m then fV (100+m) else 200) else if k=3 then 300 else 400
structure ux(y:List Dw):Prop where
 pos:∀x∈y,0<=x.n/\x.n<=1099511627776
 len:aA y<=1000
theorem a2R:∀y:List Dw,sumI (fg y)=(y.map (·.n)).sum
 | []=>rfl
 |x::y=>by show x.n+sumI (fg y)=_;rw [a2R y];simp
theorem Ur:∀ {y:List Dw},(∀x∈y,0<=x.n/\x.n<=1099511627776)->0<=sumI (fg y)/\sumI (fg y)<=1099511627776*(aA y:Int)
 | [],_=>by simp [fg,sumI]
 |x::y,h=>by
  have h1:=Ur (y:=y) λz hz=>h z (by simp [hz])
  grind [sumI,fg]
theorem a1h {y:List Dw} {nd:Int}(h:ux y)(hn:0<=nd):iF nd (fg y)=0:=by
 have hb:=Ur h.pos;have hl:=h.len;have hlen:aA (fg y)=aA y:=by simp [fg]
 unfold iF;rw [ifN (by omega),ifN,(dy (by unfold aL;omega)).2];rintro (h1|h1)
 ·omega
 unfold xN at h1;obtain⟨x,hx,mL⟩:=kK.1 h1;obtain⟨z,hz,rfl⟩:=dV.1 hx;have:=(h.pos z hz).1;simp at mL;omega
theorem Lu(x:Dw)(y:List Dw)(n:Int)(zs:List Int):ig (x::y) (n::zs)=(if 0<n then [⟨x.k,x.m,n⟩] else [])++ig y zs:=by grind [ig,EG]
theorem a2U:∀ {y:List Dw} {zs:List Int} {z:Dw},z∈ig y zs->0<z.n/\∃x∈y,z.k=x.k/\z.m=x.m
 | [],_,z,h=>by simp [ig] at h
 |_::_,[],z,h=>by simp [ig] at h
 |x::y,n::zs,z,h=>by
  rw [Lu] at h;rcases gJ.1 h with h|h
  ·grind
  obtain⟨h1,u,hu,e⟩:=a2U h;grind
theorem a2X:∀ {y:List Dw} {zs:List Int},aA zs=aA y->(∀z∈zs,0<=z)->cV (ig y zs)=sumI zs
 | [],[],_,_=>rfl
 | [],_::_,h,_=>by simp at h
 |_::_,[],h,_=>by simp at h
 |x::y,n::zs,h,hz=>by
  have hr:=a2X (y:=y) (zs:=zs) (by simpa using h) λz hz'=>hz z (by simp [hz'])
  have hn:=hz n (by simp);grind [Lu,sumI,cV]
theorem a2V:∀y:List Dw,ig y (fg y)=y.filter λx=>decide (0<x.n)
 | []=>rfl
 |x::y=>by show ig (x::y) (x.n::fg y)=_;rw [Lu,a2V y,List.filter_cons];by_cases h:0<x.n<;>simp [h]
structure a8H(y:List Dw)(nd:Int):Prop where
 mem:∀z∈mh y nd,0<z.n/\∃x∈y,z.k=x.k/\z.m=x.m
 Bu:cV (mh y nd)=min nd (sumI (fg y))
 full:sumI (fg y)<=nd->mh y nd=y.filter λx=>decide (0<x.n)
 FI:0<=sumI (fg y)
theorem ES {y:List Dw} {nd:Int}(h:ux y)(hn:0<=nd):a8H y nd:=by
 have hc:=a1h h hn;have G:=ET hc;refine⟨λz hz=>a2U hz, ?_,λhs=> ?_,(Ur h.pos).1⟩
 ·unfold mh;rw [a2X (by rw [G.len];simp [fg]) λz hz=> ?_,G.sum];obtain⟨i,hi,rfl⟩:=List.getElem_of_mem hz;exact(G.bd i hi (by rw [<-G.len];exact hi)).1
 grind [mh,dJ,a2V]
def gl:Int->List (List Dw)->List Dw
 |_,[]=> []
 |nd,y::ys=>mh y nd++gl (nd-min nd (sumI (fg y))) ys
theorem Y3(a b:List Dw):cV (a++b)=cV a+cV b:=by grind [cV]
theorem Pm:∀(ys:List (List Dw)) (nd:Int) (L:List Dw),(∀y∈ys,ux y)->0<=nd->aL nd->(ys.foldl yZ (nd,L)).2=L++gl nd ys
 | [],nd,L,_,_,_=>by simp [gl]
 |y::ys,nd,L,h,hn,hI=>by
  have F:=ES (h y (by simp)) hn;have hs:=F.FI;have ht:s7 (mh y nd)=min nd (sumI (fg y)):=by unfold aL at hI;rw [Rz (by rw [F.Bu];omega),F.Bu]
  have hw:aF.wrap (nd-min nd (sumI (fg y)))=nd-min nd (sumI (fg y)):=sM _ (by grind [aL]);rw [Ca];have e:yZ (nd,L) y=(nd-min nd (sumI (fg y)),L++mh y nd):=by grind [yZ]
  rw [e,Pm ys _ _ (λz hz=>h z (by simp [hz])) (by omega) (by grind [aL])];simp [gl]
theorem a3D:∀ {ys:List (List Dw)},(∀y∈ys,ux y)->gl 0 ys= []
 | [],_=>rfl
 |y::ys,h=>by
  have F:=ES (nd:=0) (h y (by simp)) (dH _);have hs:=F.FI;have e:mh y 0= []:=by
   cases hg:mh y 0 with
   |nil=>rfl
   |cons z l=>
    have h1:=(F.mem z (by rw [hg];simp)).1;have h2:=F.Bu;rw [hg] at h2;have h3:cV (z::l)=max z.n 0+cV l:=by simp [cV]
    have h4:=IL l;omega
  unfold gl;rw [e,show (0:Int)-min 0 (sumI (fg y))=0 by omega,a3D λz hz=>h z (by simp [hz])];rfl
theorem Pk:∀ {ys:List (List Dw)} {nd:Int},(∀y∈ys,ux y)->0<=nd->∀z∈gl nd ys,0<z.n/\∃y∈ys,∃x∈y,z.k=x.k/\z.m=x.m
 | [],_,_,_,z,hz=>by simp [gl] at hz
 |y::ys,nd,h,hn,z,hz=>by
  have F:=ES (h y (by simp)) hn;have hs:=F.FI;unfold gl at hz;rcases gJ.1 hz with hz|hz
  ·obtain⟨h1,x,hx,e⟩:=F.mem z hz;grind
  obtain⟨h1,y',hy,x,hx,e⟩:=Pk (λz hz=>h z (by simp [hz])) (by omega) z hz;grind
theorem a3A:∀ {ys:List (List Dw)} {nd:Int},(∀y∈ys,ux y)->0<=nd->cV (gl nd ys)<=nd
 | [],nd,_,hn=>by grind [gl,cV]
 |y::ys,nd,h,hn=>by have F:=ES (h y (by simp)) hn;have hs:=F.FI;have:=a3A (ys:=ys) (nd:=nd-min nd (sumI (fg y))) (λz hz=>h z (by simp [hz])) (by omega);unfold gl;rw [Y3,F.Bu];omega
structure G9(f:Int->Int->Int)(ys:List (List Dw)):Prop where
 up:ys.Pairwise λy y'=>∀x∈y,∀x'∈y',f x.k x.m<f x'.k x'.m
 eq:∀y∈ys,∀x∈y,∀x'∈y,f x.k x.m=f x'.k x'.m
 uniq:∀y∈ys,y.Pairwise λx x'=>¬(x.k=x'.k/\x.m=x'.m)
theorem G9.tail {f:Int->Int->Int} {y:List Dw} {ys:List (List Dw)}(h:G9 f (y::ys)):G9 f ys:=
 ⟨(kX.1 h.up).2,λy' hy=>h.eq y' (by simp [hy]),λy' hy=>h.uniq y' (by simp [hy])⟩
theorem a3C {f:Int->Int->Int}:∀ {ys:List (List Dw)} {nd:Int},(∀y∈ys,ux y)->G9 f ys->0<=nd->(gl nd ys).Pairwise λz z'=>f z.k z.m<=f z'.k z'.m
 | [],_,_,_,_=>by simp [gl]
 |y::ys,nd,h,hr,hn=>by
  have F:=ES (h y (by simp)) hn;have hs:=F.FI;have dR:∀z∈ys,ux z:=λz hz=>h z (by simp [hz])
  unfold gl;rw [LP];refine⟨?_,a3C dR hr.tail (by omega),λz hz z' hz'=> ?_⟩
  ·rw [List.pairwise_iff_forall_sublist];intro a b hab;have ha:=hab.subset (by simp:a∈ [a,b]);have hb:=hab.subset (by simp:b∈ [a,b]);obtain⟨_,x,hx,e1,e2⟩:=F.mem a ha;obtain⟨_,x',mL,e3,e4⟩:=F.mem b hb;rw [e1,e2,e3,e4];exact rD (hr.eq y (by simp) x hx x' mL)
  obtain⟨_,x,hx,e1,e2⟩:=F.mem z hz;obtain⟨_,y',hy',x',mL,e3,e4⟩:=Pk dR (by omega) z' hz';have:=(kX.1 hr.up).1 y' hy' x hx x' mL;grind
def wk(l:List Dw)(k m:Int):Int:=(l.map λx=>if x.k=k/\x.m=m then x.n else 0).sum
theorem aEd(a b:List Dw)(k m:Int):wk (a++b) k m=wk a k m+wk b k m:=by grind [wk]
theorem PU(x:Dw)(l:List Dw)(k m:Int):wk (x::l) k m=(if x.k=k/\x.m=m then x.n else 0)+wk l k m:=by simp [wk]
theorem PV:∀ {l:List Dw} {k m:Int},(∀z∈l,¬(z.k=k/\z.m=m))->wk l k m=0
 | [],_,_,_=>rfl
 |x::l,k,m,h=>by rw [PU,ifN (h x (by simp)),PV λz hz=>h z (by simp [hz])];rfl
theorem Up:∀ {l:List Dw} {k m s:Int},(∀z∈l,0<=z.n)->0<=s->s+cV l<=9223372036854775807->l.foldl (λs x=>if x.k=k/\x.m=m then fV (s+x.n) else s) s=s+wk l k m
 | [],k,m,s,_,_,_=>by simp [wk]
 |x::l,k,m,s,h,h0,hb=>by
  have hx:=h x (by simp);have ht:cV (x::l)=max x.n 0+cV l:=by simp [cV]
  have hl:=IL l;rw [Ca,PU];by_cases hc:x.k=k/\x.m=m
  ·rw [ifP hc,ifP hc,show fV (s+x.n)=s+x.n from by unfold fV;omega,Up (λz hz=>h z (by simp [hz])) (by omega) (by omega)];omega
  rw [ifN hc,ifN hc,Up (λz hz=>h z (by simp [hz])) h0 (by omega)];omega
theorem a2O:∀ {y:List Dw} {x:Dw},(∀z∈y,0<=z.n)->(y.Pairwise λx x'=>¬(x.k=x'.k/\x.m=x'.m))->x∈y->wk (y.filter λx=>decide (0<x.n)) x.k x.m=x.n
 | [],_,_,_,h=>by simp at h
 |u::y,x,h0,hp,hx=>by
  obtain⟨h1,h2⟩:=kX.1 hp;have hu:=h0 u (by simp);rcases fC.1 hx with rfl|hx
  ·have hno:wk (y.filter λz=>decide (0<z.n)) x.k x.m=0:=PV λz hz e=>h1 z (j6.1 hz).1 ⟨e.1.symm,e.2.symm⟩
   grind [PU]
  have hr:=a2O (λz hz=>h0 z (by simp [hz])) h2 hx;grind [PU]
theorem a2y {f:Int->Int->Int}:∀ {ys:List (List Dw)} {nd:Int},(∀y∈ys,ux y)->G9 f ys->0<=nd->∀z∈gl nd ys,∀y∈ys,∀x∈y,f x.k x.m<f z.k z.m->wk (gl nd ys) x.k x.m=x.n
 | [],_,_,_,_,z,hz,_,_,_,_,_=>by simp [gl] at hz
 |y0::ys,nd,h,hr,hn,z,hz,y,hy,x,hx,hlt=>by
  have F:=ES (h y0 (by simp)) hn;have hs:=F.FI;have dR:∀z∈ys,ux z:=λz hz=>h z (by simp [hz])
  have vT:=(kX.1 hr.up).1;unfold gl at hz ⊢;rw [aEd];rcases gJ.1 hz with hz|hz
  ·obtain⟨_,u,hu,e1,e2⟩:=F.mem z hz;rw [e1,e2] at hlt;rcases fC.1 hy with rfl|hy
   ·have:=hr.eq y (by simp) x hx u hu;omega
   grind
  have QN:sumI (fg y0)<=nd:=by grind [a3D]
  have vQ:0<=nd-min nd (sumI (fg y0)):=by omega
  rcases fC.1 hy with rfl|hy
  ·rw [F.full QN,a2O (λz hz=>((h y (by simp)).pos z hz).1) (hr.uniq y (by simp)) hx,PV]
   ·omega
   intro z' hz' e;obtain⟨_,y',hy',x',mL,e3,e4⟩:=Pk dR vQ z' hz';grind
  rw [a2y dR hr.tail vQ z hz y hy x hx hlt,PV]
  ·omega
  intro z' hz' e;obtain⟨_,u,hu,e3,e4⟩:=F.mem z' hz';grind
theorem XA {p:bz} {os:List Int}(h:gH p os=0):os.Pairwise (· < ·):=by
 have h0:iv p=0:=by grind [gH]
 have step:∀k (hk:k+1<aA os),os[k]<os[k+1]:=λk hk=>by grind [tM,X0]
 have all:∀k (hk:k<aA os) i (hi:i<aA os),i<k->os[i]<os[k]:=by
  intro k;induction k with
  |zero=>intro _ i _ h;omega
  |succ k ih=>
   grind
 grind [uu]
theorem RP(os:List Int)(m:Int):oJ os 8 m=m:=by grind [oJ]
theorem RQ {os:List Int} {m:Int}(h:m∈os)(h1:1<=m)(h2:m<=1000):oJ os 9 m=100+m:=by unfold oJ;rw [ifN (by decide),ifP rfl,ifP (Tj.2 h)];unfold fV;omega
theorem a6F {os:List Int} {m:Int}(h:os.contains m=aP):oJ os 9 m=200:=by grind [oJ]
theorem XV(os:List Int):oJ os 3 0=300:=by grind [oJ]
theorem XW(os:List Int):oJ os 4 0=400:=by grind [oJ]
theorem ND {fu os:List Int}:∀ {k:Nat} {x:Dw},x∈jy fu os k->∃i:Nat,i<k/\os.contains ((i:Int)+1)=aP/\x=⟨9,(i:Int)+1,fu.getD i 0⟩:=by grind [jy]
theorem aIT {fu os:List Int} {k i:Nat}(hi:i<k)(hc:os.contains ((i:Int)+1)=aP):(⟨9,(i:Int)+1,fu.getD i 0⟩:Dw)∈jy fu os k:=by grind [jy]
theorem a5f(fu os:List Int):∀k,(jy fu os k).Pairwise λx x'=>¬(x.k=x'.k/\x.m=x'.m)
 |0=>by simp [jy]
 |k+1=>by
  have ih:=a5f fu os k;have e:jy fu os (k+1)=jy fu os k++(if os.contains ((k:Int)+1) then [] else [⟨9,(k:Int)+1,fu.getD k 0⟩]):=by grind [jy,List.range_succ]
  grind [ND]
theorem NW {p:bz} {os:List Int} {y:List Dw}(h:y∈fQ p os):(∃m∈os,y= [⟨8,m,cN p.co m⟩])\/(∃m∈os,y= [⟨9,m,cN p.fu m⟩])\/y=vZ p.fu os\/y= [⟨3,0,p.line⟩]\/y= [⟨4,0,p.cap⟩]:=by grind [fQ]
theorem BC {l:List Int} {m:Int}(h1:1<=m)(h2:m<=aA l):cN l m∈l:=by obtain⟨s,hs,rfl⟩:∃s:Nat,s<aA l/\m=(s:Int)+1:=⟨(m-1).toNat,by omega,by omega⟩;grind [JP]
theorem Xm {p:bz} {os:List Int}(F:EH p os):∀y∈fQ p os,ux y:=by
 have hc:∀x∈p.co,0<=x/\x<=1099511627776:=λx hx=>F.all x (by simp [fU,hx])
 have hf:∀x∈p.fu,0<=x/\x<=1099511627776:=λx hx=>F.all x (by simp [fU,hx])
 have hlen:=F.len;have kh:=F.big;intro y hy;rcases NW hy with⟨m,hm,rfl⟩|⟨m,hm,rfl⟩|rfl|rfl|rfl
 ·have:=F.os1 m hm;exact⟨λx hx=>by grind [BC],by simp⟩
 ·have:=F.os1 m hm;exact⟨λx hx=>by grind [BC],by simp⟩
 ·refine⟨λx hx=> ?_,by grind [KI,vZ]⟩;obtain⟨i,hi,_,rfl⟩:=ND hx;grind [cK]
 ·exact⟨λx hx=>by simp at hx;subst hx;exact F.all _ (by simp [fU]),by simp⟩
 exact⟨λx hx=>by simp at hx;subst hx;exact F.all _ (by simp [fU]),by simp⟩
theorem a6z {p:bz} {os:List Int}(h:gH p os=0):G9 (oJ os) (fQ p os):=by
 have F:=yS h;have hu:=XA h;have hb:=F.big;have h1:∀m∈os,1<=m/\m<=16:=λm hm=>by have:=F.os1 m hm;omega
 have aMO:∀x∈vZ p.fu os,oJ os x.k x.m=200:=λx hx=>by obtain⟨i,_,hc,rfl⟩:=ND hx;exact a6F hc
 refine⟨?_,λy hy x hx x' mL=> ?_,λy hy=> ?_⟩
 ·unfold fQ;rw [LP,LP,B8,B8];refine⟨⟨hu.imp_of_mem λ{a b} ha hb' hab x hx x' mL=> ?_,hu.imp_of_mem λ{a b} ha hb' hab x hx x' mL=> ?_,λy hy y' hy' x hx x' mL=> ?_⟩, ?_,λy hy y' hy' x hx x' mL=> ?_⟩
  ·grind [RP]
  ·grind [RQ]
  ·grind [RP,RQ]
  ·grind [kX,XV,XW]
  grind [RP,RQ,XV,XW]
 ·grind [NW]
 rcases NW hy with⟨m,hm,rfl⟩|⟨m,hm,rfl⟩|rfl|rfl|rfl
 ·simp
 ·simp
 ·exact a5f _ _ _
 ·simp
 simp
def UJ(os:List Int)(k:Nat):List (Int×Int):=(dQ k).flatMap λ(i:Nat)=>(if os.contains ((i:Int)+1) then [(8,(i:Int)+1)] else [])++ [(9,(i:Int)+1)]
def P6(os:List Int)(n:Nat):List (Int×Int):=UJ os n++ [(3,0),(4,0)]
theorem aBs {os:List Int} {n:Nat} {a:Int×Int}(h:a∈UJ os n):∃i:Nat,i<n/\((os.contains ((i:Int)+1)=aO/\a=(8,(i:Int)+1))\/a=(9,(i:Int)+1)):=by grind [UJ]
theorem Rx {p:bz} {m:Int}(h1:1<=m)(h2:m<=aA p.co):jW p 8 m=cN p.co m:=by grind [jW]
theorem KR {p:bz} {m:Int}(h1:1<=m)(h2:m<=aA p.co):jW p 9 m=cN p.fu m:=by grind [jW]
theorem Ru(p:bz):jW p 3 0=p.line:=by grind [jW]
theorem Rv(p:bz):jW p 4 0=p.cap:=by grind [jW]
theorem a1C {p:bz} {os:List Int}(F:EH p os) {a:Int×Int}(h:a∈P6 os (aA p.co)):∃y∈fQ p os,∃x∈y,x.k=a.1/\x.m=a.2/\x.n=jW p a.1 a.2:=by
 have hlen:=F.len;unfold P6 at h;rcases gJ.1 h with h|h
 ·obtain⟨i,hi,⟨hc,rfl⟩|rfl⟩:=aBs h
  ·have hm:=Tj.1 hc;exact⟨[⟨8,(i:Int)+1,cN p.co ((i:Int)+1)⟩],by grind [fQ],⟨8,(i:Int)+1,cN p.co ((i:Int)+1)⟩,by simp,rfl,rfl,(Rx (by omega) (by omega)).symm⟩
  cases hc:os.contains ((i:Int)+1) with
  |true=>
   have hm:=Tj.1 hc;exact⟨[⟨9,(i:Int)+1,cN p.fu ((i:Int)+1)⟩],by grind [fQ],⟨9,(i:Int)+1,cN p.fu ((i:Int)+1)⟩,by simp,rfl,rfl,(KR (by omega) (by omega)).symm⟩
  |false=>
   refine⟨vZ p.fu os,by unfold fQ;simp,⟨9,(i:Int)+1,p.fu.getD i 0⟩,aIT (by omega) hc,rfl,rfl, ?_⟩;grind [KR,JP]
 simp at h;rcases h with rfl|rfl
 ·exact⟨[⟨3,0,p.line⟩],by unfold fQ;simp,⟨3,0,p.line⟩,by simp,rfl,rfl,(Ru p).symm⟩
 exact⟨[⟨4,0,p.cap⟩],by unfold fQ;simp,⟨4,0,p.cap⟩,by simp,rfl,rfl,(Rv p).symm⟩
structure a9p(p:bz)(os:List Int)(l:List Dw):Prop where
 up:∀i j (hi:i<aA l) (hj:j<aA l),i<j->oJ os l[i].k l[i].m<=oJ os l[j].k l[j].m
 pos:∀z∈l,0<=oJ os z.k z.m
 acc:∀a∈P6 os (aA p.co),0<=oJ os a.1 a.2
 full:∀z∈l,∀a∈P6 os (aA p.co),oJ os a.1 a.2<oJ os z.k z.m->a2P l a.1 a.2=jW p a.1 a.2
 len:aA l<=1000
theorem a6G {p:bz} {os:List Int}(h:gH p os=0) {y:List Dw}(hy:y∈fQ p os) {x:Dw}(hx:x∈y):0<=oJ os x.k x.m:=by
 have F:=yS h;have hb:=F.big;have h1:∀m∈os,1<=m/\m<=16:=λm hm=>by have:=F.os1 m hm;omega
 rcases NW hy with⟨m,hm,rfl⟩|⟨m,hm,rfl⟩|rfl|rfl|rfl
 ·grind [RP]
 ·grind [RQ]
 ·obtain⟨i,_,hc,rfl⟩:=ND hx;rw [a6F hc];omega
 ·grind [XV]
 grind [XW]
theorem aIM {p:bz} {os:List Int} {need:Int}(h:ry p os need=0)(hI:aL need)(mH:aA os<=100):a9p p os (oI p os need):=by
 have hm:gH p os=0:=by grind [ry]
 have hn:0<=need:=by grind [ry]
 have F:=yS hm;have dR:=Xm F;have hr:=a6z hm;have hL:oI p os need=gl need (fQ p os):=by grind [oI,tN,Pm]
 have hlen:aA (oI p os need)<=1000:=by unfold oI;rw [ifP h];have h1:=a5p (fQ p os) (need,[]);have h2:=a7A p os;have h3:=F.len;have h4:=F.big;grind [tN]
 rw [hL] at hlen ⊢;have vT:=uu.1 (a3C (f:=oJ os) dR hr hn);have WB:=Pk (nd:=need) dR hn;refine⟨λi j hi hj rR=>vT i j hi hj rR,λz hz=> ?_,λa ha=> ?_,λz hz a ha hlt=> ?_,hlen⟩
 ·obtain⟨_,y,hy,x,hx,e1,e2⟩:=WB z hz;rw [e1,e2];exact a6G hm hy hx
 ·obtain⟨y,hy,x,hx,e1,e2,_⟩:=a1C F ha;rw [<-e1,<-e2];exact a6G hm hy hx
 obtain⟨y,hy,x,hx,e1,e2,e3⟩:=a1C F ha;rw [<-e1,<-e2] at hlt;have h1:=a2y (f:=oJ os) dR hr hn z hz y hy x hx hlt;have h2:=Up (l:=gl need (fQ p os)) (k:=a.1) (m:=a.2) (s:=0) (λz hz=>by grind) (dH _) (by have:=a3A (ys:=fQ p os) dR hn;unfold aL at hI;omega);grind [a2P]
def rz(p:bz)(os:List Int):Nat->Int
 |0=>p.line+p.cap
 |k+1=>rz p os k+cN p.fu ((k:Int)+1)+(if os.contains ((k:Int)+1) then cN p.co ((k:Int)+1) else 0)
theorem mem_co {p:bz} {k:Nat}(hk:k<aA p.co):p.co[k]∈fU p:=by grind [fU]
theorem aHR {p:bz} {k:Nat}(hk:k<aA p.fu):p.fu[k]∈fU p:=by grind [fU]
theorem RZ {p:bz} {os:List Int}(h:EH p os):∀k,k<=aA p.co->0<=rz p os k/\rz p os k<=(2+2*(k:Int))*1099511627776
 |0,_=>by have h1:=h.all p.line (by simp [fU]);have h2:=h.all p.cap (by simp [fU]);unfold rz;omega
 |k+1,hk=>by
  have ih:=RZ h k (by omega);have hf:k<aA p.fu:=by have:=h.len;omega
  have h1:=h.all _ (mem_co (show k<(aA p.co) by omega));have h2:=h.all _ (aHR hf);grind [rz,JP]
def pH(f:Int->Int)(os:List Int):Nat->Int
 |0=>0
 |k+1=>pH f os k+(if os.contains ((k:Int)+1) then f ((k:Int)+1) else 0)
theorem a5l {f:Int->Int} {a b:List Int}:∀k:Nat,(∀i:Nat,i<k->a.contains ((i:Int)+1)=b.contains ((i:Int)+1))->pH f a k=pH f b k
 |0,_=>rfl
 |k+1,h=>by unfold pH;rw [a5l k (λi hi=>h i (by omega)),h k (by omega)]
theorem a5m(f:Int->Int):∀k,pH f [] k=0
 |0=>rfl
 |k+1=>by unfold pH;rw [a5m f k];rfl
theorem KJ(f:Int->Int):∀(n:Nat) (os:List Int),os.Pairwise (· < ·)->(∀m∈os,1<=m/\m<=(n:Int))->(os.map f).sum=pH f os n
 |0,os,_,h=>by
  cases os with
  |nil=>rfl
  |cons a l=>grind [oZ]
 |n+1,os,hp,h=>by
  rcases OY os with rfl|⟨zs,z,rfl⟩
  ·rw [a5m];rfl
  rw [OX] at*;have hz:=h z (by simp);obtain⟨p1,_,p3⟩:=LP.1 hp;have hlt:∀m∈zs,m<z:=λm hm=>p3 m hm z (by simp)
  by_cases DV:z=(n:Int)+1
  ·have ih:=KJ f n zs p1 λm hm=>⟨(h m (by simp [hm])).1,by grind⟩
   have hc:pH f (zs++ [z]) n=pH f zs n:=a5l n λi hi=>by grind
   grind [pH]
  have ih:=KJ f n (zs++ [z]) hp λm hm=>⟨(h m hm).1,by grind⟩
  grind [pH]
theorem Xy:∀ys:List (List Dw),0<=(ys.map cV).sum
 | []=>dH 0
 |y::ys=>by have h1:=Xy ys;have h2:=IL y;grind
theorem a6Q:∀(ys:List (List Dw)) (n:Int),0<=n->n+(ys.map cV).sum<=9223372036854775807->ys.foldl (λn y=>aF.wrap (n+s7 y)) n=n+(ys.map cV).sum
 | [],n,_,_=>by simp
 |y::ys,n,h0,h=>by rw [yB,EF] at h;have h1:=Xy ys;have h2:=IL y;rw [Ca,Rz (by omega),sM _ (by omega),a6Q ys (n+cV y) (by omega) (by omega),yB,EF];omega
theorem Y4(k m n:Int)(h:0<=n):cV [⟨k,m,n⟩]=n:=by grind [cV]
theorem NA(k:Int)(f:Int->Int):∀os:List Int,(∀m∈os,0<=f m)->((os.map λm=> [(⟨k,m,f m⟩:Dw)]).map cV).sum=(os.map f).sum
 | [],_=>rfl
 |m::os,h=>by rw [yB,yB,EF,NA k f os λm' hm=>h m' (df _ hm),Y4 _ _ _ (h m (oZ ..)),yB,EF]
def BN(fu:List Int):Nat->Int
 |0=>0
 |k+1=>BN fu k+cN fu ((k:Int)+1)
theorem XC {fu os:List Int}(h:∀x∈fu,0<=x):∀k,k<=aA fu->cV (jy fu os k)+pH (cN fu) os k=BN fu k
 |0,_=>rfl
 |k+1,hk=>by have ih:=XC (os:=os) h k (by omega);have hx:=h _ (cK (show k<(aA fu) by omega));unfold pH BN;rw [a5e (show k<(aA fu) by omega) _ rfl,Y3,JP (show k<(aA fu) by omega)];grind [cV]
theorem NR(p:bz)(os:List Int):∀k,rz p os k=p.line+p.cap+BN p.fu k+pH (cN p.co) os k
 |0=>by grind [rz,BN,pH]
 |k+1=>by unfold rz BN pH;rw [NR p os k];omega
theorem RT {p:bz} {os:List Int}(h:gH p os=0):qg p os=rz p os (aA p.co):=by
 have F:=yS h;have vT:=XA h;have Hg:=F.all p.line (by simp [fU]);have hcp:=F.all p.cap (by simp [fU]);have qW:∀x∈p.co,0<=x:=λx hx=>(F.all x (by simp [fU,hx])).1
 have DJ:∀x∈p.fu,0<=x:=λx hx=>(F.all x (by simp [fU,hx])).1
 have e1:=NA 8 (cN p.co) os λm hm=>qW _ (BC (F.os1 m hm).1 (F.os1 m hm).2)
 have e2:=NA 9 (cN p.fu) os λm hm=>DJ _ (BC (F.os1 m hm).1 (by have:=(F.os1 m hm).2;have:=F.len;omega))
 have e3:=KJ (cN p.co) (aA p.co) os vT F.os1;have e4:=KJ (cN p.fu) (aA p.co) os vT F.os1;have e5:=XC (os:=os) DJ (aA p.co) (by have:=F.len;omega);have e6:=NR p os (aA p.co);have hb:=RZ F (aA p.co) (aZ _);have kh:=F.big;have hs:((fQ p os).map cV).sum=rz p os (aA p.co):=by unfold fQ vZ;rw [dY,dY,Cc,Cc,e1,e2,F.len];grind [Y4]
 grind [qg,Bq,a6Q]
def kB(q:bz)(x:Dw):bz:=
 if 1<=x.m/\x.m<=aA q.co/\x.k=8 then {q with co:=q.co.set (x.m-1).toNat (cN q.co x.m-x.n)}
 else if 1<=x.m/\x.m<=aA q.co/\x.k=9 then {q with fu:=q.fu.set (x.m-1).toNat (cN q.fu x.m-x.n)}
 else if x.m=0/\x.k=3 then {q with line:=q.line-x.n}
 else {q with cap:=q.cap-x.n}
def R6:bz:=⟨[],aB,0,[],aB,0,0,0⟩
def Qv:bz->List Dw->bz×Int
 |q,[]=>(q,0)
 |q,x::l=>if jW q x.k x.m<0 then (R6,8) else if x.n<0 then (R6,1) else if jW q x.k x.m<x.n then (R6,12) else Qv (kB q x) l
def a4j(p:bz)(l:List Dw):bz×Int:=if iv p≠0 then (R6,iv p) else Qv p l
theorem Xl {q:bz} {k m:Int}(h:0<=jW q k m):(1<=m/\m<=aA q.co/\k=8)\/(1<=m/\m<=aA q.co/\k=9)\/(m=0/\k=3)\/(m=0/\k=4):=by grind [jW]
theorem Xp {q:bz} {x:Dw}(h:1<=x.m/\x.m<=aA q.co/\x.k=8):kB q x= {q with co:=q.co.set (x.m-1).toNat (cN q.co x.m-x.n)}:=by grind [kB]
theorem Xq {q:bz} {x:Dw}(h:1<=x.m/\x.m<=aA q.co/\x.k=9):kB q x= {q with fu:=q.fu.set (x.m-1).toNat (cN q.fu x.m-x.n)}:=by grind [kB]
theorem Xn {q:bz} {x:Dw}(h:x.m=0/\x.k=3):kB q x= {q with line:=q.line-x.n}:=by grind [kB]
theorem Xo {q:bz} {x:Dw}(h:x.m=0/\x.k=4):kB q x= {q with cap:=q.cap-x.n}:=by grind [kB]
theorem Xr(q:bz)(x:Dw):(kB q x).co.length=aA q.co/\(kB q x).fu.length=aA q.fu:=by grind [kB]
theorem UW {l:List Int} {m v m':Int}(h1:1<=m)(h2:m<=aA l)(h3:1<=m'):cN (l.set (m-1).toNat v) m'=if m'=m then v else cN l m':=by
 unfold cN;rw [sQ,List.getElem?_set,sQ];by_cases e:m'=m
 ·grind
 rw [ifN e,ifN (by omega)]
theorem a7Y {q:bz} {x:Dw}(hf:aA q.fu=aA q.co)(hx:0<=jW q x.k x.m)(k m:Int):jW (kB q x) k m=if k=x.k/\m=x.m then jW q k m-x.n else jW q k m:=by grind [Xp,jW,UW,Xq,Xn,Xo]
theorem a4o:∀(l:List Dw) (q:bz),aA q.fu=aA q.co->(l.Pairwise λx x'=>¬(x.k=x'.k/\x.m=x'.m))->(∀z∈l,0<=z.n/\z.n<=jW q z.k z.m)->Qv q l=(l.foldl kB q,0)
 | [],_,_,_,_=>rfl
 |x::l,q,hf,hp,h=>by
  obtain⟨h1,h2⟩:=h x (oZ ..);obtain⟨hx,nU⟩:=kX.1 hp;unfold Qv;rw [ifN (by omega),ifN (by omega),ifN (by omega),Ca];refine a4o l _ (by grind [Xr]) nU λz hz=> ?_
  grind [a7Y]
theorem aFD(l:List Dw):∀q:bz,(l.foldl kB q).co.length=aA q.co/\(l.foldl kB q).fu.length=aA q.fu:=by
 induction l with
 |nil=>grind
 |cons x l ih=>
  grind [Xr]
def KV(q:bz):Prop:=∀x∈fU q,0<=x/\x<=1099511627776
theorem aC4 {q:bz} {x:Dw}(hf:aA q.fu=aA q.co)(h:KV q)(hx:0<=x.n/\x.n<=jW q x.k x.m):KV (kB q x):=by
 have hb:∀v∈q.co++q.fu++ [q.line,q.cap],0<=v/\v<=1099511627776:=h;have key:0<=jW q x.k x.m:=by omega
 intro v hv;rcases Xl key with g|g|g|g
 ·have ht:jW q x.k x.m=cN q.co x.m:=by grind [Rx]
  have hm:=hb _ (uD _ (uD _ (BC g.1 g.2.1)));rw [Xp g] at hv;unfold fU at hv
  dsimp only at hv
  rcases gJ.1 hv with hv|hv
  ·rcases gJ.1 hv with hv|hv
   ·rcases List.mem_or_eq_of_mem_set hv with hv|hv
    ·exact hb _ (uD _ (uD _ hv))
    omega
   exact hb _ (uD _ (EE _ hv))
  exact hb _ (EE _ hv)
 ·have ht:jW q x.k x.m=cN q.fu x.m:=by grind [KR]
  have hm:=hb _ (uD _ (EE _ (BC (l:=q.fu) g.1 (by omega))));rw [Xq g] at hv;unfold fU at hv
  dsimp only at hv
  rcases gJ.1 hv with hv|hv
  ·rcases gJ.1 hv with hv|hv
   ·exact hb _ (uD _ (uD _ hv))
   rcases List.mem_or_eq_of_mem_set hv with hv|hv
   ·exact hb _ (uD _ (EE _ hv))
   omega
  exact hb _ (EE _ hv)
 ·have ht:jW q x.k x.m=q.line:=by grind [Ru]
  have hm:=hb q.line (by simp);have xF:=hb q.cap (by simp);rw [Xn g] at hv;unfold fU at hv
  dsimp only at hv
  rcases gJ.1 hv with hv|hv
  ·exact hb _ (uD _ hv)
  grind
 have ht:jW q x.k x.m=q.cap:=by grind [Rv]
 have hm:=hb q.cap (by simp);have xF:=hb q.line (by simp);rw [Xo g] at hv;unfold fU at hv
 dsimp only at hv
 rcases gJ.1 hv with hv|hv
 ·exact hb _ (uD _ hv)
 grind
theorem aC3 {q:bz}(h1:aA q.co=aA q.fu)(h2:aA q.co<=16)(h:KV q):iv q=0:=XM h1 h2 λk hk=>by have:=h _ (cK hk);grind [xP]
theorem a2n {l:List Int} {m v:Int}(h1:1<=m)(h2:m<=aA l):∀k:Nat,BN (l.set (m-1).toNat v) k=if m<=k then BN l k-cN l m+v else BN l k
 |0=>by rw [ifN (by omega)];rfl
 |k+1=>by unfold BN;rw [a2n h1 h2 k,UW h1 h2 (by omega)];grind
theorem a5n {l os:List Int} {m v:Int}(h1:1<=m)(h2:m<=aA l)(ho:os.contains m=aO):∀k:Nat,pH (cN (l.set (m-1).toNat v)) os k=if m<=k then pH (cN l) os k-cN l m+v else pH (cN l) os k
 |0=>by rw [ifN (by omega)];rfl
 |k+1=>by unfold pH;rw [a5n h1 h2 ho k,UW h1 h2 (by omega)];grind
theorem aJf {q:bz} {x:Dw} {os:List Int}(hf:aA q.fu=aA q.co)(hx:0<=jW q x.k x.m)(ho:x.k=8->os.contains x.m=aO):rz (kB q x) os (aA q.co)=rz q os (aA q.co)-x.n:=by rw [NR,NR];grind [Xl,Xp,a5n,Xq,a2n,Xn,Xo]
theorem a4g:∀(l:List Dw) (q:bz) (os:List Int),aA q.fu=aA q.co->KV q->(l.Pairwise λx x'=>¬(x.k=x'.k/\x.m=x'.m))->(∀z∈l,0<=z.n/\z.n<=jW q z.k z.m/\(z.k=8->os.contains z.m=aO))->
 KV (l.foldl kB q)/\rz (l.foldl kB q) os (aA q.co)=rz q os (aA q.co)-cV l
 | [],q,os,_,ha,_,_=>⟨ha,by simp [cV]⟩
 |x::l,q,os,hf,ha,hp,h=>by
  obtain⟨h1,h2,h3⟩:=h x (oZ ..);obtain⟨hx,nU⟩:=kX.1 hp;have hl:=Xr q x;rw [Ca];obtain⟨i1,i2⟩:=a4g l (kB q x) os (by omega) (aC4 hf ha ⟨h1,h2⟩) nU λz hz=>by grind [a7Y]
  grind [cV,aJf]
def F4(z:Dw):Int×Int:=(z.k,z.m)
theorem a2W:∀(y:List Dw) (zs:List Int),((ig y zs).map F4).Sublist (y.map F4)
 | [],zs=>by simp [ig]
 |x::y,[]=>by simp [ig]
 |x::y,n::zs=>by
  rw [Lu,dY];have ih:=a2W y zs;by_cases h:0<n
  ·rw [ifP h];exact ih.cons_cons _
  grind
theorem a2T:∀ {y:List Dw} {zs:List Int} {z:Dw},(∀i (h:i<aA zs) (h':i<aA y),zs[i]<=y[i].n)->z∈ig y zs->0<z.n/\∃x∈y,z.k=x.k/\z.m=x.m/\z.n<=x.n
 | [],zs,z,_,hz=>by simp [ig] at hz
 |x::y,[],z,_,hz=>by simp [ig] at hz
 |x::y,n::zs,z,h,hz=>by
  rw [Lu] at hz;rcases gJ.1 hz with hz|hz
  ·grind [oZ]
  obtain⟨h1,x',mL,h2⟩:=a2T (λi hi hi'=>h (i+1) (by simpa using hi) (by simpa using hi')) hz;grind
theorem aFO {y:List Dw} {nd:Int}(h:ux y)(hn:0<=nd) {z:Dw}(hz:z∈mh y nd):0<z.n/\∃x∈y,z.k=x.k/\z.m=x.m/\z.n<=x.n:=by have G:=ET (a1h h hn);refine a2T (λi hi hi'=> ?_) hz;have:=(G.bd i hi (by grind [fg])).2;grind [fg]
theorem VB:∀(ys:List (List Dw)) (nd:Int),((gl nd ys).map F4).Sublist (ys.flatten.map F4)
 | [],nd=>by simp [gl]
 |y::ys,nd=>by unfold gl;rw [List.flatten_cons,dY,dY];exact(a2W y _).append (VB ys _)
theorem a2z:∀ {ys:List (List Dw)} {nd:Int},(∀y∈ys,ux y)->0<=nd->∀z∈gl nd ys,0<z.n/\∃y∈ys,∃x∈y,z.k=x.k/\z.m=x.m/\z.n<=x.n
 | [],_,_,_,z,hz=>by simp [gl] at hz
 |y::ys,nd,h,hn,z,hz=>by
  have F:=ES (h y (by simp)) hn;have hs:=F.FI;unfold gl at hz;rcases gJ.1 hz with hz|hz
  ·obtain⟨h1,x,hx,e⟩:=aFO (h y (by simp)) hn hz;grind
  obtain⟨h1,y',hy,x,hx,e⟩:=a2z (λz hz=>h z (by simp [hz])) (by omega) z hz;grind
theorem aKS {y:List Dw}(h:∀x∈y,0<=x.n):sumI (fg y)=cV y:=by grind [a2R,cV,JG]
theorem a3B:∀ {ys:List (List Dw)} {nd:Int},(∀y∈ys,ux y)->0<=nd->cV (gl nd ys)=min nd ((ys.map cV).sum)
 | [],nd,_,hn=>by show (0:Int)=min nd 0;omega
 |y::ys,nd,h,hn=>by
  have F:=ES (h y (by simp)) hn;have hs:=F.FI;have e:=aKS λx hx=>((h y (by simp)).pos x hx).1
  have ih:=a3B (ys:=ys) (nd:=nd-min nd (sumI (fg y))) (λz hz=>h z (by simp [hz])) (by omega);have h0:=Xy ys;unfold gl;rw [Y3,F.Bu,ih,yB,EF,<-e];omega
theorem aFC {f:Int->Int->Int} {ys:List (List Dw)}(h:G9 f ys):(ys.flatten.map F4).Pairwise (· ≠ ·):=by
 rw [B8,List.pairwise_flatten];refine⟨λy hy=>(h.uniq y hy).imp λhne he=> ?_,h.up.imp λhlt x hx x' mL he=> ?_⟩
 ·grind [F4]
 grind [F4]
theorem aJX {p:bz} {os:List Int}(h:gH p os=0):((fQ p os).map cV).sum=qg p os:=by
 have F:=yS h;have vT:=XA h;have Hg:=F.all p.line (by simp [fU]);have hcp:=F.all p.cap (by simp [fU]);have qW:∀x∈p.co,0<=x:=λx hx=>(F.all x (by simp [fU,hx])).1
 have DJ:∀x∈p.fu,0<=x:=λx hx=>(F.all x (by simp [fU,hx])).1
 have e1:=NA 8 (cN p.co) os λm hm=>qW _ (BC (F.os1 m hm).1 (F.os1 m hm).2)
 have e2:=NA 9 (cN p.fu) os λm hm=>DJ _ (BC (F.os1 m hm).1 (by have:=(F.os1 m hm).2;have:=F.len;omega))
 have e3:=KJ (cN p.co) (aA p.co) os vT F.os1;have e4:=KJ (cN p.fu) (aA p.co) os vT F.os1;have e5:=XC (os:=os) DJ (aA p.co) (by have:=F.len;omega);have e6:=NR p os (aA p.co);rw [RT h];unfold fQ vZ;rw [dY,dY,Cc,Cc,e1,e2,F.len];grind [Y4]
theorem aKL {p:bz} {os:List Int}(F:EH p os) {y:List Dw}(hy:y∈fQ p os) {x:Dw}(hx:x∈y):x.n=jW p x.k x.m/\(x.k=8->os.contains x.m=aO):=by
 have hl:=F.len;rcases NW hy with⟨m,hm,rfl⟩|⟨m,hm,rfl⟩|rfl|rfl|rfl
 ·simp at hx;subst hx;have:=F.os1 m hm;grind [Rx]
 ·simp at hx;subst hx;have:=F.os1 m hm;grind [KR]
 ·obtain⟨i,hi,_,rfl⟩:=ND hx;grind [KR,cN]
 ·grind [Ru]
 grind [Rv]
structure a7z(p:bz)(os:List Int)(need:Int)(l:List Dw):Prop where
 len:aA l<=1000
 one:∀z∈l,0<z.n/\z.n<=jW p z.k z.m/\(z.k=8->os.contains z.m=aO)
 uniq:l.Pairwise λx x'=>¬(x.k=x'.k/\x.m=x'.m)
 Bu:cV l=min need (qg p os)
theorem a1T {p:bz} {os:List Int} {need:Int}(h:ry p os need=0)(hI:aL need)(mH:aA os<=100):a7z p os need (oI p os need):=by
 have O:=aIM h hI mH;have hm:gH p os=0:=by grind [ry]
 have hn:0<=need:=by grind [ry]
 have F:=yS hm;have dR:=Xm F;have e:oI p os need=gl need (fQ p os):=by grind [oI,tN,Pm]
 refine⟨O.len, ?_, ?_, ?_⟩
 ·rw [e];intro z hz;obtain⟨h1,y,hy,x,hx,e1,e2,e3⟩:=a2z dR hn z hz;grind [aKL]
 ·rw [e];have:=(aFC (a6z hm)).sublist (VB (fQ p os) need);grind [F4]
 grind [a3B,aJX]
structure a8A(p:bz)(os:List Int)(need:Int)(l:List Dw):Prop where
 less:a4j p l=(l.foldl kB p,0)
 may:gH (l.foldl kB p) os=0
 room:qg (l.foldl kB p) os=qg p os-cV l
 chk:iv (l.foldl kB p)=0
 Bu:s7 l=min need (qg p os)
 cV:cV l=min need (qg p os)
 aMZ:gH p os=0
 aMW:0<=need
theorem aCg {p:bz} {os:List Int} {need:Int}(h:ry p os need=0)(hI:aL need)(mH:aA os<=100):a8A p os need (oI p os need):=by
 have B:=a1T h hI mH;have hm:gH p os=0:=by grind [ry]
 have hn:0<=need:=by grind [ry]
 have F:=yS hm;generalize oI p os need=l at*;have hl:=aFD l p;obtain⟨a1,a2⟩:=a4g l p os F.len F.all B.uniq λz hz=>⟨by have:=(B.one z hz).1;omega,(B.one z hz).2.1,(B.one z hz).2.2⟩
 have Hl:iv p=0:=by grind [gH]
 have hce:=aC3 (by rw [hl.1,hl.2];exact F.len.symm) (by rw [hl.1];exact F.big) a1;have hme:gH (l.foldl kB p) os=0:=by grind [gH]
 refine⟨?_,hme, ?_,hce, ?_,B.Bu,hm,hn⟩
 ·unfold a4j;rw [ifN (by omega)];exact a4o l p F.len B.uniq λz hz=>⟨by have:=(B.one z hz).1;omega,(B.one z hz).2.1⟩
 ·grind [RT]
 have:=B.Bu;grind [aL,Rz]
structure Sm(D D':Dk):Prop where
 x:D'.x=D.x
 h:D'.h=D.h
 ob:D'.ob=D.ob
 bx:D'.bx=D.bx
 who:D'.who=D.who
 aj:D'.aj=D.aj
 st:D'.st=D.st
 en:D'.en=D.en
 lg:∃t,D'.log=D.log++t/\∀e∈t,e.k≠15
theorem Sm.refl(D:Dk):Sm D D:=⟨rfl,rfl,rfl,rfl,rfl,rfl,rfl,rfl,[],by simp,by simp⟩
theorem Sm.trans {D E F:Dk}(h:Sm D E)(h':Sm E F):Sm D F:=by obtain⟨t,e,ht⟩:=h.lg;obtain⟨t',e',zu⟩:=h'.lg;exact⟨h'.x.trans h.x,h'.h.trans h.h,h'.ob.trans h.ob,h'.bx.trans h.bx,h'.who.trans h.who,h'.aj.trans h.aj,h'.st.trans h.st,h'.en.trans h.en,t++t',by grind,λx hx=>(gJ.1 hx).elim (ht x) (zu x)⟩
def nx(a:Int):List Lg->Int
 | []=>0
 |x::L=>(if x.a=a then x.n else 0)+nx a L
theorem PD {a:Int}:∀ {L:List Lg},(∀x∈L,1<=x.n)->0<=nx a L
 | [],_=>dH 0
 |x::L,h=>by have:=h x (by simp);have:=PD (a:=a) (L:=L) (λy hy=>h y (df _ hy));grind [nx]
abbrev B(D:Dk)(k m a:Int):Int:=balA (aA D.x.ms) (aA D.x.ss+1) D.l k m a
def y9(x:ak)(y:Lg):Prop:=(1<=y.m/\y.m<=(aA x.ms:Int))/\(0<=y.a/\y.a<=(aA x.ss:Int))/\1<=y.n
theorem aw.give {C:Int} {g:Nat} {D:Dk}(H:aw C g D) {x:Lg}(hx:y9 D.x x)(h2:x.n<=B D 1 0 x.a):
 aw C (g+1) (Gm D x)/\Sm D (Gm D x)/\(∀k m b,k≠1->k≠7->B (Gm D x) k m b=B D k m b)/\∀b,B (Gm D x) 1 0 b=B D 1 0 b-if x.a=b then x.n else 0:=by
 obtain⟨_,h,hd⟩:=H.goes (tk:=7) (tm:=x.m) (a:=x.a) (n:=x.n) (e:=⟨13,x.m,x.a,x.n,0⟩) (.inl ⟨rfl,hx.1⟩) hx.2.1 hx.2.2 h2 ⟨rfl,rfl,rfl⟩;refine⟨h,⟨rfl,rfl,rfl,rfl,rfl,rfl,rfl,rfl,[⟨13,x.m,x.a,x.n,0⟩],rfl,by simp⟩, ?_, ?_⟩
 ·intro k m b h1 h7;refine(hd k m b).trans ?_;grind
 intro b;refine(hd 1 0 b).trans ?_;grind
theorem aw.gives:∀(L:List Lg) {C:Int} {g:Nat} {D:Dk},aw C g D->(∀x∈L,y9 D.x x)->(∀a,nx a L<=B D 1 0 a)->
 (∀k,k<=aA L->aw C (g+k) (ij D (L.take k)))/\Sm D (ij D L)/\(∀k m b,k≠1->k≠7->B (ij D L) k m b=B D k m b)/\∀b,B (ij D L) 1 0 b=B D 1 0 b-nx b L
 | [],C,g,D,H,_,_=>⟨λk hk=>by have:k=0:=by simpa using hk
                              subst this;exact H,Sm.refl D,λ_ _ _ _ _=>rfl,λb=>by simp [nx,ij]⟩
 |x::L,C,g,D,H,hx,ha=>by
  have h1:=hx x (by simp);have hp:∀y∈L,y9 D.x y:=λy hy=>hx y (df _ hy)
  have Ma:=λa=>PD (a:=a) (L:=L) (λy hy=>(hp y hy).2.2)
  have h2:x.n<=B D 1 0 x.a:=by have h3:=ha x.a;have:=Ma x.a;unfold nx at h3;rw [ifP rfl] at h3;omega
  obtain⟨G,S,K,Hs⟩:=H.give h1 h2;have ih:=aw.gives L G hp (λa=>by have:=ha a;rw [Hs a];simp only [nx] at this;omega);obtain⟨G2,S2,K2,H2⟩:=ih;refine⟨?_,S.trans S2, ?_, ?_⟩
  ·intro k hk;cases k with
   |zero=>exact H
   |succ k=>
    have:=G2 k (by simpa using hk);rw [show g+(k+1)=g+1+k by omega];exact this
  ·intro k m b e1 e7;exact(K2 k m b e1 e7).trans (K k m b e1 e7)
  intro b;refine(H2 b).trans ?_;rw [Hs b];simp only [nx];omega
theorem aw.Pa {C:Int} {kd:Int}(hk:kd=4\/kd=14\/kd=15):∀(L:List Lg) {g:Nat} {D:Dk},aw C g D->(∀x∈L,(0<=x.a/\x.a<=(aA D.x.ss:Int))/\(1<=x.n\/kd=4))->aw C (g+aA L) (jq D kd L)
 | [],g,D,H,_=>by show aw C g {D with log:=D.log++ []};rw [List.append_nil];exact H
 |x::L,g,D,H,h=>by
  have h1:=h x (by simp);have hf:yJ ⟨kd,x.m,x.a,x.n,0⟩=0:=by grind [yJ]
  have G:aw C (g+1) {D with log:=D.log++ [⟨kd,x.m,x.a,x.n,0⟩]}:=by
   have gV:∀a,mf (D.log++ [⟨kd,x.m,x.a,x.n,0⟩]) a=B D 1 0 a:=λa=>by rw [D8,D9,H.fl a,hf];split<;>simp
   refine⟨H.hs,H.bE,H.h8,H.hl,gV,H.lg.snoc ⟨h1.1.1,h1.1.2, ?_⟩ (λa=>by rw [gV];have h5:=H.house a;have h6:=H.bE.big;exact⟨h5.1,by grind⟩),by show aA (D.log++ [_])<=g+1;rw [cL];have:=H.gl;simp;omega,H.who,H.ob,H.bx,H.bl,H.st,H.aj⟩;grind
  have ih:=aw.Pa hk L G (λy hy=>h y (df _ hy));grind [jq]
theorem a2Y(D:Dk) {kd:Int}(hk:kd≠15)(L:List Lg):Sm D (jq D kd L):=⟨rfl,rfl,rfl,rfl,rfl,rfl,rfl,rfl,_,rfl,λe he=>by grind⟩
def LW(x:ak)(k m:Int):Prop:=((k=8\/k=9)/\1<=m/\m<=(aA x.ms:Int))\/((k=3\/k=4)/\m=0)
theorem aw.comes {C:Int} {g:Nat} {D:Dk}(H:aw C g D) {x:Dw}(hs:LW D.x x.k x.m)(hh:D.h= [])(h1:1<=x.n)(h2:x.n<=B D x.k x.m 0)(hC:C+2*x.n<=4611686018427387904+1125899906842624):
 aw (C+2*x.n) (g+1) (pZ D x)/\Sm D (pZ D x)/\∀k m b,B (pZ D x) k m b=B D k m b+((if k=x.k/\m=x.m/\b=0 then-x.n else 0)+(if k=1/\m=0/\b=0 then x.n else 0)):=by
 obtain⟨fk,fm,n⟩:=x;simp only at hs h1 h2 hC ⊢;obtain⟨j,hj⟩:=NL (M:=aA D.x.ms) (A:=aA D.x.ss+1) (a:=0) (by omega) (by omega);have hi:∃i,plcA (aA D.x.ms) (aA D.x.ss+1) fk fm 0=aC i:=by
  rcases hs with⟨h,h'⟩|⟨h,rfl⟩
  ·exact Bp (.inr h) h' (by omega) (by omega)
  rcases h with rfl|rfl
  ·exact aJ0 (by omega) (by omega)
  exact aIy (by omega) (by omega)
 obtain⟨i,hi⟩:=hi;have hne:¬fk=1:=by rcases hs with⟨h,_⟩|⟨h,_⟩<;>omega
 have zi:=H.house 0;have hF:=H.bE.F0;have bU:B D fk fm 0<=1099511627776:=by
  rcases hs with⟨h|h,_⟩|⟨h|h,rfl⟩
  ·subst h;exact H.bE.sr fm 0
  ·subst h;have:=H.bE.zY fm 0;show balA _ _ _ _ _ _<=_;omega
  ·subst h;have:=H.bE.zx 0;show balA _ _ _ _ _ _<=_;omega
  subst h;have:=H.bE.cap 0;show balA _ _ _ _ _ _<=_;omega
 have uM:n<=balA (aA D.x.ms) (aA D.x.ss+1) D.l fk fm 0:=h2;have aLz:balA (aA D.x.ms) (aA D.x.ss+1) D.l fk fm 0<=1099511627776:=bU;have Q5:uU D fk fm 1 0 0 n=0:=N6 hi hj (by omega) (by omega) (by unfold aL;omega) (.inr ⟨uM,by rw [hh];show (0:Int)<=_;omega⟩) (by unfold aL;omega) (by unfold aL;omega) H.bE.ok.len;have hd:=Qz Q5 H.bE.ok.len hi hj;have dR:nE (aA D.x.ms) (aA D.x.ss+1) (bg D fk fm 1 0 0 n):=nE.mv H.bE.ok H.hs.sl.2;have gV:∀b,mf (D.log++ [⟨10,fm,0,n,fk⟩]) b=balA (aA D.x.ms) (aA D.x.ss+1) (bg D fk fm 1 0 0 n) 1 0 b:=by intro b;rw [D8,D9,H.fl b,hd,show yJ ⟨10,fm,0,n,fk⟩=n from rfl];grind
 refine⟨⟨H.hs,⟨dR, ?_, ?_, ?_, ?_, ?_, ?_, ?_,hC,H.bE.F0⟩,H.h8,H.hl, ?_, ?_, ?_,H.who,H.ob,H.bx,H.bl,H.st,H.aj⟩,⟨rfl,rfl,rfl,rfl,rfl,rfl,rfl,rfl,[⟨10,fm,0,n,fk⟩],rfl,by simp⟩,hd⟩
 ·intro m b;refine jm (rD (hd 8 m b)) ?_;have:=H.bE.sr m b;split<;>split<;>omega
 ·intro m b;refine jm (rD (hd 9 m b)) ?_;have:=H.bE.zY m b;show balA _ _ _ _ _ _+_<=(if D.en=aO then (1099511627776:Int) else 0);omega
 ·intro b;refine jm (rD (hd 3 0 b)) ?_;have:=H.bE.zx b;show balA _ _ _ _ _ _+_<=(if D.en=aO then (1099511627776:Int) else 0);omega
 ·intro b;refine jm (rD (hd 4 0 b)) ?_;have:=H.bE.cap b;show balA _ _ _ _ _ _+_<=(if D.en=aO then (1099511627776:Int) else 0);omega
 ·intro m b;show _<=balA (aA D.x.ms) (aA D.x.ss+1) (bg D fk fm 1 0 0 n) 7 m b+balA (aA D.x.ms) (aA D.x.ss+1) (bg D fk fm 1 0 0 n) 8 m b-balA (aA D.x.ms) (aA D.x.ss+1) (bg D fk fm 1 0 0 n) 1 0 b;rw [hd 7,hd 8,hd 1];have:=H.bE.lo m b;grind
 ·intro m b;show balA (aA D.x.ms) (aA D.x.ss+1) (bg D fk fm 1 0 0 n) 7 m b+balA (aA D.x.ms) (aA D.x.ss+1) (bg D fk fm 1 0 0 n) 8 m b+balA (aA D.x.ms) (aA D.x.ss+1) (bg D fk fm 1 0 0 n) 1 0 b<=_;rw [hd 7,hd 8,hd 1];have:=H.bE.hi m b;grind
 ·intro b;show balA (aA D.x.ms) (aA D.x.ss+1) (bg D fk fm 1 0 0 n) 2 0 b+balA (aA D.x.ms) (aA D.x.ss+1) (bg D fk fm 1 0 0 n) 1 0 b<=_;rw [hd 2,hd 1];have:=H.bE.es b;grind
 ·intro b;exact gV b
 ·refine H.lg.snoc ⟨by grind,by grind,.inl h1⟩ (λb=> ?_);rw [gV];refine⟨dR.nn rfl 0 b, ?_⟩;rw [hd];have h5:=(H.house b).2;omega
 show aA (D.log++ [_])<=g+1;rw [cL];have:=H.gl;simp;omega
def Gh(k m:Int):List Dw->Int
 | []=>0
 |x::L=>(if k=x.k/\m=x.m then x.n else 0)+Gh k m L
theorem Us {k m:Int}:∀ {L:List Dw},(∀x∈L,¬(k=x.k/\m=x.m))->Gh k m L=0
 | [],_=>rfl
 |x::L,h=>by simp only [Gh];rw [ifN (h x (by simp)),Us (λy hy=>h y (df _ hy))];rfl
theorem aw.draws:∀(L:List Dw) {C:Int} {g:Nat} {D:Dk},aw C g D->D.h= []->(∀x∈L,LW D.x x.k x.m/\1<=x.n/\x.n<=B D x.k x.m 0)->(L.Pairwise λx x'=>¬(x.k=x'.k/\x.m=x'.m))->C+2*cV L<=4611686018427387904+1125899906842624->
 (∀k,k<=aA L->aw (C+2*cV L) (g+k) (o8 D (L.take k)))/\Sm D (o8 D L)/\(∀k m b,B (o8 D L) k m b=B D k m b+((if b=0 then-Gh k m L else 0)+(if k=1/\m=0/\b=0 then cV L else 0)))
 | [],C,g,D,H,_,_,_,hC=>by grind [cV,Sm.refl,Gh,o8]
 |x::L,C,g,D,H,hh,hx,hp,hC=>by
  rw [kX] at hp;have h1:=hx x (by simp);have hn:=IL L;have hne:¬(x.k=1):=by rcases h1.1 with⟨h,_⟩|⟨h,_⟩<;>omega
  have et:cV (x::L)=x.n+cV L:=by grind [cV]
  rw [et] at hC ⊢;obtain⟨G,S,K⟩:=H.comes h1.1 hh h1.2.1 h1.2.2 (by omega);have ih:=aw.draws L G (by rw [S.h];exact hh) (λy hy=>by
   have hy':=hx y (df _ hy);have hd:=hp.1 y hy;have hny:¬(y.k=1):=by rcases hy'.1 with⟨h,_⟩|⟨h,_⟩<;>omega
   refine⟨hy'.1,hy'.2.1, ?_⟩;grind) hp.2 (by omega)
  obtain⟨G2,S2,K2⟩:=ih;refine⟨?_,S.trans S2, ?_⟩
  ·intro k hk;cases k with
   |zero=>exact(H.wide (by omega) (by omega) (by omega))
   |succ k=>
    have:=G2 k (by simpa using hk);rw [show g+(k+1)=g+1+k by omega,show C+2*(x.n+cV L)=C+2*x.n+2*cV L by omega];exact this
  intro k m b;refine(K2 k m b).trans ?_;grind [Gh]
theorem Uk(D:Dk)(n:Nat) {i:Nat}(hi:i<aA (gU D n)):(gU D n)[i]=B D 8 ((i:Int)+1) 0:=by simp [gU,B]
theorem V8(D:Dk)(n:Nat) {i:Nat}(hi:i<aA (gu D n)):(gu D n)[i]=B D 9 ((i:Int)+1) 0:=by simp [gu,B]
theorem UT(D:Dk) {m:Int}(h1:1<=m)(h2:m<=(aA D.x.ms:Int)):cN (gU D (aA D.x.ms)) m=B D 8 m 0:=by
 unfold cN;have hl:(m-1).toNat<aA (gU D (aA D.x.ms)):=by rw [o6];omega
 rw [sQ,iA hl,Og,Uk,show (((m-1).toNat:Nat):Int)+1=m by omega]
theorem UU(D:Dk) {m:Int}(h1:1<=m)(h2:m<=(aA D.x.ms:Int)):cN (gu D (aA D.x.ms)) m=B D 9 m 0:=by
 unfold cN;have hl:(m-1).toNat<aA (gu D (aA D.x.ms)):=by rw [vF];omega
 rw [sQ,iA hl,Og,V8,show (((m-1).toNat:Nat):Int)+1=m by omega]
theorem aw.may {C:Int} {g:Nat} {D:Dk}(H:aw C g D):gH (jB D) D.who=0:=by
 have hF:(if D.en=aO then (1099511627776:Int) else 0)<=1099511627776:=by split<;>omega
 refine a4v (XM (by show aA (gU D _)=aA (gu D _);rw [o6,vF]) (by show aA (gU D _)<=16;rw [o6];exact H.hs.ml.2) ?_) ?_
 ·intro k hk;have hm:=cK hk;generalize (fU (jB D))[k]=v at hm;have QF:v∈gU D (aA D.x.ms)++gu D (aA D.x.ms)++ [B D 3 0 0,B D 4 0 0]:=hm;have key:0<=v/\v<=1099511627776:=by
   simp only [gJ,fC,List.not_mem_nil,or_false] at QF;rcases QF with (h|h)|h|h
   ·obtain⟨i,_,rfl⟩:=dV.1 h;exact⟨H.bE.ok.nn rfl _ _,H.bE.sr _ _⟩
   ·obtain⟨i,_,rfl⟩:=dV.1 h;exact⟨H.bE.ok.nn rfl _ _,jm (H.bE.zY _ _) hF⟩
   ·subst h;exact⟨H.bE.ok.nn rfl _ _,jm (H.bE.zx _) hF⟩
   subst h;exact⟨H.bE.ok.nn rfl _ _,jm (H.bE.cap _) hF⟩
  grind [xP]
 intro k hk;have hg:D.who.getD k 0=D.who[k]:=by grind
 have h1:=H.who.pD _ (cK hk);unfold tM;rw [hg,show (jB D).co.length=(aA D.x.ms) from o6 _ _,decide_eq_false (by omega),decide_eq_false (by omega),Bool.false_or,Bool.false_or];by_cases h0:0<k
 ·have zl:k-1<aA D.who:=by omega
  have hg1:D.who.getD (k-1) 0=D.who[k-1]:=by grind
  have:=uu.1 H.who.up (k-1) k zl hk (by omega);grind
 grind
def kA(D:Dk):Int:=qg (jB D) D.who
theorem aw.room {C:Int} {g:Nat} {D:Dk}(H:aw C g D):0<=kA D/\kA D<=37383395344384:=by
 unfold kA;rw [RT H.may];have h:=RZ (yS H.may) (jB D).co.length (aZ _);have hl:(jB D).co.length<=16:=by rw [show (jB D).co.length=(aA D.x.ms) from o6 _ _];exact H.hs.ml.2
 omega
theorem a6U {p:bz} {os:List Int}(h:EH p os):∀k,k<=aA p.co->rz p os k<=0->p.line=0/\p.cap=0/\∀i:Nat,i<k->cN p.fu ((i:Int)+1)=0/\(os.contains ((i:Int)+1)=aO->cN p.co ((i:Int)+1)=0)
 |0,_,h0=>by have h1:=h.all p.line (by simp [fU]);have h2:=h.all p.cap (by simp [fU]);grind [rz]
 |k+1,hk,h0=>by
  have hb:=(RZ h k (by omega)).1;have hf:0<=cN p.fu ((k:Int)+1):=(h.all _ (by unfold fU;exact uD _ (EE _ (BC (by omega) (by rw [h.len];omega))))).1;have hc:0<=cN p.co ((k:Int)+1):=(h.all _ (by grind [fU,BC])).1;have h0':rz p os k+cN p.fu ((k:Int)+1)+(if os.contains ((k:Int)+1)=aO then cN p.co ((k:Int)+1) else 0)<=0:=h0;have hx:0<=(if os.contains ((k:Int)+1)=aO then cN p.co ((k:Int)+1) else 0):=by split<;>omega
  obtain⟨e1,e2,e3⟩:=a6U h k (by omega) (by omega);grind
theorem aw.bare {C:Int} {g:Nat} {D:Dk}(H:aw C g D)(h:kA D=0):B D 3 0 0=0/\B D 4 0 0=0/\∀m:Int,1<=m->m<=(aA D.x.ms:Int)->B D 9 m 0=0/\(hasB D.who m=aO->B D 8 m 0=0):=by unfold kA at h;rw [RT H.may] at h;have hl:(jB D).co.length=aA D.x.ms:=o6 _ _;obtain⟨e1,e2,e3⟩:=a6U (yS H.may) (jB D).co.length (aZ _) (by omega);refine⟨e1,e2,λm h1 h2=> ?_⟩;obtain⟨f1,f2⟩:=e3 (m-1).toNat (by rw [hl];omega);rw [show (((m-1).toNat:Nat):Int)+1=m by omega] at f1 f2;have g1:cN (gU D (aA D.x.ms)) m=B D 8 m 0:=UT D h1 h2;have g2:cN (gu D (aA D.x.ms)) m=B D 9 m 0:=UU D h1 h2;exact⟨g2.symm.trans f1,λhw=>g1.symm.trans (f2 hw)⟩
theorem aJ5 {D:Dk} {x:Dw}(hs:LW D.x x.k x.m)(K:∀k m b,B (pZ D x) k m b=B D k m b+((if k=x.k/\m=x.m/\b=0 then-x.n else 0)+(if k=1/\m=0/\b=0 then x.n else 0))):jB (pZ D x)=kB (jB D) x:=by
 obtain⟨fk,fm,n⟩:=x;have jt:(jB D).co.length=aA D.x.ms:=o6 _ _;have e8:∀i:Nat,i<aA D.x.ms->B (pZ D ⟨fk,fm,n⟩) 8 ((i:Int)+1) 0=B D 8 ((i:Int)+1) 0+(if 8=fk/\(i:Int)+1=fm then-n else 0):=λi _=>by rw [K];simp
 have e9:∀i:Nat,i<aA D.x.ms->B (pZ D ⟨fk,fm,n⟩) 9 ((i:Int)+1) 0=B D 9 ((i:Int)+1) 0+(if 9=fk/\(i:Int)+1=fm then-n else 0):=λi _=>by rw [K];simp
 have e3:=K 3 0 0;have e4:=K 4 0 0;have qW:¬fk=8->gU (pZ D ⟨fk,fm,n⟩) (aA D.x.ms)=gU D (aA D.x.ms):=λh=>by refine LM (by rw [o6,o6]) (λi h1 h2=> ?_);grind [Uk]
 have DJ:¬fk=9->gu (pZ D ⟨fk,fm,n⟩) (aA D.x.ms)=gu D (aA D.x.ms):=λh=>by refine LM (by rw [vF,vF]) (λi h1 h2=> ?_);grind [V8]
 have hp:∀li ca,B (pZ D ⟨fk,fm,n⟩) 3 0 0=li->B (pZ D ⟨fk,fm,n⟩) 4 0 0=ca->jB (pZ D ⟨fk,fm,n⟩)=⟨gU (pZ D ⟨fk,fm,n⟩) (aA D.x.ms),aB,0,gu (pZ D ⟨fk,fm,n⟩) (aA D.x.ms),aB,0,li,ca⟩:=by rintro _ _ rfl rfl;rfl
 simp only at e3 e4 hs;unfold kB;rw [jt];rcases hs with⟨h|h,h1,h2⟩|⟨h|h,h1⟩
 ·subst h;rw [ifP ⟨h1,h2,rfl⟩,hp (B D 3 0 0) (B D 4 0 0) (by rw [e3];simp) (by rw [e4];simp),DJ (by decide)];have:gU (pZ D ⟨8,fm,n⟩) (aA D.x.ms)=(gU D (aA D.x.ms)).set (fm-1).toNat (cN (gU D (aA D.x.ms)) fm-n):=by
   refine LM (by grind [o6]) (λi g1 g2=> ?_);grind [o6,Uk,UT]
  rw [this];rfl
 ·subst h;rw [ifN (by simp),ifP ⟨h1,h2,rfl⟩,hp (B D 3 0 0) (B D 4 0 0) (by rw [e3];simp) (by rw [e4];simp),qW (by decide)];have:gu (pZ D ⟨9,fm,n⟩) (aA D.x.ms)=(gu D (aA D.x.ms)).set (fm-1).toNat (cN (gu D (aA D.x.ms)) fm-n):=by
   refine LM (by grind [vF]) (λi g1 g2=> ?_);grind [vF,V8,UU]
  rw [this];rfl
 ·subst h h1;rw [ifN (by simp),ifN (by simp),ifP ⟨rfl,rfl⟩,hp (B D 3 0 0-n) (B D 4 0 0) (by rw [e3];simp;omega) (by rw [e4];simp),qW (by decide),DJ (by decide)];rfl
 subst h h1;rw [ifN (by simp),ifN (by simp),ifN (by simp),hp (B D 3 0 0) (B D 4 0 0-n) (by rw [e3];simp) (by rw [e4];simp;omega),qW (by decide),DJ (by decide)];rfl
theorem a5t:∀(L:List Dw) {C:Int} {g:Nat} {D:Dk},aw C g D->D.h= []->(∀x∈L,LW D.x x.k x.m/\1<=x.n/\x.n<=B D x.k x.m 0)->(L.Pairwise λx x'=>¬(x.k=x'.k/\x.m=x'.m))->C+2*cV L<=4611686018427387904+1125899906842624->
 jB (o8 D L)=L.foldl kB (jB D)
 | [],C,g,D,_,_,_,_,_=>rfl
 |x::L,C,g,D,H,hh,hx,hp,hC=>by
  rw [kX] at hp;have h1:=hx x (by simp);have hn:=IL L;have hne:¬(x.k=1):=by rcases h1.1 with⟨h,_⟩|⟨h,_⟩<;>omega
  have et:cV (x::L)=x.n+cV L:=by grind [cV]
  rw [et] at hC;obtain⟨G,S,K⟩:=H.comes h1.1 hh h1.2.1 h1.2.2 (by omega);rw [Ca,<-aJ5 h1.1 K];exact a5t L G (by rw [S.h];exact hh) (λy hy=>by
   have hy':=hx y (df _ hy);have hd:=hp.1 y hy;have hny:¬(y.k=1):=by rcases hy'.1 with⟨h,_⟩|⟨h,_⟩<;>omega
   refine⟨hy'.1,hy'.2.1, ?_⟩;grind) hp.2 (by omega)
structure a8E(C:Int)(g:Nat)(D:Dk)(n:Int):Prop where
 steps:∀k,k<=aA (iC D n)->aw (C+140737488355328) (g+k) (o8 D ((iC D n).take k))
 len:aA (iC D n)<=50
 dI:∀x∈iC D n,aL x.k/\aL x.m/\aL x.n/\0<=x.n
 sm:Sm D (lY D n)
 keep:∀k m b,(b≠0\/k=2\/k=5\/k=6\/k=7)->B (lY D n) k m b=B D k m b
 house:B (lY D n) 1 0 0=B D 1 0 0+min (max n 0) (kA D)
 room:kA (lY D n)=kA D-min (max n 0) (kA D)
theorem aKM(p:bz)(os:List Int):(fQ p os).flatten.length<=2*aA os+aA p.fu+2:=by
 have h:=KI p.fu os (aA p.fu);have h1:∀(f:Int->Dw) (l:List Int),(l.map (λm=> [f m])).flatten.length=aA l:=by
  intro f l;induction l with
  |nil=>rfl
  |cons x l ih=>grind
 unfold fQ;rw [a9Q,a9Q,cL,cL,h1 (λm=>⟨8,m,cN p.co m⟩),h1 (λm=>⟨9,m,cN p.fu m⟩)];grind [vZ]
theorem aIu {p:bz} {os:List Int} {need:Int}(h:ry p os need=0)(hm:gH p os=0)(hn:0<=need)(hI:aL need):aA (oI p os need)<=2*aA os+aA p.fu+2:=by
 have dR:=Xm (yS hm);have e:oI p os need=gl need (fQ p os):=by grind [oI,tN,Pm]
 grind [VB,iK,aKM]
theorem aw.drawn {C:Int} {g:Nat} {D:Dk}(H:aw C g D)(hh:D.h= []) {n:Int}(hn:aL n)(hC:C+140737488355328<=4611686018427387904+1125899906842624):a8E C g D n:=by
 have hr:=H.room;by_cases h0:n<=0
 ·have e:iC D n= []:=by grind [iC]
  have e':lY D n=D:=by unfold lY;rw [e];rfl
  have em:min (max n 0) (kA D)=0:=by omega
  refine⟨?_,by rw [e];simp,by rw [e];simp,by grind [Sm.refl],λk m b _=>by rw [e'],by rw [e',em];omega,by rw [e',em];omega⟩;rw [e];intro k hk;have:k=0:=by simpa using hk
  subst this;exact H.wide (by omega) hC (by omega)
 have Hl:ry (jB D) D.who n=0:=by unfold ry;rw [ifN (by rw [H.may];simp),ifN (by omega)]
 have Jz:=H.who.len;have iW:=H.hs.ml;have BF:=a1T Hl hn (by omega);have BL:=aCg Hl hn (by omega);have hpl:=aIu Hl H.may (by omega) hn;have e:iC D n=oI (jB D) D.who n:=by grind [iC]
 have gV:(jB D).fu.length=aA D.x.ms:=vF _ _;have jt:(jB D).co.length=aA D.x.ms:=o6 _ _;rw [<-e] at BF BL hpl;have Ho:∀x∈iC D n,LW D.x x.k x.m/\1<=x.n/\x.n<=B D x.k x.m 0:=λx hx=>by
  obtain⟨a1,a2,_⟩:=BF.one x hx;have h8:0<=jW (jB D) x.k x.m:=by omega
  rcases Xl h8 with g|g|g|g
  ·rw [jt] at g;refine⟨.inl ⟨.inl g.2.2,g.1,g.2.1⟩,a1, ?_⟩;grind [Rx,jB,UT]
  ·rw [jt] at g;refine⟨.inl ⟨.inr g.2.2,g.1,g.2.1⟩,a1, ?_⟩;grind [KR,jB,UU]
  ·refine⟨.inr ⟨.inl g.2,g.1⟩,a1, ?_⟩;rw [g.1,g.2,Ru] at a2;rw [g.1,g.2];exact a2
  refine⟨.inr ⟨.inr g.2,g.1⟩,a1, ?_⟩;rw [g.1,g.2,Rv] at a2;rw [g.1,g.2];exact a2
 have ht:cV (iC D n)=min n (kA D):=BF.Bu;have Mo:C+2*cV (iC D n)<=C+140737488355328:=by rw [ht];omega
 obtain⟨G,S,K⟩:=aw.draws (iC D n) H hh Ho BF.uniq (by omega);have aGK:=a5t (iC D n) H hh Ho BF.uniq (by omega);have em:min (max n 0) (kA D)=cV (iC D n):=by rw [ht];omega
 refine⟨λk hk=>(G k hk).wide Mo hC (aZ _),by omega, ?_,S, ?_, ?_, ?_⟩
 ·intro x hx;obtain⟨s,a1,a2⟩:=Ho x hx;have hb:B D x.k x.m 0<=1099511627776:=by
   have hF:(if D.en=aO then (1099511627776:Int) else 0)<=1099511627776:=by split<;>omega
   rcases s with⟨h|h,_⟩|⟨h|h,e⟩
   ·rw [h];exact H.bE.sr _ _
   ·rw [h];exact jm (H.bE.zY _ _) hF
   ·rw [h,e];exact jm (H.bE.zx _) hF
   rw [h,e];exact jm (H.bE.cap _) hF
  refine⟨?_, ?_,by unfold aL;omega,by omega⟩<;>rcases s with⟨h,h',h''⟩|⟨h,h'⟩<;>unfold aL<;>omega
 ·intro k m b hkb;refine(K k m b).trans ?_;have hd:b=0->Gh k m (iC D n)=0:=λ_=>Us (λx hx zn=>by
   obtain⟨s,_,_⟩:=Ho x hx;rcases s with⟨h,_⟩|⟨h,_⟩<;>omega)
  omega
 ·refine(K 1 0 0).trans ?_;rw [ifP rfl,ifP ⟨rfl,rfl,rfl⟩,Us (λx hx zn=>by
   obtain⟨s,_,_⟩:=Ho x hx;rcases s with⟨h,_⟩|⟨h,_⟩<;>omega),em]
  omega
 show qg (jB (o8 D (iC D n))) (o8 D (iC D n)).who=_;rw [aGK,S.who,BL.room,em];rfl
def ji(p:Lg->Bool):List Lg->Int
 | []=>0
 |x::l=>(if p x then x.n else 0)+ji p l
theorem Ri(p:Lg->Bool):∀(l m:List Lg),ji p (l++m)=ji p l+ji p m
 | [],m=>by simp [ji]
 |x::l,m=>by simp only [List.cons_append,ji,Ri p l m];omega
theorem KQ:∀l:List Lg,ji (λ_=>aO) l=sumI (bF l)
 | []=>rfl
 |x::l=>by have:=KQ l;grind [ji,bF,sumI]
theorem Xt(p:Lg->Bool):∀(l:List Lg),(∀x∈l,0<=x.n)->0<=ji p l
 | [],_=>by simp [ji]
 |x::l,h=>by
  have h1:=Xt p l λy hy=>h y (df _ hy)
  grind [ji]
def N5(x:Lg)(n:Int):Lg:=⟨x.m,x.a,n⟩
theorem Xi(x:Lg)(L:List Lg)(n:Int)(xs:List Int):ej (x::L) (n::xs)=(if 0<n then [N5 x n] else [])++ej L xs:=by
 unfold ej;rw [EG];by_cases c:0<n
 ·rw [List.filter_cons_of_pos (by simpa using c),ifP c];rfl
 grind
def pm(m:Int)(x:Lg):Bool:=x.m==m
def Tt(p:Lg->Bool):Prop:=∀x n,p (N5 x n)=p x
theorem aHP(m:Int):Tt (pm m):=λ_ _=>rfl
theorem aHO:Tt (λ_=>aO):=λ_ _=>rfl
theorem Xk {p:Lg->Bool}(hp:Tt p):∀(L:List Lg) (xs:List Int),aA xs=aA L->(∀x∈xs,0<=x)->(∀x∈kL (· - ·) (bF L) xs,0<=x)->
 ji p (ej L xs)+ji p (ej L (kL (· - ·) (bF L) xs))=ji p L
 | [],[],_,_,_=>by simp [ej,ji,bF]
 |x::L,n::xs,hl,h0,h1=>by
  have ih:=Xk hp L xs (by simpa using hl) (λy hy=>h0 y (df _ hy)) (λy hy=>h1 y (by grind [bF,EG]));have a0:=h0 n (oZ ..);have a1:=h1 (x.n-n) (by grind [bF,EG]);have e:kL (· - ·) (bF (x::L)) (n::xs)=(x.n-n)::kL (· - ·) (bF L) xs:=rfl;have q:∀k:Int,0<=k->ji p (if 0<k then [N5 x k] else [])=if p x then k else 0:=λk hk=>by
   by_cases c:0<k
   ·rw [ifP c];simp only [ji];rw [hp x k];grind [N5]
   grind [ji]
  rw [e,Xi,Xi,Ri,Ri,q n a0,q _ a1];grind [ji]
 | [],_::_,hl,_,_=>by simp at hl
 |_::_,[],hl,_,_=>by simp at hl
theorem a6q:∀(L:List Lg) (xs:List Int),aA xs=aA L->(∀x∈xs,0<=x)->ji (λ_=>aO) (ej L xs)=sumI xs
 | [],[],_,_=>rfl
 |x::L,n::xs,hl,h0=>by have ih:=a6q L xs (by simpa using hl) (λy hy=>h0 y (df _ hy));have a0:=h0 n (oZ ..);rw [Xi,Ri,ih];grind [ji,sumI,N5]
 | [],_::_,hl,_=>by simp at hl
 |_::_,[],hl,_=>by simp at hl
theorem a6n(L:List Lg)(xs:List Int):∀x∈ej L xs,0<=x.n:=by grind [ej]
theorem aJM {L:List Lg}(h:dA L=0):∀k (hk:k<aA L) i (hi:i<aA L),i<k->L[i].m<L[k].m:=by
 obtain⟨_,b,_⟩:=BJ h;have step:∀k (hk:k+1<aA L),L[k].m<L[k+1].m:=λk hk=>by grind [GN,RI]
 intro k;induction k with
 |zero=>intro _ i _ h;omega
 |succ k ih=>
  grind
theorem a7K {p:Lg->Bool}:∀ {l:List Lg},(∀x∈l,p x=aP)->ji p l=0
 | [],_=>rfl
 |x::l,h=>by simp only [ji];rw [h x (oZ ..),a7K λy hy=>h y (df _ hy)];rfl
theorem aHW {L:List Lg}(h:dA L=0) {m:Int} {k:Nat}(hk:k<aA L)(e:L[k].m=m):ji (pm m) (L.take k)=0:=by
 refine a7K λx hx=> ?_
 obtain⟨i,hi,rfl⟩:=sR.1 hx;rw [ur] at hi;rw [List.getElem_take];have:=aJM h k hk i (by omega) (by omega);grind [pm]
structure aBk(cD:Int)(L:List Lg)(m:Int):Prop where
 g0:∀x∈jb cD L,0<=x.n
 l0:∀x∈jh cD L,0<=x.n
 tg:ji (λ_=>aO) (jb cD L)=min cD (sumI (bF L))
 tl:ji (λ_=>aO) (jh cD L)=sumI (bF L)-min cD (sumI (bF L))
 me:ji (pm m) (jb cD L)+ji (pm m) (jh cD L)=ji (pm m) L
 mz:∀k (hk:k<aA L),L[k].m=m->ji (pm m) (L.take k)=0
 n0:∀x∈L,0<=x.n
 gl:aA (jb cD L)<=aA L
 ll:aA (jh cD L)<=aA L
theorem a7n {cD:Int} {L:List Lg}(m:Int)(h:jD cD L=0):aBk cD L m:=by
 obtain⟨Q4,jt,Jj⟩:=PN h;have G:=ET Q4;have mi:oH (bF L) (dJ cD (bF L))=kL (· - ·) (bF L) (dJ cD (bF L)):=by grind [oH,VA]
 have hg:jb cD L=ej L (dJ cD (bF L)):=by grind [jb]
 have hk:jh cD L=ej L (kL (· - ·) (bF L) (dJ cD (bF L))):=by grind [jh]
 have hlen:aA (dJ cD (bF L))=aA L:=by rw [G.len,qP]
 have p1:∀x∈dJ cD (bF L),0<=x:=λx hx=>by obtain⟨i,hi,rfl⟩:=sR.1 hx;exact(G.bd i hi (by rw [<-G.len];exact hi)).1
 have p2:∀x∈kL (· - ·) (bF L) (dJ cD (bF L)),0<=x:=λx hx=>by obtain⟨i,hi,rfl⟩:=sR.1 hx;rw [ED] at hi;rw [List.getElem_zipWith];have:=G.bd i (by omega) (by omega);omega
 have s1:=Xk aHO L _ hlen p1 p2;have s2:=Xk (aHP m) L _ hlen p1 p2;have s3:=a6q L _ hlen p1;rw [G.sum] at s3;rw [<-hg,<-hk] at s1 s2;rw [<-hg] at s3;rw [KQ L] at s1;refine⟨by rw [hg];exact a6n _ _,by rw [hk];exact a6n _ _,s3,by omega,s2,λk hk e=>aHW jt hk e,λx hx=> ?_,by grind [Re],by grind [Re]⟩;grind [sR,BJ,GN]
section
theorem aFR {D:Dk} {a:Int} {y:Lg}(h:y∈dg D a):∃x∈D.ob,x.st=1/\x.az<0/\x.a=a/\hasB D.who x.m=aP/\y=x.claim:=by grind [dg,sZ,ow]
theorem yU(a:Int):0<=kQ a/\kQ a<=288230376151711744:=by grind [kQ]
theorem a1l {x:Ob}(h: -kQ x.a<=x.az):x.claim.n= -x.az:=by have:=yU x.a;grind [Ob.claim,fj]
def vG(D:Dk)(a:Int):Int:=sumI (bF (dg D a))
theorem a7F(x:Int)(l:List Int):sumI (x::l)=x+sumI l:=rfl
theorem a3E {a:Int} {p:Ob->Bool}:∀(L:List Ob),(∀x∈L,-kQ x.a<=x.az)->(∀x∈L,p x=aO->x.st=1/\x.az<0/\x.a=a)->0<=sumI (bF ((L.filter p).map Ob.claim))/\sumI (bF ((L.filter p).map Ob.claim))<=dT (pY a) L
 | [],_,_=>⟨dH 0,dH 0⟩
 |x::L,hb,hp=>by
  have ih:=a3E (a:=a) (p:=p) L (λy hy=>hb y (df _ hy)) (λy hy=>hp y (df _ hy));have e:dT (pY a) (x::L)=pY a x+dT (pY a) L:=by simp [dT]
  rw [e];by_cases h:p x=aO
  ·rw [List.filter_cons_of_pos h];grind [bF,a7F,a1l,pY]
  grind [pY]
theorem aDP {L:List Lg} {a:Int}(hl:aA L<=1024)(h1:∀x∈L,1<=x.n/\x.a=a)(hp:L.Pairwise (λx y=>x.m<y.m))(hI:aL (sumI (bF L))):dA L=0:=by unfold dA;rw [ifN (by omega),ifN,(dy hI).2];grind [GN,UR,uu,RI]
structure a8N(D:Dk)(a:Int):Prop where
 clm:dA (dg D a)=0
 bd:0<=vG D a/\vG D a<=kQ a
 each:∀y∈dg D a,y9 D.x y/\y.a=a/\hasB D.who y.m=aP
 up:(dg D a).Pairwise (λx y=>x.m<y.m)
 len:aA (dg D a)<=16
theorem aw.DA {C:Int} {g:Nat} {D:Dk}(H:aw C g D)(a:Int):a8N D a:=by
 have kh:∀x∈D.ob,-kQ x.a<=x.az:=λx hx=>(H.ob.each x hx).big.1
 have hs:0<=vG D a/\vG D a<=dT (pY a) D.ob:=a3E D.ob kh (λx _ hp=>by grind [sZ,ow]);have jt:=H.ob.cl a;have dD:=yU a;have Q6:∀y∈dg D a,y9 D.x y/\y.a=a/\hasB D.who y.m=aP:=λy hy=>by obtain⟨x,hx,h1,h2,h3,h4,rfl⟩:=aFR hy;have E:=H.ob.each x hx;exact⟨⟨E.m,E.a,by grind [a1l]⟩,h3,h4⟩
 have vT:(dg D a).Pairwise (λx y=>x.m<y.m):=by
  unfold dg;rw [B8];refine(aLo.1 (H.ob.ord.filter _)).imp ?_;rintro x y ⟨hx,hy,ho⟩;have hx2:=(j6.1 hx).2;have nW:=(j6.1 hy).2;simp only [sZ,ow,jX,beq_iff_eq,decide_eq_true_eq,SC] at hx2 nW;rcases ho (by grind [eW]) (by grind [eW]) with h|h
  ·exact h
  omega
 have hlen:aA (dg D a)<=16:=by have h:=S5 (L:=(dg D a).map (·.m)) (k:=aA D.x.ms) (lo:=0) (by grind) (λm hm=>by obtain⟨y,hy,rfl⟩:=dV.1 hm;have:=(Q6 y hy).1.1;omega);rw [iK] at h;have:=H.hs.ml;omega
 exact⟨aDP (by omega) (λx hx=>⟨(Q6 x hx).1.2.2,(Q6 x hx).2.1⟩) vT (show aL (vG D a) by unfold aL;omega),⟨hs.1,by omega⟩,Q6,vT,hlen⟩
section
variable {C:Int} {g:Nat} {D:Dk}
theorem aw.a6i(H:aw C g D)(a:Int):jD (B D 1 0 a) (dg D a)=0:=by unfold jD;rw [ifN (by rw [(H.DA a).clm];simp),ifN (by have:=(H.house a).1;show¬balA _ _ _ _ _ _<0;omega)]
theorem aw.short(H:aw C g D)(a:Int):jE D a=max (vG D a-B D 1 0 a) 0:=by have hb:=(H.DA a).bd;have hm:=yU a;unfold jE AJ;rw [ifP (H.a6i a)];exact aIW (show 0<=vG D a by omega) (H.house a).1 (show aL (vG D a) by unfold aL;omega)
theorem aw.a7E(H:aw C g D)(a:Int):iO (dg D a)=vG D a:=by unfold iO;rw [ifP (H.DA a).clm];rfl
theorem XD {a b:Int}(ha:0<=a)(hb:0<=b)(h:aL a):pG a b=max (a-b) 0:=by grind [pG,aL]
theorem aw.beyond(H:aw C g D):yF D=max (B D 1 0 0-vG D 0) 0:=by have hb:=(H.DA 0).bd;have hh:=H.house 0;have kh:=H.bE.big;unfold yF;rw [H.a7E 0];grind [XD,aL]
end
def tP:List Fi->Int
 | []=>0
 |x::L=>x.q+tP L
def ma:List Fi->Int
 | []=>0
 |x::L=>x.c+ma L
theorem Xd:∀(Bs:List Bd) (la ca:Int),(∀x∈Bs,1<=x.q/\1<=x.p)->0<=la->0<=ca->
 (∀f∈mR Bs la ca,f.b∈Bs/\1<=f.q/\1<=f.c)/\tP (mR Bs la ca)<=la/\ma (mR Bs la ca)<=ca/\aA (mR Bs la ca)<=aA Bs
 | [],la,ca,_,h1,h2=>⟨by simp [mR],by grind [mR,tP],by grind [mR,ma],by simp [mR]⟩
 |x::Bs,la,ca,hx,h1,h2=>by
  have hx1:=hx x (by simp);have hr:∀y∈Bs,1<=y.q/\1<=y.p:=λy hy=>hx y (df _ hy)
  unfold mR;by_cases h0:la=0
  ·grind [tP,ma]
  rw [ifN h0];have hd:0<=ca/x.p:=Int.ediv_nonneg h2 (by omega);have qX:ca/x.p*x.p<=ca:=Int.ediv_mul_le ca (by omega);have ht:0<=takeN x la ca/\takeN x la ca<=la/\takeN x la ca<=ca/x.p:=by unfold takeN;omega
  by_cases h3:takeN x la ca=0
  ·rw [ifP h3];obtain⟨i1,i2,i3,i4⟩:=Xd Bs la ca hr h1 h2;grind
  rw [ifN h3];have hmul:takeN x la ca*x.p<=ca:=jm (LL ht.2.2 (by omega)) qX;have QN:1<=takeN x la ca*x.p:=by have h5:1*1<=takeN x la ca*x.p:=Int.mul_le_mul (by omega) hx1.2 (by omega) (by omega);omega
  obtain⟨i1,i2,i3,i4⟩:=Xd Bs (la-takeN x la ca) (ca-takeN x la ca*x.p) hr (by omega) (by omega);grind [tP,ma]
theorem Lr:∀ {L:List Fi},(∀f∈L,1<=f.c)->0<=ma L
 | [],_=>dH 0
 |x::L,h=>by have:=h x (by simp);have:=Lr (L:=L) (λy hy=>h y (df _ hy));grind [ma]
theorem RN:∀ {L:List Fi},(∀f∈L,1<=f.q)->0<=tP L
 | [],_=>dH 0
 |x::L,h=>by have:=h x (by simp);have:=RN (L:=L) (λy hy=>h y (df _ hy));grind [tP]
theorem wrap64_in {n:Int}(h:aL n):fV n=n:=by unfold fV;unfold aL at h;omega
theorem a1s:∀(L:List Fi) (n:Int),(∀f∈L,1<=f.c)->0<=n->n+ma L<=9223372036854775807->L.foldl (λn x=>fV (n+x.c)) n=n+ma L
 | [],n,_,_,_=>by simp [ma]
 |x::L,n,h,h0,hb=>by
  have h1:=h x (by simp);have hr:∀f∈L,1<=f.c:=λy hy=>h y (df _ hy)
  have hn:=Lr hr;simp only [ma] at hb;rw [Ca,wrap64_in (by unfold aL;omega),a1s L (n+x.c) hr (by omega) (by omega)];grind [ma]
theorem aDz {L:List Fi}(h:∀f∈L,1<=f.c)(hb:ma L<=9223372036854775807):rI L=ma L:=by grind [rI,a1s]
theorem aL2 {M A:Nat} {l:List Int} {h:List Hr} {es:List En}(hlen:aA l=A*(6+3*M))(hc:xU M A l es)(hf:∀k m a,uK k=aP->fA es (k,m,a)<0->0<=balA M A l k m a+fA es (k,m,a)/\iG h k m a<=balA M A l k m a+fA es (k,m,a)):lR M A l h es=0:=by
 have hb:nM M A l es=0:=by unfold nM;rw [ifN (by rw [a1g hc];simp),ifN];intro ha;obtain⟨c,hc1,hc2⟩:=kK.1 ha;obtain⟨⟨k,m,a⟩,hq,rfl⟩:=dV.1 hc1;grind [rL,jo,kf]
 unfold lR;rw [ifN (by rw [hb];simp),ifN];intro ha;obtain⟨x,hx,hx2⟩:=kK.1 ha;unfold rZ at hx2;simp only [jX,decide_eq_true_eq,SC] at hx2;obtain⟨⟨a1,a2⟩,a3⟩:=hx2;obtain⟨i,hi⟩:=hc.NJ x hx;have e:=KB hlen hc (q:=x.spot) hi;have e2:kf M A l x.spot=balA M A l x.k x.m x.a:=rfl;have e3:fA es x.spot=fA es (x.k,x.m,x.a):=rfl;grind
theorem a5u {M A:Nat} {l:List Int} {es:List En}(hlen:aA l=A*(6+3*M))(hc:xU M A l es)(k m a:Int):balA M A (jw M A l es) k m a=balA M A l k m a+fA es (k,m,a):=by
 cases hp:plcA M A k m a with
 |some z=>exact KB hlen hc (q:=(k,m,a)) hp
 |none=>
  rw [JR hp,JR hp,Xx]
  ·rfl
  intro hq;obtain⟨n,hn⟩:=hc.spot _ hq;have:plcA M A k m a=aC n:=hn;grind
theorem aKV(s:Int)(x:Fi)(k m a:Int):fA (fM s x) (k,m,a)=(if k=7/\m=x.b.m/\a=s then-x.q else 0)+(if k=1/\m=0/\a=s then x.q else 0)+(if k=1/\m=0/\a=0 then-x.c else 0)+(if k=7/\m=x.b.m/\a=0 then x.c else 0):=by have e:fM s x=((([]++ [⟨7,x.b.m,s,-x.q⟩])++ [⟨1,0,s,x.q⟩])++ [⟨1,0,0,-x.c⟩])++ [⟨7,x.b.m,0,x.c⟩]:=rfl;rw [e,IJ,IJ,IJ,IJ];have:fA [] (k,m,a)=0:=rfl;grind [En.spot,Om]
theorem aCm(s:Int)(x:Fi)(i:Nat):sumI (gp (fM s x) i)=0:=by grind [gp,fM,sumI]
theorem aw.fill {C:Int} {g:Nat} {D:Dk}(H:aw C g D) {s:Int} {x:Fi}(hs:1<=s/\s<=(aA D.x.ss:Int))(hm:1<=x.b.m/\x.b.m<=(aA D.x.ms:Int))(hq:1<=x.q/\x.q<=274877906944)(hc:1<=x.c)(h2:x.c<=B D 1 0 0)(hC:C+2*x.q<=4611686018427387904+1125899906842624):
 aw (C+2*x.q) (g+2) (Gk s D x)/\Sm D (Gk s D x)/\∀k m b,B (Gk s D x) k m b=B D k m b+((if k=7/\m=x.b.m/\b=s then-x.q else 0)+(if k=1/\m=0/\b=s then x.q else 0)+(if k=1/\m=0/\b=0 then-x.c else 0)+(if k=7/\m=x.b.m/\b=0 then x.c else 0)):=by
 have zi:=H.house 0;have Vi:=H.house s;have ho0:=H.own x.b.m 0;have WJ:=H.own x.b.m s;have uM:x.c<=balA (aA D.x.ms) (aA D.x.ss+1) D.l 1 0 0:=h2;have jg:=aKV s x;obtain⟨i1,p1⟩:=Bp (M:=aA D.x.ms) (A:=aA D.x.ss+1) (k:=7) (.inl rfl) hm (a:=s) (by omega) (by omega);obtain⟨i2,p2⟩:=NL (M:=aA D.x.ms) (A:=aA D.x.ss+1) (a:=s) (by omega) (by omega);obtain⟨i3,p3⟩:=NL (M:=aA D.x.ms) (A:=aA D.x.ss+1) (a:=0) (by omega) (by omega);obtain⟨i4,p4⟩:=Bp (M:=aA D.x.ms) (A:=aA D.x.ss+1) (k:=7) (.inl rfl) hm (a:=0) (by omega) (by omega);have v1:fA (fM s x) (7,x.b.m,s)= -x.q:=by rw [jg,ifP ⟨rfl,rfl,rfl⟩,ifN (by omega),ifN (by omega),ifN (by omega)];omega
 have v2:fA (fM s x) (1,0,s)=x.q:=by rw [jg,ifN (by omega),ifP ⟨rfl,rfl,rfl⟩,ifN (by omega),ifN (by omega)];omega
 have v3:fA (fM s x) (1,0,0)= -x.c:=by rw [jg,ifN (by omega),ifN (by omega),ifP ⟨rfl,rfl,rfl⟩,ifN (by omega)];omega
 have v4:fA (fM s x) (7,x.b.m,0)=x.c:=by rw [jg,ifN (by omega),ifN (by omega),ifN (by omega),ifP ⟨rfl,rfl,rfl⟩];omega
 have nQ:xU (aA D.x.ms) (aA D.x.ss+1) D.l (fM s x):=by
  refine⟨by simp [fM], ?_,λi _=>aCm s x i, ?_⟩
  ·intro y hy;simp only [fM,fC,List.not_mem_nil,or_false] at hy;rcases hy with rfl|rfl|rfl|rfl
   ·exact⟨i1,p1⟩
   ·exact⟨i2,p2⟩
   ·exact⟨i3,p3⟩
   exact⟨i4,p4⟩
  rintro⟨k,m,a⟩ kj;obtain⟨y,hy,e⟩:=KA.1 kj;have e2:kf (aA D.x.ms) (aA D.x.ss+1) D.l (k,m,a)=balA (aA D.x.ms) (aA D.x.ss+1) D.l k m a:=rfl;rw [e2];simp only [fM,fC,List.not_mem_nil,or_false] at hy;rcases hy with rfl|rfl|rfl|rfl
  ·simp only [En.spot,Om] at e;obtain⟨rfl,rfl,rfl⟩:=e;rw [v1];unfold aL;omega
  ·simp only [En.spot,Om] at e;obtain⟨rfl,rfl,rfl⟩:=e;rw [v2];unfold aL;omega
  ·simp only [En.spot,Om] at e;obtain⟨rfl,rfl,rfl⟩:=e;rw [v3];unfold aL;omega
  simp only [En.spot,Om] at e;obtain⟨rfl,rfl,rfl⟩:=e;rw [v4];unfold aL;omega
 have hv:lR (aA D.x.ms) (aA D.x.ss+1) D.l D.h (fM s x)=0:=aL2 H.bE.ok.len nQ (by
  intro k m a DI Jr;rw [jg] at Jr ⊢;have BS:k≠7:=by rintro rfl;cases DI
  rw [ifN (by omega),ifN (by omega:¬(k=7/\m=x.b.m/\a=0))] at Jr ⊢;have hk:k=1/\m=0/\a=0:=by
   by_cases h:k=1/\m=0/\a=0
   ·exact h
   rw [ifN h] at Jr;split at Jr<;>omega
  obtain⟨rfl,rfl,rfl⟩:=hk;rw [Va H.h8 (by decide),ifN (by omega),ifP ⟨rfl,rfl,rfl⟩];omega)
 have hd:=a5u H.bE.ok.len nQ;have dR:nE (aA D.x.ms) (aA D.x.ss+1) (jw (aA D.x.ms) (aA D.x.ss+1) D.l (fM s x)):=nE.post H.bE.ok (by have:=H.hs.sl;omega) hv;have el:eK D (fM s x)=jw (aA D.x.ms) (aA D.x.ss+1) D.l (fM s x):=by unfold eK;rw [ifP hv]
 have BR:∀k m b,balA (aA D.x.ms) (aA D.x.ss+1) (eK D (fM s x)) k m b=balA (aA D.x.ms) (aA D.x.ss+1) D.l k m b+((if k=7/\m=x.b.m/\b=s then-x.q else 0)+(if k=1/\m=0/\b=s then x.q else 0)+(if k=1/\m=0/\b=0 then-x.c else 0)+(if k=7/\m=x.b.m/\b=0 then x.c else 0)):=by intro k m b;rw [el,hd,jg]
 rw [<-el] at dR;have k7:∀m b,balA (aA D.x.ms) (aA D.x.ss+1) (eK D (fM s x)) 7 m b=balA (aA D.x.ms) (aA D.x.ss+1) D.l 7 m b+((if m=x.b.m/\b=s then-x.q else 0)+(if m=x.b.m/\b=0 then x.c else 0)):=by intro m b;rw [BR];simp
 have k8:∀m b,balA (aA D.x.ms) (aA D.x.ss+1) (eK D (fM s x)) 8 m b=balA (aA D.x.ms) (aA D.x.ss+1) D.l 8 m b:=by intro m b;rw [BR];simp
 have k9:∀m b,balA (aA D.x.ms) (aA D.x.ss+1) (eK D (fM s x)) 9 m b=balA (aA D.x.ms) (aA D.x.ss+1) D.l 9 m b:=by intro m b;rw [BR];simp
 have k3:∀b,balA (aA D.x.ms) (aA D.x.ss+1) (eK D (fM s x)) 3 0 b=balA (aA D.x.ms) (aA D.x.ss+1) D.l 3 0 b:=by intro b;rw [BR];simp
 have k4:∀b,balA (aA D.x.ms) (aA D.x.ss+1) (eK D (fM s x)) 4 0 b=balA (aA D.x.ms) (aA D.x.ss+1) D.l 4 0 b:=by intro b;rw [BR];simp
 have k2:∀b,balA (aA D.x.ms) (aA D.x.ss+1) (eK D (fM s x)) 2 0 b=balA (aA D.x.ms) (aA D.x.ss+1) D.l 2 0 b:=by intro b;rw [BR];simp
 have k1:∀b,balA (aA D.x.ms) (aA D.x.ss+1) (eK D (fM s x)) 1 0 b=balA (aA D.x.ms) (aA D.x.ss+1) D.l 1 0 b+((if b=s then x.q else 0)+(if b=0 then-x.c else 0)):=by intro b;rw [BR];simp
 have oD:∀b,mf (D.log++ [⟨12,x.b.m,s,x.q,x.b.s⟩]) b=balA (aA D.x.ms) (aA D.x.ss+1) D.l 1 0 b+if s=b then x.q else 0:=by intro b;rw [D8,D9,H.fl b,show yJ ⟨12,x.b.m,s,x.q,x.b.s⟩=x.q from rfl]
 have hl2:∀b,mf ((D.log++ [⟨12,x.b.m,s,x.q,x.b.s⟩])++ [⟨19,x.b.m,0,x.c,x.b.s⟩]) b=balA (aA D.x.ms) (aA D.x.ss+1) (eK D (fM s x)) 1 0 b:=by
  intro b;rw [D8,D9,oD,k1,show yJ ⟨19,x.b.m,0,x.c,x.b.s⟩= -x.c from rfl];repeat' split
  all_goals (simp only at*;omega)
 have eg:D.log++ [Ev.mk 12 x.b.m s x.q x.b.s,Ev.mk 19 x.b.m 0 x.c x.b.s]=(D.log++ [Ev.mk 12 x.b.m s x.q x.b.s])++ [Ev.mk 19 x.b.m 0 x.c x.b.s]:=by simp
 refine⟨⟨H.hs,⟨dR, ?_, ?_, ?_, ?_, ?_, ?_, ?_,hC,H.bE.F0⟩,H.h8,H.hl, ?_, ?_, ?_,H.who,H.ob,H.bx,H.bl,H.st,H.aj⟩,⟨rfl,rfl,rfl,rfl,rfl,rfl,rfl,rfl,_,rfl,by simp⟩,BR⟩
 ·intro m b;exact jm (rD (k8 m b)) (H.bE.sr m b)
 ·intro m b;exact jm (rD (k9 m b)) (H.bE.zY m b)
 ·intro b;exact jm (rD (k3 b)) (H.bE.zx b)
 ·intro b;exact jm (rD (k4 b)) (H.bE.cap b)
 ·intro m b;show _<=balA (aA D.x.ms) (aA D.x.ss+1) (eK D (fM s x)) 7 m b+balA (aA D.x.ms) (aA D.x.ss+1) (eK D (fM s x)) 8 m b-balA (aA D.x.ms) (aA D.x.ss+1) (eK D (fM s x)) 1 0 b;rw [k7,k8,k1];have:=H.bE.lo m b;repeat' split
  all_goals omega
 ·intro m b;show balA (aA D.x.ms) (aA D.x.ss+1) (eK D (fM s x)) 7 m b+balA (aA D.x.ms) (aA D.x.ss+1) (eK D (fM s x)) 8 m b+balA (aA D.x.ms) (aA D.x.ss+1) (eK D (fM s x)) 1 0 b<=_;rw [k7,k8,k1];have:=H.bE.hi m b;repeat' split
  all_goals omega
 ·intro b;show balA (aA D.x.ms) (aA D.x.ss+1) (eK D (fM s x)) 2 0 b+balA (aA D.x.ms) (aA D.x.ss+1) (eK D (fM s x)) 1 0 b<=_;rw [k2,k1];have:=H.bE.es b;repeat' split
  all_goals omega
 ·intro b;show mf (D.log++ [Ev.mk 12 x.b.m s x.q x.b.s,Ev.mk 19 x.b.m 0 x.c x.b.s]) b=_;rw [eg];exact hl2 b
 ·show LQ _ (D.log++ [Ev.mk 12 x.b.m s x.q x.b.s,Ev.mk 19 x.b.m 0 x.c x.b.s]);rw [eg];refine(H.lg.snoc ⟨by show (0:Int)<=s;omega,hs.2,.inl hq.1⟩ (λb=> ?_)).snoc ⟨by show (0:Int)<=0;omega,by show (0:Int)<=_;omega,.inl hc⟩ (λb=> ?_)
  ·rw [oD];have:=H.house b;split<;>omega
  rw [hl2];refine⟨dR.nn rfl 0 b, ?_⟩;rw [k1];have:=H.house b;repeat' split
  all_goals omega
 show aA (D.log++ [Ev.mk 12 x.b.m s x.q x.b.s,Ev.mk 19 x.b.m 0 x.c x.b.s])<=g+2;rw [cL];have:=H.gl;simp;omega
end
end Go.Proofs.YtdokipdchlcmeaaGreat
