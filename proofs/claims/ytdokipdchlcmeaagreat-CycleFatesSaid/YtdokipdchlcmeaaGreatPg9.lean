/-
  Several texts in one, for one claim (printed by pack.py).
-/
import Derived.Test.YtdokipdchlcmeaaGreatPg8
set_option linter.all false
set_option maxRecDepth 100000
set_option maxHeartbeats 12800000
open And renaming intro→kT
open Array renaming getElem?_eq_some_iff→fW,replicate→lB
open Bool renaming true→aO,false→aP,and_eq_true→jb,not_eq_true'→SV
open Go renaming World→aJ,Value→aN,Calls→aQ,Addr→aj,cell_of_row→bH,maxLen→bM,TypeId→bY,heap_alloc_new→cO,info_parts→dL,wpList_append_own→j9
open Go.Calls renaming mono→tY
open Go.Ending renaming returned→aT
open Go.Instr renaming makeSlice→Ou
open Go.IntKind renaming i64→aF
open Go.IntWalk renaming i64_in→sR
open Go.Obj renaming cells→aK
open Go.Proofs renaming intOf→ag
open Go.Proofs.Tryz renaming prog→aM,underlying39→sZ,func29→aB0,ntmps29→aBl
open Go.RowKit renaming Below→aa,wrap64→fS
open Go.RowKit.Below renaming refl→aX,size→gT,trans→jt,heap_setCell→nK
open Go.Value renaming int→aG,slice→aH,tuple→bB,pointer→bF,bool→bJ,agg→bU,ownBlock→dy
open Go.World renaming ownsRow_nil→gC,cell?_of_block→gh,frozen?→iJ
open Int renaming le_refl→dJ,le_trans→ju,le_of_eq→rO,mul_le_mul_of_nonneg_right→La
open List renaming length→aA,getElem_mem→cK,length_append→cN,take_length→cT,range→dQ,mem_map→dW,map_append→df,mem_cons_of_mem→dh,mem_cons→fC,take_succ_eq_append_getElem→fE,mem_append→gJ,replicate→gP,getElem?_eq_getElem→iD,length_map→iR,mem_filter→jD,any_eq_true→jv,zipWith→kN,pairwise_cons→kX,eq_nil_of_length_eq_zero→nO,mem_cons_self→pD,length_filter_le→qd,getD_eq_getElem?_getD→sV,mem_iff_getElem→sW,length_take→uz,mem_append_left→vA,pairwise_iff_getElem→vB,length_set→yL,map_cons→yM,pairwise_map→BG,foldl_cons→Ck,sum_append→Cm,length_zipWith→ET,sum_cons→EU,zipWith_cons_cons→EW,mem_append_right→GK,map_congr_left→Jb,ext_getElem→Lb,pairwise_append→Le,concat_eq_append→Ox,eq_nil_or_concat→Oy,contains_iff_mem→U6,getElem_replicate→UC,getElem_set_ne→a0F,getElem_set_self→a0G,take_append_of_le_length→a0J,flatten_append→a9v
open List.Pairwise renaming and_mem→aMK
open Nat renaming le_refl→aZ,zero_le→bL,le_trans→bz,lt_of_lt_of_le→cP
open Option renaming none→aB,some→aC,getD_some→P4
open Option.some renaming inj→pE
open Prod.mk renaming injEq→P9
namespace Go.Proofs.YtdokipdchlcmeaaGreat
open Go.Proofs.Tryz Go.RowKit
def xD(D:Dk)(d:Bd):Int:=if D.st≠2 then 11 else if nS D.x d≠0 then nS D.x d else if hasB D.who d.m=aO then 14 else if jK D d.c=0 then 8 else xB D.x D.bx d
def PZ(D:Dk)(d:Bd):Dk:= {D with bx:=D.bx++ [{d with s:=(aA D.bx:Int)+1}],log:=D.log++ [⟨11,d.m,d.c,d.q,(aA D.bx:Int)+1⟩]}
def qG(D:Dk)(d:Bd):Dk:=if xD D d=0 then PZ D d else D
def Eb(D:Dk)(d:Bd):Int:=if xD D d=0 then (aA D.bx:Int)+1 else 0
theorem aD7 {x y:ak}(h1:x.ms=y.ms)(h2:x.ss=y.ss)(d:Bd):nS x d=nS y d:=by obtain⟨ms,Am,cm,ss,As,cs,cy,Ac,cc,li,ca,le,tr,bi⟩:=x;obtain⟨ms',Am',cm',ss',As',cs',cy',Ac',cc',li',ca',XG,tr',bi'⟩:=y;simp only at h1 h2;subst h1 h2;rfl
theorem aCS {x y:ak}(h1:x.ms=y.ms)(h2:x.ss=y.ss)(h3:x.bQ=y.bQ)(L:List Bd)(d:Bd):xB x L d=xB y L d:=by unfold xB;rw [aD7 h1 h2,h3]
theorem bW.boxed {w w':aJ} {db:Nat} {p:Dp} {D:Dk} {v':aN} {M5:List Bd}(H:bW w db p D)(hb:jA w' p.xb p.xc v' M5)(hu:bC (λk=>k=p.xb\/p.xv.ownBlock=aC k) w w')(hs:∀k,v'.ownBlock=aC k->p.xv.ownBlock=aC k\/w.heap.size<=k):aq db p {D with bx:=M5} w w':=by
 refine⟨{p with xv:=v'},H.box hu hb,rfl,rfl,rfl,rfl,hu.mono (λk hk=> .inl (.inr (.inr (.inr (.inl hk))))), ?_⟩;rintro k (e|e|e|(e|e)|e|e)
 ·exact .inl (.inl e)
 ·exact .inl (.inr (.inl e))
 ·exact .inl (.inr (.inr (.inl e)))
 ·exact .inl (.inr (.inr (.inr (.inl (.inl e)))))
 ·exact(hs k e).imp (λh=> .inr (.inr (.inr (.inl (.inr h))))) id
 ·exact .inl (.inr (.inr (.inr (.inr (.inl e)))))
 exact .inl (.inr (.inr (.inr (.inr (.inr e)))))
theorem aEf(db:Nat)(p:Dp)(D:Dk)(d:Bd)(w:aJ)(H:bW w db p D)(hO:fX D)(hI:d.ok)(hm:aA D.x.ms<=100000)(hs:aA D.x.ss<=100000)(hb:aL D.x.bQ)(rr:D.st=2->nS D.x d=0->aL (balA (aA D.x.ms) (aA D.x.ss+1) D.l 1 0 d.c)):
 aQ aM 38 #[π db,d.val] w (CD db p (qG D d) (Eb D d) (xD D d) w):=by
 obtain⟨ds,dm,dc,dq,dp⟩:=d;have JQ:=η H.same;have hb0:β w ((w.alloc (aK #[ν ds,ν dm,ν dc,ν dq,ν dp] 41)).alloc (aK #[ν 2] 3)):=σ.alloc (by simp) _;have jO:=η (Js db p D 2 (aC ⟨w.heap.size+1,0,aB⟩) 1 _ (H.below hb0) (λj u hu=>⟨w.heap.size+1,0,rfl,by simp,by
  match j,hu with
  |0,hu=>exact(cL (w.alloc (aK #[ν ds,ν dm,ν dc,ν dq,ν dp] 41)) #[ν 2] 3 0 (by simp)).trans (by simpa using hu)
  |j+1,hu=>simp at hu⟩))
 have HF:=η H;have aY:=η hb0;have cZ:Hid (((w.alloc (aK #[ν ds,ν dm,ν dc,ν dq,ν dp] 41)).alloc (aK #[ν 2] 3)).heap[w.heap.size]? =aC (aK #[ν ds,ν dm,ν dc,ν dq,ν dp] 41 (0,0))):=η ((fF _ _ (by simp)).trans (cO w _));have hz0:w.heap.size<((w.alloc (aK #[ν ds,ν dm,ν dc,ν dq,ν dp] 41)).alloc (aK #[ν 2] 3)).heap.size:=by simp;omega
 have mh:Hid (∀k,eV db p k->k<w.heap.size):=η (λk hk=>H.uW hk);clear hb0 H;have HE:Hid (xD D ⟨ds,dm,dc,dq,dp⟩=if D.st≠2 then 11 else if nS D.x ⟨ds,dm,dc,dq,dp⟩≠0 then nS D.x ⟨ds,dm,dc,dq,dp⟩ else if hasB D.who dm=aO then 14 else if jK D dc=0 then 8 else xB D.x D.bx ⟨ds,dm,dc,dq,dp⟩):=η rfl;have yy:Hid (∀er,xD D ⟨ds,dm,dc,dq,dp⟩=er->er≠0->∀W,β w W->CD db p (qG D ⟨ds,dm,dc,dq,dp⟩) (Eb D ⟨ds,dm,dc,dq,dp⟩) (xD D ⟨ds,dm,dc,dq,dp⟩) w (aT (bB #[ν 0,ν er])) W):=η (λer h hn W hW=>by
  have e1:qG D ⟨ds,dm,dc,dq,dp⟩=D:=by unfold qG;rw [ifN (by rw [h];exact hn)]
  have e2:Eb D ⟨ds,dm,dc,dq,dp⟩=0:=by unfold Eb;rw [ifN (by rw [h];exact hn)]
  rw [e1,e2,h];exact⟨rfl,aq.bZ HF.o hW⟩)
 have TB:Hid (xD D ⟨ds,dm,dc,dq,dp⟩=0->∀W,aq db p (PZ D ⟨ds,dm,dc,dq,dp⟩) w W->CD db p (qG D ⟨ds,dm,dc,dq,dp⟩) (Eb D ⟨ds,dm,dc,dq,dp⟩) (xD D ⟨ds,dm,dc,dq,dp⟩) w (aT (bB #[ν ((aA D.bx:Int)+1),ν 0])) W):=η (λh W hW=>by
  have e1:qG D ⟨ds,dm,dc,dq,dp⟩=PZ D ⟨ds,dm,dc,dq,dp⟩:=by unfold qG;rw [ifP h]
  have e2:Eb D ⟨ds,dm,dc,dq,dp⟩=(aA D.bx:Int)+1:=by unfold Eb;rw [ifP h]
  rw [e1,e2,h];exact⟨rfl,hW⟩)
 have pd:=η (λW (hW:β w W)=>a1o D.x ⟨ds,dm,dc,dq,dp⟩ W (HF.o.below hW).src hm hs hI);have LU:=η (λW (hW:β w W) (h1:D.st=2) (h2:nS D.x ⟨ds,dm,dc,dq,dp⟩=0)=>VD db p D dc W (HF.o.below hW) hO (rr h1 h2));have HAD:Hid (∀W,β w W->aQ aM 90 #[π p.xb,bU #[ν ds,ν dm,ν dc,ν dq,ν dp]] W (SZ p.xb p.xc p.xv D.bx ⟨ds,dm,dc,dq,dp⟩ W)):=η (λW hW=>aM1 p.xc p.xv D.bx ⟨ds,dm,dc,dq,dp⟩ p.xb W (HF.o.below hW).bx (HF.o.below hW).Dy.src.ok (by rw [JQ.o.1];exact hm) (by rw [JQ.o.2.1];exact hs) hI (by have:=hO.bl;omega) (by rw [JQ.o.2.2.2];exact hb));rw [show xB D.x D.bx ⟨ds,dm,dc,dq,dp⟩=xB p.xc D.bx ⟨ds,dm,dc,dq,dp⟩ from(aCS JQ.o.1 JQ.o.2.1 JQ.o.2.2.2 _ _).symm] at HE;obtain⟨Aw,cw,hv⟩:=bK HF.o.who;have pB:=η (λW (hW:β w W)=>(show aW W W.heap.size Aw (D.who.map (aG aF)) by have h1:=(HF.o.below hW).who;rw [hv] at h1;exact aW.cA h1));have yC:=η (λW (hW:β w W)=>Ma D.who Aw cw dm W (pB.o W hW) (by have:=hO.wl;omega));have HC:=η (λW (hW:β w W)=>(HF.o.below hW).cells);have HV:=η hv;have B1:Hid (aA D.log<=90000):=η hO.gl;clear hI hm hs hb rr hO hv pB;unfold ak.val Bd.val at pd;unfold Bd.val;generalize xD D ⟨ds,dm,dc,dq,dp⟩=ee at*;generalize qG D ⟨ds,dm,dc,dq,dp⟩=DW at*;generalize Eb D ⟨ds,dm,dc,dq,dp⟩=dv at*;generalize nS D.x ⟨ds,dm,dc,dq,dp⟩=be at*;generalize hasB D.who dm=hw at*;generalize jK D dc=sv at*;go_enter func38,ntmps38
 by_cases h1:D.st=2
 case neg=>
  rw [ifP h1] at HE;rw [ifN h1] at jO;clear h1;go_wp2_with (go_at_call 51;refine jO.o.mono ?_;rintro e w1 ⟨rfl,hb1⟩;have aR:=τ aY hb1;clear hb1)
  go_ret2;exact yy.o 11 HE.o (by decide) _ aR.o
 rw [ifN (by simpa using h1)] at HE;rw [ifP h1] at jO;have H1:=η h1;clear h1;go_upto_region 4 with (go_at_call 51;refine jO.o.mono ?_;rintro e w4 ⟨rfl,hb4⟩;have ar:=τ aY hb4;have pC:=η ((hb4.block _ hz0).trans cZ.o);have mW:=cP hz0 hb4.size;clear hb4)
 clear jO aY cZ hz0;obtain⟨bx,bT⟩:∃bx,bx=w.heap.size:=⟨_,rfl⟩;have dH:=η bT;rw [<-bT] at pC mW ⊢;clear bT;have bX:Hid (¬eV db p bx):=η (λh=>by have:=mh.o bx h;rw [dH.o] at this;omega);have fM:Hid (∀W,β w4 W->W.cell? ⟨bx,0,aB⟩=aC (ν ds)/\W.cell? ⟨bx,1,aB⟩=aC (ν dm)/\W.cell? ⟨bx,2,aB⟩=aC (ν dc)/\W.cell? ⟨bx,3,aB⟩=aC (ν dq)/\W.cell? ⟨bx,4,aB⟩=aC (ν dp)):=η (λW hW=>by have hd:=(hW.block bx mW).trans pC.o;exact⟨ρ hd,ρ hd,ρ hd,ρ hd,ρ hd⟩);have eW:Hid (∀W,β w4 W->β w W):=η (λW hW=>ar.o.trans (hW.mono ar.o.size));have jP:Hid (∀W,β w4 W->W.cell? ⟨db,0,aB⟩=aC (aH D.x.Am (aA D.x.ms) D.x.cm)/\W.cell? ⟨db,1,aB⟩=aC (aH D.x.As (aA D.x.ss) D.x.cs)/\W.cell? ⟨db,2,aB⟩=aC (aH D.x.Ac (aA D.x.cy) D.x.cc)/\W.cell? ⟨db,3,aB⟩=aC (ν D.x.line)/\W.cell? ⟨db,4,aB⟩=aC (ν D.x.bV)/\W.cell? ⟨db,5,aB⟩=aC (ν D.x.lead)/\W.cell? ⟨db,6,aB⟩=aC (ν D.x.tr)/\W.cell? ⟨db,7,aB⟩=aC (ν D.x.bQ)/\W.cell? ⟨bx,0,aB⟩=aC (ν ds)/\W.cell? ⟨bx,1,aB⟩=aC (ν dm)/\W.cell? ⟨bx,2,aB⟩=aC (ν dc)/\W.cell? ⟨bx,3,aB⟩=aC (ν dq)/\W.cell? ⟨bx,4,aB⟩=aC (ν dp)):=η (λW hW=>by have c:=HC.o W (eW.o W hW);exact⟨c.c0,c.c1,c.c2,c.c3,c.c4,c.c5,c.c6,c.c7,fM.o W hW⟩);have bP:β w4 w4.drew:=(aX _ _).drew;have hdd:=jP.o _ bP;go_region_held3 (λW=>W.cell? ⟨db,0,aB⟩=aC (aH D.x.Am (aA D.x.ms) D.x.cm)/\W.cell? ⟨db,1,aB⟩=aC (aH D.x.As (aA D.x.ss) D.x.cs)/\W.cell? ⟨db,2,aB⟩=aC (aH D.x.Ac (aA D.x.cy) D.x.cc)/\W.cell? ⟨db,3,aB⟩=aC (ν D.x.line)/\W.cell? ⟨db,4,aB⟩=aC (ν D.x.bV)/\W.cell? ⟨db,5,aB⟩=aC (ν D.x.lead)/\W.cell? ⟨db,6,aB⟩=aC (ν D.x.tr)/\W.cell? ⟨db,7,aB⟩=aC (ν D.x.bQ)/\W.cell? ⟨bx,0,aB⟩=aC (ν ds)/\W.cell? ⟨bx,1,aB⟩=aC (ν dm)/\W.cell? ⟨bx,2,aB⟩=aC (ν dc)/\W.cell? ⟨bx,3,aB⟩=aC (ν dq)/\W.cell? ⟨bx,4,aB⟩=aC (ν dp)) (first|(with_reducible assumption)) ((go_at_call 88;refine(pd.o _ (eW.o _ (by with_reducible assumption))).mono ?_;rintro e w5 ⟨rfl,cj⟩;have dX:β w4 w5:=jt (by with_reducible assumption) (cj.mono (gT (by with_reducible assumption)));have hcc:=jP.o _ dX))
 have cV:=η dX;clear cj dX bP hdd hcc jP pd;by_cases h2:be=0
 case neg=>
  have kh:(be==0)=aP:=by simpa using h2
  rw [ifP h2] at HE;have HB:=η h2;clear h2;go_wp2_with fail
  go_ret2;exact yy.o be HE.o HB.o _ (eW.o _ cV.o)
 subst h2;rw [ifN (by simp)] at HE;have Tp:=η (λW (hW:β w W)=>LU.o W hW H1.o rfl);clear LU;go_upto_region 7 with (fail)
 have uD:Hid (∀W,β w4 W->W.cell? ⟨db,11,aB⟩=aC (aH Aw (aA D.who) cw)/\W.cell? ⟨bx,1,aB⟩=aC (ν dm)):=η (λW hW=>⟨by rw [<-HV.o];exact(HC.o W (eW.o W hW)).c11,(fM.o W hW).2.1⟩);have bP:β w4 w5.drew:=cV.o.drew;have hdd:=uD.o _ bP;go_region_held3 (λW=>W.cell? ⟨db,11,aB⟩=aC (aH Aw (aA D.who) cw)/\W.cell? ⟨bx,1,aB⟩=aC (ν dm)) (first|(with_reducible assumption)) ((go_at_call 89;refine(yC.o _ (eW.o _ (by with_reducible assumption))).mono ?_;rintro e w6 ⟨rfl,rfl⟩))
 have gG:=η bP;clear bP hdd uD yC cV;cases hh:hw with
 |true=>
  subst hh;rw [ifP rfl] at HE;go_wp2_with fail
  go_ret2;exact yy.o 14 HE.o (by decide) _ (eW.o _ gG.o)
 |false=>
  subst hh;rw [ifN (by simp)] at HE;have b2:=(fM.o _ gG.o).2.2.1;by_cases h3:sv=0
  ·subst h3;rw [ifP rfl] at HE;go_wp2_with (go_at_call 69;refine(Tp.o _ (eW.o _ gG.o)).mono ?_;rintro e w7 ⟨rfl,fh⟩;have uj:=τ gG fh;clear fh)
   go_ret2;exact yy.o 8 HE.o (by decide) _ (eW.o _ uj.o)
  have Wm:(sv==0)=aP:=by simpa using h3
  rw [ifN h3] at HE;clear h3;go_upto_region 11 with (go_at_call 69;refine(Tp.o _ (eW.o _ gG.o)).mono ?_;rintro e w7 ⟨rfl,fh⟩;have uj:=τ gG fh;clear fh)
  clear Tp gG b2;have zK:Hid (∀W,β w4 W->W.cell? ⟨db,10,aB⟩=aC (π p.xb)/\W.cell? ⟨bx,0,aB⟩=aC (ν ds)/\W.cell? ⟨bx,1,aB⟩=aC (ν dm)/\W.cell? ⟨bx,2,aB⟩=aC (ν dc)/\W.cell? ⟨bx,3,aB⟩=aC (ν dq)/\W.cell? ⟨bx,4,aB⟩=aC (ν dp)):=η (λW hW=>⟨(HC.o W (eW.o W hW)).c10,fM.o W hW⟩);have Z1:Hid (∀W,β w4 W->aQ aM 90 #[π p.xb,bU #[ν ds,ν dm,ν dc,ν dq,ν dp]] W λe W'=>∃(n er:Int),e=aT (bB #[ν n,ν er])/\(W'.cell? ⟨db,10,aB⟩=aC (π p.xb)/\W'.cell? ⟨bx,0,aB⟩=aC (ν ds)/\W'.cell? ⟨bx,1,aB⟩=aC (ν dm)/\W'.cell? ⟨bx,2,aB⟩=aC (ν dc)/\W'.cell? ⟨bx,3,aB⟩=aC (ν dq)/\W'.cell? ⟨bx,4,aB⟩=aC (ν dp))/\((er≠0/\n=0/\ee=er/\β w4 W')\/(er=0/\n=(aA D.bx:Int)+1/\ee=0/\aq db p {D with bx:=D.bx++ [⟨(aA D.bx:Int)+1,dm,dc,dq,dp⟩]} w W'))):=η (λW hW=>by
   refine(HAD.o W (eW.o W hW)).mono ?_;rintro e W' (⟨q1,rfl,q2⟩|⟨q1,v',rfl,q2,q3,q4⟩)
   ·have hb:β w4 W':=hW.trans (q2.mono hW.size);exact⟨0,_,rfl,zK.o W' hb,.inl ⟨q1,rfl,HE.o,hb⟩⟩
   have hd:=(HF.o.below (eW.o W hW)).boxed q2 q3 q4;have pL:aq db p {D with bx:=D.bx++ [⟨(aA D.bx:Int)+1,dm,dc,dq,dp⟩]} w W':=aq.trans (bC.bZ _ (eW.o W hW)) (λ_ h=> .inl h) ⟨rfl,rfl,rfl,rfl⟩ hd;have hz:=cP mW hW.size;obtain⟨_,r0,r1,r2,r3,r4⟩:=zK.o W hW;refine⟨_,0,rfl,⟨?_,(hd.cell 0 hz bX.o).trans r0,(hd.cell 1 hz bX.o).trans r1,(hd.cell 2 hz bX.o).trans r2,(hd.cell 3 hz bX.o).trans r3,(hd.cell 4 hz bX.o).trans r4⟩,.inr ⟨rfl,rfl,HE.o.trans q1,pL⟩⟩;obtain⟨p3,H3,f1,f2,f3,f4,_⟩:=hd;rw [<-f3];exact H3.cells.c10)
  have bP:β w4 w7.drew:=uj.o.drew;have hdd:=zK.o _ bP;clear HAD HE HC;go_region_held3 (λW=>W.cell? ⟨db,10,aB⟩=aC (π p.xb)/\W.cell? ⟨bx,0,aB⟩=aC (ν ds)/\W.cell? ⟨bx,1,aB⟩=aC (ν dm)/\W.cell? ⟨bx,2,aB⟩=aC (ν dc)/\W.cell? ⟨bx,3,aB⟩=aC (ν dq)/\W.cell? ⟨bx,4,aB⟩=aC (ν dp)) (first|(with_reducible assumption)) ((go_at_call 90;refine(Z1.o _ (by with_reducible assumption)).mono ?_;rintro e w8 ⟨n,er,rfl,hcc,hor⟩))
  obtain⟨_,m0,m1,m2,m3,m4⟩:=hcc;clear bP hdd Z1 zK;rcases hor with⟨q1,rfl,q2,q3⟩|⟨rfl,rfl,q2,q3⟩
  ·have kh:(er==0)=aP:=by simpa using q1
   have HB:=η (kT q1 (kT q2 q3));clear q1 q2 q3;go_wp2_with fail
   go_ret2;exact yy.o er HB.o.2.1 HB.o.1 _ (eW.o _ HB.o.2.2)
  have HZ:=η q2;obtain⟨p3,q3⟩:=q3.q;have HQ:=η q3;clear q2 q3;have kU:=η (HQ.o.at.below ((aX w8.heap.size w8).alloc (aZ _) (aK #[ν 11,ν dm,ν dc,ν dq,ν ((aA D.bx:Int)+1)] 45)));have kW:=η (xK db p3 {D with bx:=D.bx++ [⟨(aA D.bx:Int)+1,dm,dc,dq,dp⟩]} [⟨11,dm,dc,dq,(aA D.bx:Int)+1⟩] w8.heap.size 1 _ kU.o (dN w8 45 #[ν 11,ν dm,ν dc,ν dq,ν ((aA D.bx:Int)+1)] rfl) (by simp) (by simp) (by have:=B1.o;simp only;omega));have sO:=η (HQ.o.below ((aX w8.heap.size w8).alloc (aZ _) (aK #[ν 11,ν dm,ν dc,ν dq,ν ((aA D.bx:Int)+1)] 45)));clear HQ kU;go_wp2_with (go_at_call 55;refine kW.o.mono ?_;rintro e w9 ⟨rfl,h9⟩;obtain⟨p9,AD,_⟩:=sO.o.then h9;have lM:=η AD;clear h9 AD)
  go_ret2;exact TB.o HZ.o _ lM.o.p
structure tZ(w:aJ)(lb:Nat)(v:aN)(es:List En)(W:aJ):Prop where
 bl:β w W
 blk:W.heap[lb]? =aC (aK #[v] 101 (0,0))
 own:W.ownsRow w.heap.size 103 4 v (aA es) (qm es)
 lo:w.heap.size<=lb
theorem tZ.lt {w W:aJ} {lb:Nat} {v:aN} {es:List En}(h:tZ w lb v es W):lb<W.heap.size:=(fW.1 h.blk).1
theorem tZ.below {w W W':aJ} {lb:Nat} {v:aN} {es:List En}(h:tZ w lb v es W)(hb:aa W.heap.size W W'):tZ w lb v es W':=
 ⟨h.bl.trans (hb.mono h.bl.size),(hb.block _ h.lt).trans h.blk,iA h.own hb,h.lo⟩
def gX(fk fm tk tm n:Int):List En:= [⟨fk,fm,0,-n⟩,⟨tk,tm,0,n⟩]
theorem aFE:(aM.info? 103).map (λi=>(i.zero,i.size,i.bytes))=aC (aC (bU #[aG aF 0,aG aF 0,aG aF 0,aG aF 0]),4,32):=by kernel_rfl
theorem aFF(es:List En):∀u∈qm es,u.oneCell'=aO:=by intro u hu;obtain⟨x,_,hx⟩:=List.mem_flatMap.1 hu;simp [En.cells] at hx;rcases hx with rfl|rfl|rfl|rfl<;>rfl
theorem Po(w:aJ)(lb:Nat)(v:aN)(es:List En)(fk fm tk tm n:Int)(W:aJ)(h:tZ w lb v es W)(hn:aL n)(ly:0<=n)(hl:aA es<=1000):
 aQ aM 48 #[bU #[ν fk,ν fm],bU #[ν tk,ν tm],ν n,π lb] W λe W'=>e=aT (bB #[])/\∃v',tZ w lb v' (es++gX fk fm tk tm n) W'/\bC (λk=>k=lb\/v.ownBlock=aC k) W W':=by
 obtain⟨i0,bu,hz0,hz1,hz2⟩:=dL aFE;have Mn:aF.wrap (-n)= -n:=wE (by unfold aL at*;omega);have af:Hid (β W (((W.alloc (aK #[ν fk,ν fm] 51)).alloc (aK #[ν tk,ν tm] 51)).alloc (aK #[ν fk,ν fm,ν 0,ν (-n),ν tk,ν tm,ν 0,ν n] 103))):=η ((σ.alloc (by simp) _).alloc (by simp;omega) _);have aV:Hid (β W ((W.alloc (aK #[ν fk,ν fm] 51)).alloc (aK #[ν tk,ν tm] 51))):=η (σ.alloc (by simp) _);have rF:=η (h.below af.o);have c2:((W.alloc (aK #[ν fk,ν fm] 51)).alloc (aK #[ν tk,ν tm] 51)).cell? ⟨lb,0,aB⟩=aC v:=bH _ _ _ _ _ (0,0) (h.below aV.o).blk;have HN:Hid (∀j u,([ν fk,ν fm,ν 0,ν (-n),ν tk,ν tm,ν 0,ν n]:List aN)[j]? =aC u->(((W.alloc (aK #[ν fk,ν fm] 51)).alloc (aK #[ν tk,ν tm] 51)).alloc (aK #[ν fk,ν fm,ν 0,ν (-n),ν tk,ν tm,ν 0,ν n] 103)).cell? ((⟨W.heap.size+1+1,0,aB⟩:aj).add j)=aC u):=η (dN _ 103 #[ν fk,ν fm,ν 0,ν (-n),ν tk,ν tm,ν 0,ν n] (by simp));go_enter func48,ntmps48
 go_wp2_with (at_builtin;refine j9 _ rfl _ _ 101 rfl w.heap.size 103 i0 _ 4 32 underlying101 bu hz0 hz1 hz2 rfl (by decide) v (aA es) (qm es) rfl rF.o.own _ 2 _ [ν fk,ν fm,ν 0,ν (-n),ν tk,ν tm,ν 0,ν n] rfl rfl HN.o (aFF (gX fk fm tk tm n)) (by simp only [bM];omega) (by omega) rF.o.bl.size ?_)
 intro v' w4 gz hg4 _;obtain⟨A4,k4,hv4⟩:=bK gz;subst hv4;have hne:v.ownBlock≠aC lb:=gM rF.o.own rF.o.blk (by decide);have hb4:=(hg4.block lb rF.o.lt (λe=>hne e.symm)).trans rF.o.blk;have c4:w4.cell? ⟨lb,0,aB⟩=aC v:=ρ hb4;have f4:w4.frozen? ⟨lb,0,aB⟩=aP:=by simp [iJ,hb4]
 have hBL:β w w4:=Ec rF.o.bl hg4 (λk hk=>(rF.o.own.lt k hk).1) rF.o.bl.size;have HR:Hid (tZ w lb (aH A4 (aA es+2) k4) (es++gX fk fm tk tm n) (w4.setCell ⟨lb,0,aB⟩ (aH A4 (aA es+2) k4))):=η (by
  have iU:w4.ownsRow w.heap.size 103 4 (aH A4 (aA es+2) k4) (aA (es++gX fk fm tk tm n)) (qm (es++gX fk fm tk tm n)):=by rw [show aA (es++gX fk fm tk tm n)=aA es+2 from by simp [gX],show qm (es++gX fk fm tk tm n)=qm es++ [ν fk,ν fm,ν 0,ν (-n),ν tk,ν tm,ν 0,ν n] from by simp [qm,gX,En.cells]];exact gz
  exact⟨uK _ hBL rF.o.lo,(lf hb4 0 _).trans rfl,kF iU (gM iU hb4 (by decide)) _,rF.o.lo⟩)
 have HU:Hid (bC (λk=>k=lb\/v.ownBlock=aC k) W (w4.setCell ⟨lb,0,aB⟩ (aH A4 (aA es+2) k4))):=η (((bC.bZ _ af.o).trans (bC.IX hg4 (λk hk=> .inl (.inr hk))) (λk hk=> .inl hk)).setCell (p:=⟨lb,0,aB⟩) (.inl (.inl rfl)) _);go_wp2
 go_end0
 exact⟨rfl,_,HR.o,HU.o⟩
def kq(D:Dk)(k:Nat):Pr:=D.x.ms.getD k ⟨0,0⟩
def DF(D:Dk)(k:Nat):Bool:=decide ((kq D k).a>1099511627776-balA (aA D.x.ms) (aA D.x.ss+1) D.l 8 ((k:Int)+1) 0)
def Ef(D:Dk):Bool:=(dQ (aA D.x.ms)).any (DF D)
def nU(D:Dk):Nat->List En
 |0=> []
 |k+1=>nU D k++gX 7 ((k:Int)+1) 8 ((k:Int)+1) (kq D k).a++gX 7 ((k:Int)+1) 9 ((k:Int)+1) (kq D k).b
def fV(D:Dk):List En:=nU D (aA D.x.ms)++gX 5 0 3 0 D.x.line++gX 6 0 4 0 D.x.bV
def MC(D:Dk):Dk:= {D with en:=aO,l:=eK D (fV D)}
def MD(D:Dk):Int:=if D.en=aO then 7 else if Ef D=aO then 2 else lV (aA D.x.ms) (aA D.x.ss+1) D.l D.h (fV D)
def vK(D:Dk):Dk:=if D.en=aO then D else if Ef D=aO then D else MC D
theorem a3B(D:Dk)(k:Nat):aA (nU D k)=4*k:=by
 induction k with
 |zero=>rfl
 |succ k ih=>unfold nU;rw [cN,cN,ih];simp [gX];omega
structure J1(D:Dk):Prop where
 ok:fX D
 ml:aA D.x.ms<=100
 bI:∀k:Nat,k<aA D.x.ms->aL (1099511627776-balA (aA D.x.ms) (aA D.x.ss+1) D.l 8 ((k:Int)+1) 0)
 mI:∀x∈D.x.ms,(aL x.a/\0<=x.a)/\aL x.b/\0<=x.b
 li:aL D.x.line/\0<=D.x.line
 ca:aL D.x.bV/\0<=D.x.bV
theorem RP {fk fm tk tm n:Int}(h1:aL fk)(h2:aL fm)(h3:aL tk)(h4:aL tm)(h5:aL n)(h6:0<=n):∀x∈gX fk fm tk tm n,x.ok:=by
 intro x hx;simp only [gX,fC,List.not_mem_nil,or_false] at hx;rcases hx with rfl|rfl
 ·exact⟨h1,h2,(by decide:aL 0),(by unfold aL at*;simp only;omega)⟩
 exact⟨h3,h4,(by decide:aL 0),h5⟩
theorem a5k {D:Dk}(P:J1 D) {k:Nat}(hk:k<aA D.x.ms):(aL (kq D k).a/\0<=(kq D k).a)/\aL (kq D k).b/\0<=(kq D k).b:=by unfold kq;rw [sV,iD hk];exact P.mI _ (cK hk)
theorem a3C {D:Dk}(P:J1 D):∀k,k<=aA D.x.ms->∀x∈nU D k,x.ok
 |0,_,x,hx=>by cases hx
 |k+1,hk,x,hx=>by
  have hI:aL ((k:Int)+1):=by have:=P.ml;unfold aL;omega
  obtain⟨⟨m1,m2⟩,m3,m4⟩:=a5k P (k:=k) (by omega);unfold nU at hx;rcases gJ.1 hx with hx|hx
  ·rcases gJ.1 hx with hx|hx
   ·exact a3C P k (by omega) x hx
   exact RP (by decide) hI (by decide) hI m1 m2 x hx
  exact RP (by decide) hI (by decide) hI m3 m4 x hx
theorem aFH {D:Dk}(P:J1 D):∀x∈fV D,x.ok:=by
 intro x hx;unfold fV at hx;rcases gJ.1 hx with hx|hx
 ·rcases gJ.1 hx with hx|hx
  ·exact a3C P _ (aZ _) x hx
  exact RP (by decide) (by decide) (by decide) (by decide) P.li.1 P.li.2 x hx
 exact RP (by decide) (by decide) (by decide) (by decide) P.ca.1 P.ca.2 x hx
theorem bW.aFD {w:aJ} {db:Nat} {p:Dp} {D:Dk}(H:bW w db p D)(b:Bool):cu db p p {D with en:=b} w (w.setCell ⟨db,14,aB⟩ (bJ b)):=
 ⟨H.Pc 14 (bJ b) rfl rfl rfl rfl rfl rfl ⟨rfl,rfl,rfl,rfl,rfl,rfl,rfl⟩ H.who H.log,rfl,rfl,rfl,rfl,(bC.refl _ _).setCell (p:=⟨db,14,aB⟩) (.inl (.inl rfl)) _,λ_ h=> .inl h⟩
theorem a2a(db:Nat)(p:Dp)(D:Dk)(w:aJ)(H:bW w db p D)(P:J1 D):
 aQ aM 25 #[π db] w λe w'=>e=aT (ν (MD D))/\aq db p (vK D) w w':=by
 have HF:=η H;have HP:=η P;have HE:Hid (MD D=if D.en=aO then 7 else if Ef D=aO then 2 else lV (aA D.x.ms) (aA D.x.ss+1) D.l D.h (fV D)):=η rfl;have HW:Hid (vK D=if D.en=aO then D else if Ef D=aO then D else MC D):=η rfl;have Sv:Hid (Ef D=(dQ (aA D.x.ms)).any (DF D)):=η rfl;have ew:=η (λW (hW:β w W) m (hm:aL m)=>zk db p D 8 m 0 W (H.below hW) (by decide) hm);have JJ:=η (λW (hW:β w W)=>(aW.cA (H.below hW).cf.m));have HC:=η (λW (hW:β w W)=>(H.below hW).cells);have xP:=H.lt;have c14:=H.cells.c14;have ij:aA D.x.ms<=100:=P.ml;clear H P;generalize MD D=ee at*;generalize vK D=DW at*;generalize Ef D=eb at*;go_enter func25,ntmps25
 generalize hen:D.en=en at*;cases en with
 |true=>
  rw [ifP rfl] at HE HW;clear hen;go_wp2_with fail
  go_ret;exact⟨cW HE.o.symm,by rw [HW.o];exact aq.refl HF.o⟩
 |false=>
  rw [ifN (by simp)] at HE HW;have iu:=η hen;clear hen;have c0:=(HC.o w (aX _ _)).c0;generalize hM:aA D.x.ms=M at*;go_upto_region 6 with (fail)
  clear c0 c14;have od:Hid (∀j,j<0->DF D j=aP):=η (λj hj=>absurd hj (Nat.not_lt_zero _));have aY:Hid (β w w):=η (aX _ _);go_loopw [3,4,23] (λ_ _ i wr=>∃k:Nat,k<=M/\i=ν (k:Int)/\Hid (∀j,j<k->DF D j=aP)/\Hid (β w wr)) (λ_ _ i _=>M-(ag i).toNat)
  case atStart=>exact⟨0,bL _,rfl,od,aY⟩
  case round=>
   clear od aY;obtain⟨k,hk,rfl,HN,HB⟩:=hrel;by_cases hlt:k<M
   ·have yZ:k<aA D.x.ms:=by rw [hM];exact hlt
    obtain⟨bl,ol,kO,hbl,l0,l1⟩:=FX (JJ.o _ HB.o) yZ;have eY:(0:Int)<=(k:Int):=by omega
    have hkb:(k:Int)<(M:Int):=by omega
    have pd:Hid (DF D k=decide ((D.x.ms[k]).a>1099511627776-balA M (aA D.x.ss+1) D.l 8 ((k:Int)+1) 0)):=η (by unfold DF kq;rw [sV,iD yZ,hM];rfl);have yz:Hid (aL (1099511627776-balA M (aA D.x.ss+1) D.l 8 ((k:Int)+1) 0)):=η (by have h:=HP.o.bI k yZ;rw [hM] at h;exact h);have F4:aL ((k:Int)+1):=by unfold aL;omega
    have pZ:=η (λW hW=>ew.o W hW ((k:Int)+1) F4);have BW:aF.wrap ((k:Int)+1)=(k:Int)+1:=wE F4;generalize D.x.ms[k]=x at*;obtain⟨xa,xb⟩:=x;simp only at l0 l1;generalize balA M (aA D.x.ss+1) D.l 8 ((k:Int)+1) 0=bq at*;have Tw:Hid (aF.wrap (1099511627776-bq)=1099511627776-bq):=η (wE yz.o);rw [<-BW] at pZ;clear BW F4;rw [kO] at*;have gG:Hid (β wr (wr.alloc (aK #[ν xa,ν xb] 67))):=η σ;have qZ:Hid ((wr.alloc (aK #[ν xa,ν xb] 67)).heap[wr.heap.size]? =aC (aK #[ν xa,ν xb] 67 (0,0))):=η (cO wr _);have vq:wr.heap.size<(wr.alloc (aK #[ν xa,ν xb] 67)).heap.size:=by simp
    go_upto_region 8 with (fail)
    generalize wr.alloc (aK #[ν xa,ν xb] 67)=w6 at*;obtain⟨bx,bT⟩:∃bx,bx=wr.heap.size:=⟨_,rfl⟩;rw [<-bT] at qZ vq ⊢;clear bT l0 l1;have cC:Hid (β w w6):=η (HB.o.trans (gG.o.mono HB.o.size));have fM:Hid (∀W,β w6 W->W.cell? ⟨bx,0,aB⟩=aC (ν xa)):=η (λW hW=>bH _ _ _ _ _ (0,0) ((hW.block bx vq).trans qZ.o));have eW:Hid (∀W,β w6 W->β w W):=η (λW hW=>cC.o.trans (hW.mono cC.o.size));have bP:β w6 w6.drew:=(aX _ _).drew;have hdd:=fM.o _ bP;clear HB gG qZ;go_region_held3 (λW=>W.cell? ⟨bx,0,aB⟩=aC (ν xa)) (first|(with_reducible assumption)) (first|(go_at_call 47;with_reducible refine tY (za (aF.wrap ((k:Int)+1)) _) ?_;rintro e wa ⟨rfl,nA⟩;have yX:β w6 wa:=jt (by with_reducible assumption) (nA.mono (gT (by with_reducible assumption)));have qp:=fM.o _ yX)|(go_at_call 46;with_reducible refine tY (pZ.o _ (eW.o _ (by with_reducible assumption))) ?_;rintro e wb ⟨rfl,iy⟩;have rY:β w6 wb:=jt (by with_reducible assumption) (iy.mono (gT (by with_reducible assumption)));have hcb:=fM.o _ rY))
    all_goals
     rw [Tw.o];by_cases hc:1099511627776-bq<xa
     ·have Ky:Hid (eb=aO):=η (by rw [Sv.o];exact a1f hlt (by rw [pd.o];exact decide_eq_true hc));have mf:Hid (ee=2):=η (by rw [HE.o,ifP Ky.o]);have gB:Hid (DW=D):=η (by rw [HW.o,ifP Ky.o]);have wN:=η (eW.o _ rY);clear nA yX qp iy rY hcb bP hdd;go_wp2_with fail
      go_ret;exact⟨cW mf.o.symm,by rw [gB.o];exact aq.bZ HF.o wN.o⟩
     have hc2:xa<=1099511627776-bq:=by omega
     have uq:Hid (∀i,i<k+1->DF D i=aP):=η (λi hi=>by
      rcases Nat.lt_succ_iff_lt_or_eq.1 hi with h|rfl
      ·exact HN.o i h
      rw [pd.o];exact decide_eq_false (by simpa using hc))
     have wN:=η (eW.o _ rY);clear nA yX qp iy rY hcb bP hdd HN;go_wp2_with fail
     go_roundw
     case rel=>exact⟨k+1,by omega,by go_num,uq,wN⟩
     case measure=>simp [ag];omega
   obtain rfl:k=M:=by omega
   have Ky:Hid (¬eb=aO):=η (by rw [Sv.o,a1g (λi hi=>HN.o i hi)];simp);rw [ifN Ky.o] at HE HW;clear HN Sv Ky ew;have aR:Hid (tZ w wr.heap.size (aH aB 0 0) (nU D 0) (wr.alloc (aK #[aH aB 0 0] 101))):=η ⟨HB.o.trans ((aX _ _).alloc HB.o.size _),cO wr _,gC _ _ _ _,HB.o.size⟩;have hzl:wr.heap.size<(wr.alloc (aK #[aH aB 0 0] 101)).heap.size:=by simp
   go_upto_region 13 with (fail)
   generalize wr.alloc (aK #[aH aB 0 0] 101)=w2 at*;obtain⟨lb,hlb⟩:∃lb,lb=wr.heap.size:=⟨_,rfl⟩;rw [<-hlb] at aR hzl ⊢;clear hlb HB;have c0:=(HC.o w2 aR.o.bl).c0;rw [hM] at c0;go_upto_region 14 with (fail)
   clear c0;have iX:Hid (∃v,tZ w lb v (nU D 0) w2):=η ⟨_,aR.o⟩;clear aR;go_loopw [7,8,45] (λ_ _ i wr=>∃j:Nat,j<=k/\i=ν (j:Int)/\Hid (∃v,tZ w lb v (nU D j) wr)) (λ_ _ i _=>k-(ag i).toNat)
   case atStart=>exact⟨0,bL _,rfl,iX⟩
   case round=>
    clear iX;obtain⟨j,hj,rfl,uk⟩:=hrel;obtain⟨v,hv⟩:=uk.o;have HI:=η hv;clear uk hv;by_cases hlt:j<k
    ·have yZ:j<aA D.x.ms:=by rw [hM];exact hlt
     obtain⟨bl,ol,kO,hbl,l0,l1⟩:=FX (JJ.o _ HI.o.bl) yZ;have eY:(0:Int)<=(j:Int):=by omega
     have hkb:(j:Int)<(k:Int):=by omega
     have Zb:Hid (kq D j=D.x.ms[j]):=η (by unfold kq;rw [sV,iD yZ];rfl);have uo:=η (a5k HP.o yZ);have CN:Hid (nU D (j+1)=nU D j++gX 7 ((j:Int)+1) 8 ((j:Int)+1) (kq D j).a++gX 7 ((j:Int)+1) 9 ((j:Int)+1) (kq D j).b):=η rfl;rw [Zb.o] at uo CN;have hjw:(j:Int)+1=aF.wrap ((j:Int)+1):=(wE (by unfold aL;omega)).symm;rw [hjw] at CN;have CM:Hid (aA (nU D j)<=400):=η (by rw [a3B];omega);clear hjw Zb;generalize D.x.ms[j]=x at*;obtain⟨xa,xb⟩:=x;simp only at l0 l1;rw [kO] at*;have gG:Hid (β wr (wr.alloc (aK #[ν xa,ν xb] 67))):=η σ;have qZ:Hid ((wr.alloc (aK #[ν xa,ν xb] 67)).heap[wr.heap.size]? =aC (aK #[ν xa,ν xb] 67 (0,0))):=η (cO wr _);have vq:wr.heap.size<(wr.alloc (aK #[ν xa,ν xb] 67)).heap.size:=by simp
     go_upto_region 16 with (fail)
     generalize wr.alloc (aK #[ν xa,ν xb] 67)=w6 at*;obtain⟨bx,bT⟩:∃bx,bx=wr.heap.size:=⟨_,rfl⟩;rw [<-bT] at qZ vq ⊢;clear bT l0 l1;have wT:=η (HI.o.below gG.o);have fM:Hid (∀W,β w6 W->W.cell? ⟨bx,0,aB⟩=aC (ν xa)):=η (λW hW=>bH _ _ _ _ _ (0,0) ((hW.block bx vq).trans qZ.o));have Ku:Hid (∀W,β w6 W->aQ aM 48 #[bU #[ν 7,ν (aF.wrap ((j:Int)+1))],bU #[ν 8,ν (aF.wrap ((j:Int)+1))],ν xa,π lb] W λe W'=>e=aT (bB #[])/\(∃v',tZ w lb v' (nU D j++gX 7 (aF.wrap ((j:Int)+1)) 8 (aF.wrap ((j:Int)+1)) xa) W')/\W'.heap[bx]? =aC (aK #[ν xa,ν xb] 67 (0,0))/\W'.cell? ⟨bx,0,aB⟩=aC (ν xa)):=η (λW hW=>by
      have hE:=wT.o.below hW;have oJ:=(hW.block bx vq).trans qZ.o;refine(Po w lb v (nU D j) 7 (aF.wrap ((j:Int)+1)) 8 (aF.wrap ((j:Int)+1)) xa W hE uo.o.1.1 uo.o.1.2 (by have:=CM.o;omega)).mono ?_;rintro e W' ⟨q1,v',q2,q3⟩;have QI:W'.heap[bx]? =aC (aK #[ν xa,ν xb] 67 (0,0)):=(q3.keep bx (fW.1 oJ).1 (λh=>by
       rcases h with h|h
       ·subst h;have:=oJ.symm.trans hE.blk;simp at this
       exact gM hE.own oJ (by decide) h)).trans oJ
      exact⟨q1,⟨v',q2⟩,QI,ρ QI⟩)
     have bP:β w6 w6.drew:=(aX _ _).drew;have hdd:=fM.o _ bP;clear HI gG;go_region_held3 (λW=>W.cell? ⟨bx,0,aB⟩=aC (ν xa)) (first|(with_reducible assumption)) (first|(go_at_call 47;with_reducible refine tY (za (aF.wrap ((j:Int)+1)) _) ?_;rintro e wa ⟨rfl,nA⟩;have yX:β w6 wa:=jt (by with_reducible assumption) (nA.mono (gT (by with_reducible assumption)));have qp:=fM.o _ yX)|(go_at_call 49;with_reducible refine tY (Ed (aF.wrap ((j:Int)+1)) _) ?_;rintro e wb ⟨rfl,iy⟩;have rY:β w6 wb:=jt (by with_reducible assumption) (iy.mono (gT (by with_reducible assumption)));have hcb:=fM.o _ rY)|(go_at_call 48;with_reducible refine tY (Ku.o _ (by with_reducible assumption)) ?_;rintro e wc ⟨rfl,Vv,a4B,Vt⟩))
     all_goals
      have ZL:=η Vv;have dH:=η a4B;clear Vv a4B Vt nA yX qp iy rY hcb bP hdd fM Ku qZ wT;obtain⟨v8,Qt⟩:=ZL.o;have OD:=η Qt;have hz8:bx<wc.heap.size:=(fW.1 dH.o).1;clear Qt ZL vq;go_upto_region 17 with (fail)
      have fM:Hid (∀W,β wc W->W.cell? ⟨bx,1,aB⟩=aC (ν xb)):=η (λW hW=>bH _ _ _ _ _ (0,0) ((hW.block bx hz8).trans dH.o));have Ku:Hid (∀W,β wc W->aQ aM 48 #[bU #[ν 7,ν (aF.wrap ((j:Int)+1))],bU #[ν 9,ν (aF.wrap ((j:Int)+1))],ν xb,π lb] W λe W'=>e=aT (bB #[])/\(∃v',tZ w lb v' (nU D (j+1)) W')/\W'.cell? ⟨bx,1,aB⟩=aC (ν xb)):=η (λW hW=>by
       have hE:=OD.o.below hW;have oJ:=(hW.block bx hz8).trans dH.o;refine(Po w lb v8 _ 7 (aF.wrap ((j:Int)+1)) 9 (aF.wrap ((j:Int)+1)) xb W hE uo.o.2.1 uo.o.2.2 (by rw [cN];have:=CM.o;simp [gX];omega)).mono ?_;rintro e W' ⟨q1,v',q2,q3⟩;have QI:W'.heap[bx]? =aC (aK #[ν xa,ν xb] 67 (0,0)):=(q3.keep bx (fW.1 oJ).1 (λh=>by
        rcases h with h|h
        ·subst h;have:=oJ.symm.trans hE.blk;simp at this
        exact gM hE.own oJ (by decide) h)).trans oJ
       exact⟨q1,⟨v',by rw [CN.o];exact q2⟩,ρ QI⟩)
      have bP:β wc wc.drew:=(aX _ _).drew;have hdd:=fM.o _ bP;go_region_held3 (λW=>W.cell? ⟨bx,1,aB⟩=aC (ν xb)) (first|(with_reducible assumption)) (first|(go_at_call 49;with_reducible refine tY (Ed (aF.wrap ((j:Int)+1)) _) ?_;rintro e wd ⟨rfl,iy⟩;have rY:β wc wd:=jt (by with_reducible assumption) (iy.mono (gT (by with_reducible assumption)));have hcb:=fM.o _ rY)|(go_at_call 48;with_reducible refine tY (Ku.o _ (by with_reducible assumption)) ?_;rintro e we ⟨rfl,Vw,Vt⟩))
      all_goals
       have HIE:=η Vw;clear Vw Vt iy rY hcb bP hdd fM Ku;go_wp2_with fail
       go_roundw
       case rel=>exact⟨j+1,by omega,by go_num,HIE⟩
       case measure=>simp [ag];omega
    obtain rfl:j=k:=by omega
    have EE:Hid (fV D=nU D j++gX 5 0 3 0 D.x.line++gX 6 0 4 0 D.x.bV):=η (by unfold fV;rw [hM]);have Fq:Hid (aA (nU D j)<=400):=η (by rw [a3B];omega);have Z7:=η (λW v (h:tZ w lb v (nU D j) W)=>Po w lb v (nU D j) 5 0 3 0 D.x.line W h HP.o.li.1 HP.o.li.2 (by have:=Fq.o;omega));have oX:=η (λW v (h:tZ w lb v (nU D j++gX 5 0 3 0 D.x.line) W)=>Po w lb v _ 6 0 4 0 D.x.bV W h HP.o.ca.1 HP.o.ca.2 (by rw [cN];have:=Fq.o;simp [gX];omega));rw [<-EE.o] at oX;have c3:=(HC.o _ HI.o.bl).c3;have aGE:=(HF.o.below HI.o.bl).lt;clear JJ EE;go_upto_region 20 with (go_at_call 48;refine(Z7.o _ v HI.o).mono ?_;rintro e w3 ⟨rfl,v3,rZ,_⟩;have qQ:=η rZ;clear rZ)
    have c4:=(HC.o _ qQ.o.bl).c4;have aGF:=(HF.o.below qQ.o.bl).lt;clear c3 aGE HI;go_upto_region 21 with (go_at_call 48;refine(oX.o _ v3 qQ.o).mono ?_;rintro e w4 ⟨rfl,v4,vV,_⟩;have wS:=η vV;clear vV)
    have pn:=η (cu.bZ HF.o wS.o.bl);clear c4 aGF qQ Z7 oX;have aGG:=pn.o.at.lt;have c14:=pn.o.at.cells.c14;have f14:w4.frozen? ⟨db,14,aB⟩=aP:=by have hb:=pn.o.at.blk;simp [iJ,hb]
    go_upto_region 22 with (fail)
    obtain⟨A4,k4,hv4⟩:=bK wS.o.own;subst hv4;have ot:=η (pn.o.trans (pn.o.at.aFD aO));have aGX:lb≠db:=by rintro rfl;have:=pn.o.at.blk.symm.trans wS.o.blk;simp at this
    have cj:(w4.setCell ⟨db,14,aB⟩ (bJ aO)).heap[lb]? =aC (aK #[aH A4 (aA (fV D)) k4] 101 (0,0)):=(nK _ _ _ _ aGX).trans wS.o.blk;have fL:Hid ((w4.setCell ⟨db,14,aB⟩ (bJ aO)).ownsRow w.heap.size 103 4 (aH A4 (aA (fV D)) k4) (aA (fV D)) (qm (fV D))):=η (kF wS.o.own (gM wS.o.own pn.o.at.blk (by decide)) _);have cV:=η cj;have B4:Hid (w.heap.size<=lb):=η wS.o.lo;clear cj wS pn c14 f14 aGG;generalize w4.setCell ⟨db,14,aB⟩ (bJ aO)=w5 at*;have N7:lb<w5.heap.size:=(fW.1 cV.o).1;have yE:Hid (∀W,β w5 W->W.cell? ⟨db,8,aB⟩=aC (π p.vb)/\W.cell? ⟨lb,0,aB⟩=aC (aH A4 (aA (fV D)) k4)):=η (λW hW=>⟨(ot.o.at.below hW).cells.c8,bH _ _ _ _ _ (0,0) ((hW.block lb N7).trans cV.o)⟩);have dP:Hid (fX {D with en:=aO}):=η ⟨HP.o.ok.lI,HP.o.ok.hl,HP.o.ok.wl,HP.o.ok.gl,HP.o.ok.ob,HP.o.ok.bl,HP.o.ok.st⟩;have ZE:Hid (∀x∈fV D,x.ok):=η (aFH HP.o);have ZC:Hid (aA (fV D)<=1000):=η (by unfold fV;rw [cN,cN,hM];have:=Fq.o;simp [gX];omega);have Zl:Hid (∀W,β w5 W->aQ aM 50 #[π p.vb,aH A4 (aA (fV D)) k4] W λe W'=>e=aT (ν ee)/\aq db p (MC D) W W'/\W'.cell? ⟨db,8,aB⟩=aC (π p.vb)/\W'.cell? ⟨lb,0,aB⟩=aC (aH A4 (aA (fV D)) k4)):=η (λW hW=>by
     have HH:=ot.o.at.below hW;refine(YV p.vb p.vp (aA D.x.ms) (aA D.x.ss+1) (aA D.x.ms) D.l D.h (fV D) A4 k4 W HH.vt (aW.cA (iA fL.o hW)) ZE.o dP.o.lI (by have:=dP.o.hl;simp only at this;omega) (by have:=ZC.o;omega)).mono ?_;intro e W' h;obtain⟨q1,q2⟩:=HH.moved h;have hn:¬eV db p lb:=λh=>by have h1:=HF.o.uW h;have h2:=B4.o;omega
     obtain⟨_,r1⟩:=yE.o W hW;have r2:=(q2.cell 0 (cP N7 hW.size) hn).trans r1;obtain⟨p3,H3,f1,f2,f3,f4,qN,hs3⟩:=q2;exact⟨by rw [HE.o,<-hM];exact q1,⟨p3,H3,f1,f2,f3,f4,qN,hs3⟩,by rw [<-f1];exact H3.cells.c8,r2⟩)
    have bP:β w5 w5.drew:=(aX _ _).drew;have hdd:=yE.o _ bP;clear dP ZE ZC fL Fq;go_region_held3 (λW=>W.cell? ⟨db,8,aB⟩=aC (π p.vb)/\W.cell? ⟨lb,0,aB⟩=aC (aH A4 (aA (fV D)) k4)) (first|(with_reducible assumption)) ((go_at_call 50;with_reducible refine tY (Zl.o _ (by with_reducible assumption)) ?_;rintro e w6 ⟨rfl,hpt,WL⟩))
    obtain⟨p6,q6,_⟩:=(ot.o.below bP).then hpt;have ou:=η q6;clear q6 hpt WL bP hdd Zl yE ot;go_wp2_with fail
    go_ret;exact⟨rfl,by rw [HW.o];exact ou.o.p⟩
section
theorem a8V {w:aJ} {ops:Array Oper} {rest:List Oper} {o:Oper} {a:Act} {Q:Exit->Act->aJ->Prop}(hgd:o.guard=aB)(s x:Operand)
 (ho:o.op= .call {callee:= .builtin .append,args:= #[s,x],argTypes:= #[39,39]}) (base:Nat)
 (v:aN) (n:Nat) (xs:List aN) (hs:a.eval s=v) (hown:w.ownsRow base 76 3 v n xs)
 (A:Option aj) (c:Nat) (L:List Lg) (hx:a.eval x=aH A (aA L) c) (hz:sS w A c L) (hlen:n+aA L<=1000000) (hbase:base<=w.heap.size)
 (h:∀v' w',w'.ownsRow base 76 3 v' (n+aA L) (xs++bA L)->w.grownBy w' v.ownBlock->(v'.ownBlock=v.ownBlock\/v'.ownBlock=aC w.heap.size)->wpList aM ops Q rest (a.put o.dst v') w'):wpList aM ops Q (o::rest) a w:=by
 obtain⟨i0,bu,hz0,hz1,hz2⟩:=dL NJ;cases A with
 |none=>
  obtain⟨h1,rfl⟩:=hz.nil rfl;obtain rfl:L= []:=nO h1;refine wpList_append_own_none hgd s x 39 ho base 76 i0 3 sZ bu v n xs hs hown hx (h v w (by simpa [bA] using hown) ⟨rfl,rfl,rfl,aZ _,λ_ _ _=>rfl⟩ (.inl rfl))
 |some ad=>
  refine wpList_append_own_at w hgd s x 39 ho base 76 i0 _ 3 24 sZ bu hz0 hz1 hz2 rfl (by decide) v n xs hs hown ad (aA L) c (bA L) hx (a5P L) ?_ (a5Q L) (by simp only [bM];omega) (by omega) hbase ?_
  ·intro j u hu;obtain⟨b,o',e,_,hc⟩:=hz.dt j u hu;have e:=pE e;subst e;have ea:(⟨b,o',aB⟩:aj).add j=⟨b,o'+j,aB⟩:=by unfold Addr.add;split<;>simp_all
   rw [ea];exact hc
  intro v' w' h1 h2 _ h4;exact h v' w' h1 h2 h4
def TL:List bY:= [76,39]
theorem bW.far {w w':aJ} {db:Nat} {p:Dp} {D:Dk}(H:bW w db p D) {S:Nat->Prop}(hu:bC S w w')(hS:∀k,S k->Ty w TL k):bW w' db p D:=by
 have no:∀ {T:List bY} {k:Nat},Ty w T k->(∀t∈T,t∉TL)->¬S k:=λhk hd hs=>hk.apart (hS _ hs) hd
 exact⟨(hu.keep db H.lt (no H.ty (by decide))).trans H.blk,H.cf.upd hu (λk hk=>no hk (by decide)),H.vt.upd hu (λk hk=>no (H.vt.ty hk) (by decide)),H.sh.upd hu (λk hk=>no hk (by decide)),H.bx.upd hu (λk hk=>no hk (by decide)),H.Dy.upd hu (λk hk=>no hk (by decide)),H.same,hu.own H.who (λk hk=>no (Ty.own H.who hk) (by decide)),hu.own H.log (λk hk=>no (Ty.own H.log hk) (by decide))⟩
theorem cu.far {w wr w':aJ} {db:Nat} {p pk:Dp} {D:Dk}(hq:cu db p pk D w wr) {S:Nat->Prop}(hu:bC S wr w')(hS:∀k,S k->Ty wr TL k)(hn:∀k,S k->w.heap.size<=k):cu db p pk D w w':=by obtain⟨H,e1,e2,e3,e4,tO,ve⟩:=hq;refine⟨H.far hu hS,e1,e2,e3,e4, ?_,ve⟩;exact tO.trans hu (λk hk=> .inr (hn k hk))
structure mj(w:aJ)(db:Nat)(pk:Dp)(gb:Nat)(cs:List aN)(GS:List (List Lg))(lv:aN)(LK:List Lg)(wr:aJ):Prop where
 BU:wr.heap[gb]? =aC (aK cs.toArray 39 (0,0))
 Jz:¬eV db pk gb
 MM:w.heap.size<=gb
 len:aA cs=aA GS
 each:∀j (h:j<aA GS),∃A c,cs[j]? =aC (aH A (aA (GS[j])) c)/\iI db pk wr A (bA GS[j])/\(bA GS[j]≠ []->∀q,A=aC q->q.block≠gb/\lv.ownBlock≠aC q.block)
 own:wr.ownsRow w.heap.size 76 3 lv (aA LK) (bA LK)
 NR:∀k,lv.ownBlock=aC k->¬eV db pk k
section
variable {w wr w':aJ} {db:Nat} {pk:Dp} {gb:Nat} {cs:List aN} {GS:List (List Lg)} {lv:aN} {LK:List Lg} (H:mj w db pk gb cs GS lv LK wr)
include H
theorem mj.yV:gb<wr.heap.size:=(fW.1 H.BU).1
theorem mj.step {p':Dp} {D':Dk}(hq:cu db pk p' D' wr w'):mj w db p' gb cs GS lv LK w':=by
 have hq':=hq;obtain⟨_,_,_,_,_,hu,hs⟩:=hq;refine⟨(hu.keep gb H.yV H.Jz).trans H.BU,λh=> ?_,H.MM,H.len,λj h=> ?_,hu.own H.own H.NR,λk hk h=> ?_⟩
 ·rcases hs _ h with h1|h1
  ·exact H.Jz h1
  have:=H.yV;omega
 ·obtain⟨A,c,h1,h2,h3⟩:=H.each j h;exact⟨A,c,h1,h2.step hq',h3⟩
 rcases hs _ h with h1|h1
 ·exact H.NR k hk h1
 have:=(H.own.lt k hk).2;omega
theorem mj.below(hb:aa wr.heap.size wr w'):mj w db pk gb cs GS lv LK w':=by refine⟨(hb.block gb H.yV).trans H.BU,H.Jz,H.MM,H.len,λj h=> ?_,iA H.own hb,H.NR⟩;obtain⟨A,c,h1,h2,h3⟩:=H.each j h;exact⟨A,c,h1,h2.below hb,h3⟩
theorem mj.cell {j:Nat}(h:j<aA GS):∃A c,wr.cell? ⟨gb,j,aB⟩=aC (aH A (aA (GS[j])) c)/\iI db pk wr A (bA GS[j]):=by obtain⟨A,c,h1,h2,_⟩:=H.each j h;refine⟨A,c, ?_,h2⟩;rw [bH wr gb j _ _ (0,0) H.BU];simpa using h1
theorem mj.ngl:lv.ownBlock≠aC gb:=gM H.own H.BU (by decide)
theorem mj.put {j:Nat}(hj:j<aA GS) {A:Option aj} {c:Nat} {G:List Lg} {w0:aJ}(ho:oA db pk w0 wr A c G)(hg:gb<w0.heap.size)(hl:∀k,lv.ownBlock=aC k->k<w0.heap.size):mj w db pk gb (cs.set j (aH A (aA G) c)) (GS.set j G) lv LK (wr.setCell ⟨gb,j,aB⟩ (aH A (aA G) c)):=by
 have hb:∀k,k≠gb->(wr.setCell ⟨gb,j,aB⟩ (aH A (aA G) c)).heap[k]? =wr.heap[k]? :=λk hk=>nK _ _ _ _ hk
 have hsz:(wr.setCell ⟨gb,j,aB⟩ (aH A (aA G) c)).heap.size=wr.heap.size:=by simp
 have KL:∀ {B:Option aj} {xs:List aN},iI db pk wr B xs->(xs≠ []->∀q,B=aC q->q.block≠gb)->iI db pk (wr.setCell ⟨gb,j,aB⟩ (aH A (aA G) c)) B xs:=by intro B xs h1 h2;refine⟨?_,h1.o⟩;rw [hsz];intro i u hu;obtain⟨b,o,e,hb',hc⟩:=h1.dt i u hu;refine⟨b,o,e,hb', ?_⟩;rw [<-hc];exact gh (a:=⟨b,o+i,aB⟩) (hb b (h2 (by rintro rfl;simp at hu) _ e))
 refine⟨?_,H.Jz,H.MM,by rw [yL,yL];exact H.len,λi hi=> ?_,kF H.own H.ngl _,H.NR⟩
 ·rw [lf H.BU j _];simp
 rw [yL] at hi;by_cases rh:j=i
 ·subst rh;refine⟨A,c,by rw [List.getElem?_set];simp [H.len,hi], ?_, ?_⟩
  ·rw [a0G];exact KL ho.o (λ_ q hq e=>by have:=ho.new q hq;omega)
  rw [a0G];exact λ_ q hq=>⟨λe=>by have:=ho.new q hq;omega,λe=>by have h1:=ho.new q hq;have h2:=hl _ e;omega⟩
 obtain⟨B,d,h1,h2,h3⟩:=H.each i hi;refine⟨B,d,by rw [List.getElem?_set,ifN rh];rw [a0F rh];exact h1, ?_, ?_⟩
 ·rw [a0F rh];exact KL h2 (λhx q hq=>(h3 hx q hq).1)
 rw [a0F rh];exact h3
theorem mj.more {yf:aN} {K:List Lg} {n:Nat}(hn:n=aA (LK++K))(ho:w'.ownsRow w.heap.size 76 3 yf n (bA (LK++K)))(hg:wr.grownBy w' lv.ownBlock)(ha:yf.ownBlock=lv.ownBlock\/yf.ownBlock=aC wr.heap.size)(hlt:∀k,eV db pk k->k<wr.heap.size):mj w db pk gb cs GS yf (LK++K) w':=by
 subst hn;refine⟨(hg.block gb H.yV (λe=>H.ngl e.symm)).trans H.BU,H.Jz,H.MM,H.len,λj h=> ?_,ho,λk hk h=> ?_⟩
 ·obtain⟨A,c,h1,h2,h3⟩:=H.each j h;refine⟨A,c,h1,⟨?_,h2.o⟩,λhx q hq=>⟨(h3 hx q hq).1,λe=> ?_⟩⟩
  ·intro i u hu;obtain⟨b,o,e,hb,hc⟩:=h2.dt i u hu;refine⟨b,o,e,cP hb hg.size, ?_⟩;rw [<-hc];have hx:bA GS[j]≠ []:=by intro e0;rw [e0] at hu;simp at hu
   exact gh (a:=⟨b,o+i,aB⟩) (hg.block b hb (λe'=>(h3 hx _ e).2 e'.symm))
  rcases ha with ha|ha
  ·rw [ha] at e;exact(h3 hx q hq).2 e
  rw [ha] at e;injection e with e;have:=a7H h2.dt hx q hq;omega
 rcases ha with ha|ha
 ·exact H.NR k (ha▸hk) h
 rw [ha] at hk;injection hk with hk;have:=hlt k h;omega
theorem mj.upd {n:Nat} {D:Dk} {p:Dp}(hq:cu db p pk D w wr)(hg:wr.grownBy w' lv.ownBlock):cu db p pk D w w':=
 hq.far (S:=λk=>lv.ownBlock=aC k) (bC.IX hg (λk hk=> .inl hk)) (λk hk=>(Ty.own H.own hk).mono (by decide)) (λk hk=>(H.own.lt k hk).1)
theorem mj.a8K {D:Dk} {p:Dp}(hq:cu db p pk D w wr)(j:Nat)(u:aN):cu db p pk D w (wr.setCell ⟨gb,j,aB⟩ u):=
 hq.far (S:=λk=>k=gb) ((bC.refl (λk=>k=gb) wr).setCell (p:=⟨gb,j,aB⟩) (.inl rfl) u) (λk hk=>⟨_,_,by decide,hk▸H.BU⟩) (λk hk=>hk▸H.MM)
end
end
inductive wG(D:Dk):Nat->Dk->Prop
 |zero:wG D 0 D
 |succ {n:Nat} {E E':Dk}:wG D n E->Iy E ((n:Int)+1) E'->wG D (n+1) E'
def hands(E:Dk):Nat->Dk
 |0=>E
 |n+1=>Es (hands E n) ((n:Int)+1)
def rW(E:Dk)(N:Nat):Nat->List (List Lg)
 |0=>gP (N+1) []
 |k+1=>(rW E N k).set (k+1) (jU (hands E k) ((k:Int)+1))
def iV(E:Dk):Nat->List Lg
 |0=> []
 |k+1=>iV E k++oI (hands E k) ((k:Int)+1)
theorem aFy(E:Dk)(N k:Nat):aA (rW E N k)=N+1:=by
 induction k with
 |zero=>simp [rW]
 |succ k ih=>unfold rW;rw [yL];exact ih
def FQ(GS:List (List Lg))(lost:List Lg)(E:Dk)(x:Ob):Dk:= {E with ob:=lS x.m x.a (sB x.a (-x.az) (ofV x.m (GS.getD x.a.toNat [])) (decide (ofV x.m lost>0))) (Bj (-x.az) (ofV x.m (GS.getD x.a.toNat []))) E.ob}
def sA(GS:List (List Lg))(lost:List Lg)(E:Dk)(L:List Ob):Dk:=L.foldl (FQ GS lost) E
theorem aHp {GS:List (List Lg)} {lost:List Lg} {E:Dk} {L:List Ob} {k:Nat}(h:k<aA L):sA GS lost E (L.take (k+1))=FQ GS lost (sA GS lost E (L.take k)) L[k]:=by rw [fE h];unfold sA;rw [List.foldl_append];rfl
def tC(D:Dk):List Ob:=D.ob.filter λx=>x.st==1&&(λx=>decide (x.az<0)) x
def nr(E:Dk):Dk:=hands E (aA E.x.ss)
def pV(E:Dk):List Lg:=iV E (aA E.x.ss)
def eU(E:Dk):Dk:=Ib (nr E) (pV E)
def tW(E:Dk):List (List Lg):=(rW E (aA E.x.ss) (aA E.x.ss)).set 0 (j7 (nr E) (pV E))
def Bu(E:Dk):List Lg:=mY (nr E) (pV E)
def ik(E:Dk):Dk:=sA (tW E) (Bu E) (eU E) (tC (eU E))
def Ni(E:Dk):Dk:=leaveD (ik E) ((ik E).x.ss.length+1)
def pU(E:Dk):Dk:= {Ni E with bx:= [],st:=0}
def Jg(D D':Dk):Prop:=(D.st≠2/\D'=D)\/(D.st=2/\∃E,wG D (aA D.x.ss) E/\D'=pU E)
def Ii(D:Dk):Int:=if D.st=2 then 0 else 11
structure Oq(D:Dk)(s:Int):Prop where
 b:aL (balA (aA D.x.ms) (aA D.x.ss+1) D.l 1 0 s)
 O:∀k,k<=aA (jU D s)->fX (iw D ((jU D s).take k))
 I:∀x∈jU D s,aL x.m/\aL x.a/\aL x.n/\0<=x.n
 l:aA (jU D s)<=80000
 g:(iw D (jU D s)).log.length+aA (oI D s)<=90000
 k:aA (oI D s)<=400
structure a0Q(E:Dk):Prop where
 sl:aA E.x.ss<=1000
 hand:∀k,k<aA E.x.ss->Oq (hands E k) ((k:Int)+1)
 lk:∀k,k<=aA E.x.ss->aA (iV E k)<=400
 pay:P5 (nr E) (pV E)
 ol:(eU E).ob.length<=1024
 cl:∀x∈tC (eU E),0<=x.a/\x.a<((aA E.x.ss+1:Nat):Int)/\aL x.az/\fJ<x.az
 mO:∀k,k<=aA (tC (eU E))->fX (sA (tW E) (Bu E) (eU E) ((tC (eU E)).take k))
 gl:∀G∈tW E,aA G<=100000
 ll:aA (Bu E)<=100000
 vO:∀k,k<=(ik E).x.ss.length+1->fX (leaveD (ik E) k)
 vI:∀k,k<=(ik E).x.ss.length->aL (balA (ik E).x.ms.length ((ik E).x.ss.length+1) (leaveD (ik E) k).l 1 0 (k:Int))
 vs:(ik E).x.ss.length<=100000
structure UJ(D:Dk):Prop where
 sl:aA D.x.ss<=1000
 Pa:∀n E,n<aA D.x.ss->wG D n E->SY E ((n:Int)+1)
 rest:∀E,wG D (aA D.x.ss) E->a0Q E
theorem oA.a7J {db:Nat} {p:Dp} {w0 wr:aJ} {A:Option aj} {c:Nat} {L:List Lg}(h:oA db p w0 wr A c L) {gb:Nat}(hg:gb<w0.heap.size)(j:Nat)(u:aN):oA db p w0 (wr.setCell ⟨gb,j,aB⟩ u) A c L:=by
 refine⟨⟨?_,h.o.o⟩,h.new,h.nil⟩;have hsz:(wr.setCell ⟨gb,j,aB⟩ u).heap.size=wr.heap.size:=by simp
 rw [hsz];intro i v hv;obtain⟨b,o,e,hb,hc⟩:=h.o.dt i v hv;refine⟨b,o,e,hb, ?_⟩;rw [<-hc];exact gh (a:=⟨b,o+i,aB⟩) (nK _ _ _ _ (λe'=>by have h1:w0.heap.size<=b:=h.new _ e;simp only at e';omega))
theorem aHj(n:Nat):madeCells (aH aB 0 0).cells n=lB n (aH aB 0 0):=by apply Array.toList_inj.1;have e:(aH aB 0 0).cells= #[aH aB 0 0]:=rfl;rw [e,toList_madeCells_one];simp
theorem aHl(n:Nat)(hn:n<=100000)(W:aJ):(Ou 124 (aG aF (n:Int)) (aG aF (n:Int))).run aM W= .ok (aH (aC ⟨W.heap.size,0,aB⟩) n n) (W.alloc (aK (lB n (aH aB 0 0)) 39)):=by
 have inf:(aM.info? 39).map (λi=>(i.zero,i.size,i.bytes))=aC (aC (aH aB 0 0),1,24):=by kernel_rfl
 obtain⟨i0,hi,hz0,hz1,hz2⟩:=dL inf;have h:=run_makeSlice (P:=aM) W 124 39 i0 _ underlying124 hi hz0 aF aF n n (by omega) (dJ _) (by rw [hz1];simp;omega) (by rw [hz2];simp;omega) (by omega);rw [hz1] at h;simp only [Int.toNat_natCast,Nat.mul_one] at h;rw [aHj] at h;exact h
theorem aHm(n:Nat)(hn:n<=10000)(W:aJ):(Ou 124 (aG aF ((n:Int)+1)) (aG aF ((n:Int)+1))).run aM W= .ok (aH (aC ⟨W.heap.size,0,aB⟩) (n+1) (n+1)) (W.alloc (aK (lB (n+1) (aH aB 0 0)) 39)):=by have h:=aHl (n+1) (by omega) W;rw [show (((n+1:Nat):Int))=(n:Int)+1 from by omega] at h;exact h
theorem bW.cleared {w:aJ} {db:Nat} {p:Dp} {D:Dk}(H:bW w db p D)(h:jA (w.setCell ⟨p.xb,8,aB⟩ (aH aB 0 0)) p.xb p.xc (aH aB 0 0) []):aq db p {D with bx:= []} w (w.setCell ⟨p.xb,8,aB⟩ (aH aB 0 0)):=
 H.boxed h ((bC.refl _ _).setCell (p:=⟨p.xb,8,aB⟩) (.inl (.inl rfl)) _) (λk hk=>by simp [dy] at hk)
theorem a2c(db:Nat)(p:Dp)(D:Dk)(w:aJ)(H:bW w db p D)(hP:D.st=2->UJ D):
 aQ aM 29 #[bF (aC ⟨db,0,aB⟩)] w λe w'=>e=aT (aG aF (Ii D))/\∃D',Jg D D'/\aq db p D' w w':=by
 have hb0:aa w.heap.size w (w.alloc (aK #[aG aF 2] 3)):=(aX _ _).alloc (aZ _) _;have jO:=η (Js db p D 2 (aC ⟨w.heap.size,0,aB⟩) 1 _ (H.below hb0) (λj u hu=>⟨w.heap.size,0,rfl,by simp,by
  match j,hu with
  |0,hu=>exact(cL w #[aG aF 2] 3 0 rfl).trans (by simpa using hu)
  |j+1,hu=>simp at hu⟩))
 have HF:=η H;have aY:=η hb0;clear hb0 H;by_cases h1:D.st=2
 case neg=>
  have e2:Ii D=11:=by unfold Ii;rw [ifN h1]
  have HR:Hid (Jg D D):=η (.inl ⟨h1,rfl⟩);rw [ifN h1] at jO;rw [e2];clear h1 e2 hP;go_enter aB0,aBl
  go_wp2_with (go_at_call 51;refine jO.o.mono ?_;rintro e w1 ⟨rfl,hb1⟩;have aR:=τ aY hb1;clear hb1)
  go_ret;exact⟨rfl,D,HR.o,aq.bZ HF.o aR.o⟩
 have HP:=η (hP h1);have e2:Ii D=0:=by unfold Ii;rw [ifP h1]
 have HR:Hid (∀E,wG D (aA D.x.ss) E->Jg D (pU E)):=η (λE h=> .inr ⟨h1,E,h,rfl⟩);rw [ifP h1] at jO;rw [e2];have jk:aA D.x.ss<=1000:=HP.o.sl;clear h1 e2 hP;go_enter aB0,aBl
 go_upto_region 4 with (go_at_call 51;refine jO.o.mono ?_;rintro e w1 ⟨rfl,hb1⟩;have aR:=τ aY hb1;clear hb1)
 clear jO aY;have iX:Hid (∃E,wG D 0 E/\cu db p p E w w1):=η ⟨D,.zero,cu.bZ HF.o aR.o⟩;have xP:=(HF.o.below aR.o).lt;have c1:=(HF.o.below aR.o).cells.c1;clear HF aR;generalize hN:aA D.x.ss=N at*;go_upto_region 5 with (fail)
 clear c1 xP;go_loopw [4,27] (λ_ i wr=>∃(k:Nat) (pk:Dp),k<=N/\i=aG aF (k:Int)/\Hid (∃E,wG D k E/\cu db p pk E w wr)) (λ_ i _=>N-(ag i).toNat)
 case atStart=>exact⟨0,p,bL _,rfl,iX⟩
 case round=>
  clear iX;obtain⟨k,pk,hk,rfl,HQ⟩:=hrel;by_cases hlt:k<N
  ·have eY:(0:Int)<=(k:Int):=by omega
   have hkb:(k:Int)<(N:Int):=by omega
   have Ks:Hid (aQ aM 70 #[bF (aC ⟨db,0,aB⟩),aG aF ((k:Int)+1)] wr λe w'=>e=aT (bB #[])/\∃p',∃E,wG D (k+1) E/\cu db p p' E w w'):=η (by obtain⟨E,hE,hq⟩:=HQ.o;refine(aEn db pk E ((k:Int)+1) wr hq.at (HP.o.Pa k E (by rw [hN];exact hlt) hE)).mono ?_;rintro e w' ⟨h1,E',h2,h3⟩;obtain⟨p',h4,_⟩:=hq.then h3;exact⟨h1,p',E',.succ hE h2,h4⟩);go_wp2_with (go_at_call 70;refine Ks.o.mono ?_;rintro e w2 ⟨rfl,p2,h2⟩;have lL:=η h2;clear h2)
   go_roundw
   case rel=>exact⟨k+1,p2,by omega,by go_num,lL⟩
   case measure=>simp [ag];omega
  obtain rfl:k=N:=by omega
  obtain⟨E,hE,hq⟩:=HQ.o;have B8:=η hq;have Th:=η (HR.o E (by rw [hN] at*;exact hE));have dP:=η (HP.o.rest E (by rw [hN];exact hE));clear hE hq HQ HR HP hN hk hlt jk;have jk:aA E.x.ss<=1000:=dP.o.sl;have xP:=B8.o.at.lt;have c1:=B8.o.at.cells.c1;have kK:Hid (∀k,k<=aA E.x.ss->aA (iV E k)<=400):=η dP.o.lk;have OC:Hid (∀k,k<aA E.x.ss->Oq (hands E k) ((k:Int)+1)):=η dP.o.hand;have mk:=aHm (aA E.x.ss) (by omega) wr;have hG0:rW E (aA E.x.ss) 0=gP (aA E.x.ss+1) []:=rfl;have Au:=η hG0;clear hG0;have L8:Hid (hands E 0=E):=η rfl;have LH:Hid (iV E 0= []):=η rfl;have yC:Hid (∀k,hands E (k+1)=Es (hands E k) ((k:Int)+1)):=η (λ_=>rfl);have ZJ:Hid (∀N k,rW E N (k+1)=(rW E N k).set (k+1) (jU (hands E k) ((k:Int)+1))):=η (λ_ _=>rfl);have Fu:Hid (∀k,iV E (k+1)=iV E k++oI (hands E k) ((k:Int)+1)):=η (λ_=>rfl);have TE:Hid (nr E=hands E (aA E.x.ss)):=η rfl;have OH:Hid (pV E=iV E (aA E.x.ss)):=η rfl;have T9:Hid (tW E=(rW E (aA E.x.ss) (aA E.x.ss)).set 0 (j7 (nr E) (pV E))):=η rfl;have B1:Hid (∀k,aA (rW E (aA E.x.ss) k)=aA E.x.ss+1):=η (λk=>aFy E _ k);generalize hM:aA E.x.ss=M at*;have lL:Hid (cu db p pk (hands E 0) w (wr.alloc (aK (lB (M+1) (aH aB 0 0)) 39))):=η (by rw [L8.o];exact B8.o.below ((aX _ _).alloc (aZ _) _));have fY:Hid (mj w db pk wr.heap.size (gP (M+1) (aH aB 0 0)) (rW E M 0) (aH aB 0 0) (iV E 0) (wr.alloc (aK (lB (M+1) (aH aB 0 0)) 39))):=η (by
   rw [Au.o,LH.o];refine⟨?_,λh=>by have:=B8.o.at.uW h;omega,B8.o.size,by simp,λj h=>⟨aB,0, ?_, ?_, ?_⟩,gC _ _ _ _,λk hk=>by simp [dy] at hk⟩
   ·rw [List.toArray_replicate];exact cO wr _
   ·have hj:j<M+1:=by simpa using h
    rw [List.getElem?_replicate,ifP hj,UC];rfl
   ·rw [UC];exact iI.nil
   rw [UC];exact λh=>absurd rfl h)
  go_upto_region 9 with (fail)
  go_upto_region 10 with (fail)
  clear mk;generalize (wr.alloc (aK (lB (M+1) (aH aB 0 0)) 39))=w2 at*;obtain⟨gb,hgb⟩:∃gb,gb=wr.heap.size:=⟨_,rfl⟩;rw [<-hgb] at fY ⊢;generalize gP (M+1) (aH aB 0 0)=cs0 at*;have xP:=lL.o.at.lt;have c1:=lL.o.at.cells.c1;rw [L8.o,hM] at c1;clear hgb Au LH B8;go_upto_region 12 with (fail)
  clear c1 xP;have mi:Hid (∃cs,mj w db pk gb cs (rW E M 0) (aH aB 0 0) (iV E 0) w2):=η ⟨_,fY.o⟩;clear fY;go_loopw [6,7,8,9,49] (λlv _ _ _ i wr=>∃(k:Nat) (pk:Dp),k<=M/\i=aG aF (k:Int)/\Hid (cu db p pk (hands E k) w wr)/\Hid (∃cs,mj w db pk gb cs (rW E M k) lv (iV E k) wr)) (λ_ _ _ _ i _=>M-(ag i).toNat)
  case atStart=>exact⟨0,pk,bL _,rfl,lL,mi⟩
  case round=>
   clear mi lL;obtain⟨k,pk,hk,rfl,HQ,uk⟩:=hrel;by_cases hlt:k<M
   ·have eY:(0:Int)<=(k:Int):=by omega
    have hkb:(k:Int)<(M:Int):=by omega
    obtain⟨cs,hi⟩:=uk.o;have HI:=η hi;clear hi uk;have EC:=η (OC.o k hlt);have ZK:=η (aEt db pk (hands E k) ((k:Int)+1) wr HQ.o.at EC.o.b EC.o.O EC.o.I EC.o.l EC.o.g (by have:=EC.o.k;omega));have a9K:=η (yC.o k);have a9I:=η (ZJ.o M k);have a9N:=η (Fu.o k);have a9O:Hid (aA (iV E k)<=400):=η (kK.o k (by omega));have a9M:Hid (aA (oI (hands E k) ((k:Int)+1))<=400):=η EC.o.k;have TA:=η (B1.o k);clear EC;generalize jU (hands E k) ((k:Int)+1)=G at*;generalize oI (hands E k) ((k:Int)+1)=K at*;generalize Es (hands E k) ((k:Int)+1)=E3 at*;go_upto_region 15 with (go_at_call 71;refine ZK.o.mono ?_;rintro e w3 ⟨A3,k3,B3,d3,p3,rfl,KG,nh,BX⟩;have JO:=η (HQ.o.trans KG);have qQ:=η (HI.o.step KG);have iP:=η nh;have ZZ:=η BX;clear KG nh BX)
    clear ZK HQ;have qw:k+1<aA (rW E M k):=by rw [TA.o];omega
    have LC:=η qw;obtain⟨A9,n9,c9,g9⟩:∃A n c,w3.cell? ⟨gb,k+1,aB⟩=aC (aH A n c):=by obtain⟨A,c,h,_⟩:=qQ.o.cell qw;exact⟨A,_,c,h⟩
    have f9:w3.frozen? ⟨gb,k+1,aB⟩=aP:=by have hb:=qQ.o.BU;simp [iJ,hb]
    have N2:((k:Int)+1).toNat=k+1:=by omega
    have aGQ:=qQ.o.yV;clear qw;go_upto_region 16 with (fail)
    have wS:=η (qQ.o.put LC.o iP.o HI.o.yV (λj hj=>(HI.o.own.lt j hj).2));have pn:=η (qQ.o.a8K JO.o (k+1) (aH A3 (aA G) k3));have TQ:=η (ZZ.o.a7J HI.o.yV (k+1) (aH A3 (aA G) k3));clear qQ JO ZZ iP HI g9 f9 N2 aGQ LC;generalize (w3.setCell ⟨gb,k+1,aB⟩ (aH A3 (aA G) k3))=w4 at*;go_wp2_with (at_builtin;refine a8V rfl _ _ rfl w.heap.size _ (aA (iV E k)) (bA (iV E k)) rfl wS.o.own B3 d3 K rfl ⟨TQ.o.o.dt,TQ.o.nil⟩ (by have:=a9O.o;have:=a9M.o;omega) pn.o.size ?_)
    intro yf w5 iU ej ha5;have LA:Hid (∃cs,mj w db p3 gb cs (rW E M (k+1)) yf (iV E (k+1)) w5):=η ⟨_,by rw [a9I.o,a9N.o];exact wS.o.more (n:=aA (iV E k)+aA K) (by simp) (by rw [show bA (iV E k++K)=bA (iV E k)++bA K from by simp [bA]];exact iU) ej ha5 (λj hj=>pn.o.at.uW hj)⟩;have ot:Hid (cu db p p3 (hands E (k+1)) w w5):=η (by rw [a9K.o];exact wS.o.upd (n:=0) pn.o ej);clear iU ej ha5 wS pn TQ;go_wp2_with fail
    go_roundw
    case rel=>exact⟨k+1,p3,by omega,by go_num,ot,LA⟩
    case measure=>simp [ag];omega
   obtain rfl:k=M:=by omega
   obtain⟨cs,hi⟩:=uk.o;obtain⟨Al,cl,hlv⟩:=bK hi.own;subst hlv;have HI:=η hi;have kA:=HI.o.yV;clear hi uk OC kK ZJ Fu yC;have CY:Hid (P5 (hands E k) (iV E k)):=η (by have h:=dP.o.pay;rw [TE.o,OH.o] at h;exact h);have EK:=η (aF2 db pk (hands E k) (iV E k) Al cl wr HQ.o.at (aW.cA HI.o.own) CY.o);rw [<-TE.o,<-OH.o] at EK;have hsp:eU E=Ib (nr E) (pV E):=rfl;have a4U:Bu E=mY (nr E) (pV E):=rfl;rw [<-hsp,<-a4U] at EK;have TA:=η (B1.o k);have TP:Hid (aA (tW E)=k+1):=η (by rw [T9.o,yL];exact B1.o k);have uA:Hid ((eU E).ob.length<=1000000):=η (by have:=dP.o.ol;omega);have eF:aA (pV E)=aA (iV E k):=by rw [OH.o]
   rw [eF] at EK;clear CY hsp a4U eF B1 L8;go_upto_region 19 with (go_at_call 72;refine EK.o.mono ?_;rintro e w6 ⟨A6,c6,B6,d6,p6,rfl,FC,hn6,hm6⟩;have ou:=η (HQ.o.trans FC);have wT:=η (HI.o.step FC);have wV:=η hn6;have JH:=η hm6;clear FC hn6 hm6)
   clear EK HQ;have qw:0<aA (rW E k k):=by rw [TA.o];omega
   have LC:=η qw;obtain⟨A9,n9,c9,g9⟩:∃A n c,w6.cell? ⟨gb,0,aB⟩=aC (aH A n c):=by obtain⟨A,c,h,_⟩:=wT.o.cell qw;exact⟨A,_,c,h⟩
   have f9:w6.frozen? ⟨gb,0,aB⟩=aP:=by have hb:=wT.o.BU;simp [iJ,hb]
   have aGR:=wT.o.yV;clear qw;go_upto_region 20 with (fail)
   have CQ:Hid (∃cs,mj w db p6 gb cs (tW E) (aH Al (aA (iV E k)) cl) (iV E k) (w6.setCell ⟨gb,0,aB⟩ (aH A6 (aA (j7 (nr E) (pV E))) c6))):=η ⟨_,by rw [T9.o];exact wT.o.put LC.o wV.o HI.o.yV (λj hj=>(HI.o.own.lt j hj).2)⟩;have qW:=η (wT.o.a8K ou.o 0 (aH A6 (aA (j7 (nr E) (pV E))) c6));have OQ:=η (JH.o.a7J HI.o.yV 0 (aH A6 (aA (j7 (nr E) (pV E))) c6));clear wT ou JH wV HI g9 f9 aGR LC T9;generalize (w6.setCell ⟨gb,0,aB⟩ (aH A6 (aA (j7 (nr E) (pV E))) c6))=w7 at*;have c9':=qW.o.at.cells.c9;have aGH:=qW.o.at.lt;have Sr:=η (aIP (eU E).ob p6.sv p6.sb 0 w7 qW.o.at.sh uA.o);have hce:((eU E).ob.filter λx=>x.st==1&&(λx=>decide (x.az<0)) x)=tC (eU E):=rfl;rw [hce] at Sr;have jz:aA (tC (eU E))<=100000:=by have h1:aA (tC (eU E))<=(eU E).ob.length:=qd _ _;have:=dP.o.ol;omega
   have O3:Hid (∀x∈tC (eU E),0<=x.a/\x.a<((k+1:Nat):Int)/\aL x.az/\fJ<x.az):=η (by have h:=dP.o.cl;rw [hM] at h;exact h);have uo:Hid (∀j,j<=aA (tC (eU E))->fX (sA (tW E) (Bu E) (eU E) ((tC (eU E)).take j))):=η dP.o.mO;have OB:Hid (∀G∈tW E,aA G<=100000):=η dP.o.gl;have nB:aA (Bu E)<=100000:=dP.o.ll;have mH:=η nB;have zE:Hid (ik E=sA (tW E) (Bu E) (eU E) (tC (eU E))):=η rfl;have Zv:Hid (Ni E=leaveD (ik E) ((ik E).x.ss.length+1)):=η rfl;have Fp:Hid (pU E= {Ni E with bx:= [],st:=0}):=η rfl;have lJ:=η (λW p' (h:bW W db p' (ik E))=>aEw db p' (ik E) W h dP.o.vO dP.o.vI dP.o.vs);rw [<-Zv.o] at lJ;clear hce uA dP kA hM TE OH Zv nB;go_upto_region 21 with (go_at_call 73;refine Sr.o.mono ?_;rintro e w8 ⟨v8,rfl,Wc,lR⟩;obtain⟨A8,k8,Qt⟩:=bK Wc;subst Qt;have tz:=η (iI.cA qW.o.at Wc);have ow:=η (qW.o.below lR);have OD:Hid (∃cs,mj w db p6 gb cs (tW E) (aH Al (aA (iV E k)) cl) (iV E k) w8):=η (Exists.imp (λ_ h=>mj.below h lR) CQ.o);have Za:=η (OQ.o.below lR);clear Wc lR)
   clear Sr c9' aGH qW CQ OQ;generalize tW E=GS at*;generalize Bu E=lost at*;generalize eU E=P2 at*;generalize tC P2=L at*;have dw:Hid (cu db p p6 (sA GS lost P2 (L.take 0)) w w8):=η ow.o;have jd:Hid (iI db p6 w8 B6 (bA lost)):=η Za.o.o;clear ow Za;go_loopw [13,14,83] (λ_ _ i wr=>∃(j:Nat) (pk:Dp),j<=aA L/\i=aG aF (j:Int)/\Hid (cu db p pk (sA GS lost P2 (L.take j)) w wr)/\Hid (∃cs,mj w db pk gb cs GS (aH Al (aA (iV E k)) cl) (iV E k) wr)/\Hid (iI db pk wr B6 (bA lost))/\Hid (iI db pk wr A8 (fK L))) (λ_ _ i _=>aA L-(ag i).toNat)
   case atStart=>exact⟨0,p6,bL _,rfl,dw,OD,jd,tz⟩
   case round=>
    clear dw OD jd tz;obtain⟨j,pk,hj,rfl,HQ,uk,OL,O4⟩:=hrel;by_cases hlt:j<aA L
    ·obtain⟨bl,ol,kO,hbl,l0,l1,l2,l3,l4,l5⟩:=vw O4.o.dt hlt;have zv:(0:Int)<=(j:Int):=by omega
     have hjb:(j:Int)<(aA L:Int):=by omega
     have HL:=η (aHp (GS:=GS) (lost:=lost) (E:=P2) hlt);have a9S:=η (uo.o j hj);have HX:=η (O3.o _ (cK hlt));obtain⟨cs,hi⟩:=uk.o;have HI:=η hi;clear hi uk;have mh:Hid (∀i,eV db pk i->i<wr.heap.size):=η (λi hi=>HQ.o.at.uW hi);subst kO;generalize sA GS lost P2 (L.take j)=E1 at*;generalize L[j]=x at*;obtain⟨xc,xm,xa,xn,xd,xs⟩:=x;simp only at l0 l1 l2 l3 l4 l5;obtain⟨na,hna⟩:∃na:Nat,xa=(na:Int):=⟨xa.toNat,by have h:0<=xa:=HX.o.1;omega⟩;subst hna;have pM:na<k+1:=by have h:(na:Int)<((k+1:Nat):Int):=HX.o.2.1;omega
     have Wb:na<aA GS:=by rw [TP.o];exact pM
     have HM1:Hid (FQ GS lost E1 ⟨xc,xm,(na:Int),xn,xd,xs⟩= {E1 with ob:=lS xm (na:Int) (sB (na:Int) (-xn) (ofV xm GS[na]) (decide (ofV xm lost>0))) (Bj (-xn) (ofV xm GS[na])) E1.ob}):=η (by unfold FQ;simp only [Int.toNat_natCast];rw [show GS.getD na []=GS[na] from by rw [sV,iD Wb];rfl]);obtain⟨Ag,cg,hgc,hgo⟩:=HI.o.cell Wb;have HGO:=η hgo;have ZH:=η hgc;have HGM:Hid (aA GS[na]<=100000):=η (OB.o _ (cK Wb));have hwn:aF.wrap (-xn)= -xn:=wE (by have h:aL xn/\fJ<xn:=HX.o.2.2;unfold fJ aL at*;omega);have ly:(0:Int)<=(na:Int):=by omega
     have mA:(na:Int)<(k:Int)+1:=by omega
     have yA:Hid (gb<wr.heap.size/\¬eV db pk gb):=η ⟨HI.o.yV,HI.o.Jz⟩;clear hgc hgo HX;generalize GS[na]=Gn at*;have oW:Hid (aa wr.heap.size wr ((wr.alloc (aK #[aG aF xc,aG aF xm,aG aF (na:Int),aG aF xn,aG aF xd,aG aF xs] 59)).alloc (aK #[aG aF xm,aG aF (na:Int),aG aF (-xn)] 76))):=η (((aX _ _).alloc (aZ _) _).alloc (by simp) _);have Ol:Hid (((wr.alloc (aK #[aG aF xc,aG aF xm,aG aF (na:Int),aG aF xn,aG aF xd,aG aF xs] 59)).alloc (aK #[aG aF xm,aG aF (na:Int),aG aF (-xn)] 76)).heap[wr.heap.size]? =aC (aK #[aG aF xc,aG aF xm,aG aF (na:Int),aG aF xn,aG aF xd,aG aF xs] 59 (0,0))):=η ((fF _ _ (by simp)).trans (cO wr _));have HY9:Hid (((wr.alloc (aK #[aG aF xc,aG aF xm,aG aF (na:Int),aG aF xn,aG aF xd,aG aF xs] 59)).alloc (aK #[aG aF xm,aG aF (na:Int),aG aF (-xn)] 76)).heap[wr.heap.size+1]? =aC (aK #[aG aF xm,aG aF (na:Int),aG aF (-xn)] 76 (0,0))):=η (Mg _ _ (by simp));have N8:wr.heap.size+1<((wr.alloc (aK #[aG aF xc,aG aF xm,aG aF (na:Int),aG aF xn,aG aF xd,aG aF xs] 59)).alloc (aK #[aG aF xm,aG aF (na:Int),aG aF (-xn)] 76)).heap.size:=by simp
     go_upto_region 23 with (fail)
     have e1:(wr.alloc (aK #[aG aF xc,aG aF xm,aG aF (na:Int),aG aF xn,aG aF xd,aG aF xs] 59)).cell? ⟨wr.heap.size,1,aB⟩=aC (aG aF xm):=bH _ _ _ _ _ (0,0) (cO wr _);have e2:(wr.alloc (aK #[aG aF xc,aG aF xm,aG aF (na:Int),aG aF xn,aG aF xd,aG aF xs] 59)).cell? ⟨wr.heap.size,2,aB⟩=aC (aG aF (na:Int)):=bH _ _ _ _ _ (0,0) (cO wr _);have e3:(wr.alloc (aK #[aG aF xc,aG aF xm,aG aF (na:Int),aG aF xn,aG aF xd,aG aF xs] 59)).cell? ⟨wr.heap.size,3,aB⟩=aC (aG aF xn):=bH _ _ _ _ _ (0,0) (cO wr _);go_upto_region 24 with (fail)
     clear e1 e2 e3 l0 l1 l2 l3 l4 l5;generalize ((wr.alloc (aK #[aG aF xc,aG aF xm,aG aF (na:Int),aG aF xn,aG aF xd,aG aF xs] 59)).alloc (aK #[aG aF xm,aG aF (na:Int),aG aF (-xn)] 76))=w9 at*;obtain⟨bx,bT⟩:∃bx,bx=wr.heap.size:=⟨_,rfl⟩;have dH:=η bT;rw [<-bT] at Ol HY9 N8 ⊢;clear bT;have HF9:=η (HQ.o.at.below oW.o);have bX:Hid (¬eV db pk bx/\¬eV db pk (bx+1)):=η ⟨λh=>by have:=mh.o bx h;rw [dH.o] at this;omega,λh=>by have:=mh.o _ h;rw [dH.o] at this;omega⟩;obtain⟨gl,kA⟩:∃gl,gl=aA Gn:=⟨_,rfl⟩;have L5:=η kA;rw [<-kA] at ZH;have bO:Hid (∀W,aa w9.heap.size w9 W->W.cell? ⟨bx+1,0,aB⟩=aC (aG aF xm)/\W.cell? ⟨bx+1,1,aB⟩=aC (aG aF (na:Int))/\W.cell? ⟨bx+1,2,aB⟩=aC (aG aF (-xn))/\W.cell? ⟨bx,1,aB⟩=aC (aG aF xm)/\W.cell? ⟨bx,2,aB⟩=aC (aG aF (na:Int))/\W.cell? ⟨gb,na,aB⟩=aC (aH Ag gl cg)):=η (λW hW=>by have hd:=(hW.block bx (by omega)).trans Ol.o;have pL:=(hW.block (bx+1) N8).trans HY9.o;have hg:=(hW.cell (p:=⟨gb,na,aB⟩) (cP yA.o.1 oW.o.size)).trans ((oW.o.cell (p:=⟨gb,na,aB⟩) yA.o.1).trans ZH.o);exact⟨bH _ _ _ _ _ (0,0) pL,bH _ _ _ _ _ (0,0) pL,bH _ _ _ _ _ (0,0) pL,bH _ _ _ _ _ (0,0) hd,bH _ _ _ _ _ (0,0) hd,hg⟩);have cE:Hid (∀W,aa w9.heap.size w9 W->aQ aM 75 #[aH Ag gl cg,aG aF xm] W λe w'=>e=aT (aG aF (ofV xm Gn))/\aa W.heap.size W w'):=η (λW hW=>by rw [L5.o];exact a2S Gn xm Ag cg W (((HGO.o.below oW.o).below hW).dt) HGM.o);have dD:Hid (∀W,aa w9.heap.size w9 W->aQ aM 75 #[aH B6 (aA lost) d6,aG aF xm] W λe w'=>e=aT (aG aF (ofV xm lost))/\aa W.heap.size W w'):=η (λW hW=>a2S lost xm B6 d6 W (((OL.o.below oW.o).below hW).dt) mH.o);have rH:Hid (∀W,aa w9.heap.size w9 W->aQ aM 74 #[bF (aC ⟨db,0,aB⟩),bU #[aG aF xm,aG aF (na:Int),aG aF (-xn)],aG aF (ofV xm Gn),bJ (decide (ofV xm lost>0))] W λe W'=>e=aT (bB #[])/\aq db pk {E1 with ob:=lS xm (na:Int) (sB (na:Int) (-xn) (ofV xm Gn) (decide (ofV xm lost>0))) (Bj (-xn) (ofV xm Gn)) E1.ob} W W'/\W'.cell? ⟨bx+1,0,aB⟩=aC (aG aF xm)/\W'.cell? ⟨bx+1,1,aB⟩=aC (aG aF (na:Int))/\W'.cell? ⟨bx+1,2,aB⟩=aC (aG aF (-xn))/\W'.cell? ⟨bx,1,aB⟩=aC (aG aF xm)/\W'.cell? ⟨bx,2,aB⟩=aC (aG aF (na:Int))/\W'.cell? ⟨gb,na,aB⟩=aC (aH Ag gl cg)):=η (λW hW=>by refine(aEy db pk E1 xm (na:Int) (-xn) (ofV xm Gn) (decide (ofV xm lost>0)) W (HF9.o.below hW) a9S.o).mono ?_;rintro e W' ⟨q1,q2⟩;have hz:=cP N8 hW.size;have hzg:=cP yA.o.1 (bz oW.o.size hW.size);obtain⟨r0,r1,r2,r3,r4,r5⟩:=bO.o W hW;exact⟨q1,q2,(q2.cell 0 hz bX.o.2).trans r0,(q2.cell 1 hz bX.o.2).trans r1,(q2.cell 2 hz bX.o.2).trans r2,(q2.cell 1 (by omega) bX.o.1).trans r3,(q2.cell 2 (by omega) bX.o.1).trans r4,(q2.cell na hzg yA.o.2).trans r5⟩);generalize ofV xm Gn=v1 at*;generalize ofV xm lost=v2 at*;clear kA;have bP:aa w9.heap.size w9 w9.drew:=(aX _ _).drew;have hdd:=bO.o _ bP;go_region_held3 (λW=>W.cell? ⟨bx+1,0,aB⟩=aC (aG aF xm)/\W.cell? ⟨bx+1,1,aB⟩=aC (aG aF (na:Int))/\W.cell? ⟨bx+1,2,aB⟩=aC (aG aF (-xn))/\W.cell? ⟨bx,1,aB⟩=aC (aG aF xm)/\W.cell? ⟨bx,2,aB⟩=aC (aG aF (na:Int))/\W.cell? ⟨gb,na,aB⟩=aC (aH Ag gl cg)) (first|(with_reducible assumption)) (first|(go_at_call 75;with_reducible refine tY (cE.o _ (by with_reducible assumption)) ?_;rintro e wa ⟨rfl,nA⟩;have yX:aa w9.heap.size w9 wa:=jt (by with_reducible assumption) (nA.mono (gT (by with_reducible assumption)));have qp:=bO.o _ yX)|(go_at_call 75;with_reducible refine tY (dD.o _ (by with_reducible assumption)) ?_;rintro e wb ⟨rfl,iy⟩;have rY:aa w9.heap.size w9 wb:=jt (by with_reducible assumption) (iy.mono (gT (by with_reducible assumption)));have hcb:=bO.o _ rY)|(go_at_call 74;refine(rH.o _ (by with_reducible assumption)).mono ?_;rintro e wc ⟨rfl,Da,zy⟩))
     all_goals
      have CX:Hid (aq db pk (FQ GS lost E1 ⟨xc,xm,(na:Int),xn,xd,xs⟩) wr wc):=η (by rw [HM1.o];exact aq.trans (bC.bZ _ (oW.o.trans (Below.mono (by with_reducible assumption) oW.o.size))) (λ_ h=> .inl h) ⟨rfl,rfl,rfl,rfl⟩ Da);obtain⟨pc,Mv,Qm⟩:=HQ.o.then CX.o;have Te:Hid (cu db p pc (sA GS lost P2 (L.take (j+1))) w wc):=η (by rw [HL.o];exact Mv);have TH:Hid (∃cs,mj w db pc gb cs GS (aH Al (aA (iV E k)) cl) (iV E k) wc):=η ⟨_,HI.o.step Qm⟩;have HLC:=η (OL.o.step Qm);have Ai:=η (O4.o.step Qm);clear Da zy nA yX qp iy rY hcb bP hdd bO cE dD rH HQ HI OL O4 Mv Qm CX;go_wp2_with fail
      go_roundw
      case rel=>exact⟨j+1,pc,by omega,by go_num,Te,TH,HLC,Ai⟩
      case measure=>simp [ag];omega
    obtain rfl:j=aA L:=by omega
    rw [cT,<-zE.o] at HQ;clear uk OL O4 uo O3 OB zE;go_upto_region 27 with (go_at_call 76;refine(lJ.o _ pk HQ.o.at).mono ?_;rintro e wa ⟨rfl,ha⟩;obtain⟨pa,Qk,_⟩:=HQ.o.then ha;have lM:=η Qk;clear ha Qk)
    have c10:=lM.o.at.cells.c10;have aGI:=lM.o.at.lt;have GD:=η (aM3 pa.xc pa.xv (Ni E).bx pa.xb wa lM.o.at.bx);have Z4:Hid (jA (wa.setCell ⟨pa.xb,8,aB⟩ (aH aB 0 0)) pa.xb pa.xc (aH aB 0 0) []->aq db pa {Ni E with bx:= []} wa (wa.setCell ⟨pa.xb,8,aB⟩ (aH aB 0 0))):=η (λh=>lM.o.at.cleared h);go_upto_region 28 with (go_at_call 77;refine GD.o.mono ?_;rintro e wb ⟨rfl,rfl,bT⟩;obtain⟨pb,KH,_⟩:=lM.o.then (Z4.o bT);have CZ:=η KH;clear bT KH)
    clear GD Z4 c10 aGI;generalize (wa.setCell ⟨pa.xb,8,aB⟩ (aH aB 0 0))=wb at*;have f13:wb.frozen? ⟨db,13,aB⟩=aP:=by have hb:=CZ.o.at.blk;simp [iJ,hb]
    have c13:=CZ.o.at.cells.c13;have aMf:=CZ.o.at.lt;go_wp2_with fail
    go_ret;refine⟨rfl,pU E,Th.o, ?_⟩;rw [Fp.o];exact(CZ.o.trans (CZ.o.at.Ry 0)).p
section
def yU(x:Ev):Int:=if x.k=5\/x.k=10\/x.k=12 then x.n else if x.k=6\/x.k=13\/x.k=16\/x.k=19 then-x.n else 0
def mr:List Ev->Int->Int
 | [],_=>0
 |x::l,a=>(if x.a=a then yU x else 0)+mr l a
theorem DG(l r:List Ev)(a:Int):mr (l++r) a=mr l a+mr r a:=by
 induction l with
 |nil=>simp [mr]
 |cons x l ih=>grind [mr]
theorem DI(e:Ev)(a:Int):mr [e] a=if e.a=a then yU e else 0:=by simp [mr]
def MF(S:Nat)(x:Ev):Prop:=0<=x.a/\x.a<=(S:Int)/\(1<=x.n\/x.k=4\/x.k=8)
structure Lf(S:Nat)(log:List Ev):Prop where
 ev:∀x∈log,MF S x
 pre:∀k a,0<=mr (log.take k) a/\mr (log.take k) a<=5000000000000000000
theorem Lf.snoc {S:Nat} {log:List Ev} {e:Ev}(h:Lf S log)(he:MF S e)(hp:∀a,0<=mr (log++ [e]) a/\mr (log++ [e]) a<=5000000000000000000):Lf S (log++ [e]):=by
 refine⟨λx hx=> ?_,λk a=> ?_⟩
 ·rcases gJ.1 hx with hx|hx
  ·exact h.ev x hx
  grind
 by_cases hk:k<=aA log
 ·rw [a0J hk];exact h.pre k a
 grind [List.take_of_length_le]
theorem Gm {M A:Nat} {l:List Int} {k m a:Int}(h:plcA M A k m a=aB):balA M A l k m a=0:=by unfold balA;rw [h]
theorem Vu {h:List Hr} {k m a:Int}(hh:∀r∈h,r.s=8)(hk:k≠8):iL h k m a=0:=by
 suffices H:∀(h:List Hr) (n:Int),(∀r∈h,r.s=8)->h.foldl (λn r=>if r.s==k&&r.m==m&&r.a==a then fS (n+r.n) else n) n=n from H h 0 hh
 intro h;induction h with
 |nil=>intro n _;rfl
 |cons r h ih=>
  grind
structure Ov(M A:Nat)(C F:Int)(l:List Int):Prop where
 ok:nN M A l
 tD:∀m a,balA M A l 8 m a<=1099511627776
 zm:∀m a,balA M A l 9 m a<=F
 AK:∀a,balA M A l 3 0 a<=F
 cap:∀a,balA M A l 4 0 a<=F
 lo:∀m a,-C<=balA M A l 7 m a+balA M A l 8 m a-balA M A l 1 0 a
 hi:∀m a,balA M A l 7 m a+balA M A l 8 m a+balA M A l 1 0 a<=C
 es:∀a,balA M A l 2 0 a+balA M A l 1 0 a<=C
 big:C<=4611686018427387904+1125899906842624
 F0:F<=1099511627776
theorem nN.nn {M A:Nat} {l:List Int}(h:nN M A l) {k:Int}(hk:tH k=aP)(m a:Int):0<=balA M A l k m a:=by
 cases hp:plcA M A k m a with
 |none=>grind [Gm]
 |some n=>exact h.pos k m a n hp hk
theorem Ov.wide {M A:Nat} {C C' F:Int} {l:List Int}(h:Ov M A C F l)(hc:C<=C')(hb:C'<=4611686018427387904+1125899906842624):Ov M A C' F l:=
 ⟨h.ok,h.tD,h.zm,h.AK,h.cap,λm a=>by have:=h.lo m a;omega,λm a=>by have:=h.hi m a;omega,λa=>by have:=h.es a;omega,hb,h.F0⟩
theorem RQ {D:Dk} {fk fm tk tm a n:Int} {i j:Nat}(h:uZ D fk fm tk tm a n=0)(hlen:aA D.l=(aA D.x.ss+1)*(6+3*aA D.x.ms))(hf:plcA (aA D.x.ms) (aA D.x.ss+1) fk fm a=aC i)(ht:plcA (aA D.x.ms) (aA D.x.ss+1) tk tm a=aC j)(k m b:Int):
 balA (aA D.x.ms) (aA D.x.ss+1) (bj D fk fm tk tm a n) k m b=balA (aA D.x.ms) (aA D.x.ss+1) D.l k m b+((if k=fk/\m=fm/\b=a then-n else 0)+(if k=tk/\m=tm/\b=a then n else 0)):=by
 cases hp:plcA (aA D.x.ms) (aA D.x.ss+1) k m b with
 |some z=>
  rw [aI4 h hlen hp];grind
 |none=>
  grind [Gm]
structure GH(x:ak):Prop where
 ml:2<=aA x.ms/\aA x.ms<=16
 sl:1<=aA x.ss/\aA x.ss<=8
 cl:aA x.cy<=4
 mI:∀y∈x.ms,(0<=y.a/\y.a<=1099511627776)/\0<=y.b/\y.b<=1099511627776
 sI:∀y∈x.ss,(1<=y.a/\y.a<=1048576)/\y.a<=y.b/\y.b<=1048576
 li:0<=x.line/\x.line<=1099511627776
 ca:0<=x.bV/\x.bV<=1099511627776
 bd:1<=x.bQ/\x.bQ<=32
structure Lu(M:Nat)(L:List Int):Prop where
 up:L.Pairwise (· < ·)
 pP:∀m∈L,1<=m/\m<=(M:Int)
theorem SN:∀ {L:List Int} {k:Nat} {lo:Int},L.Pairwise (· < ·)->(∀m∈L,lo<m/\m<=lo+(k:Int))->aA L<=k
 | [],k,_,_,_=>bL _
 |x::L,k,lo,h,hi=>by have hx:=hi x (by simp);rw [kX] at h;have:=SN (L:=L) (k:=k-1) (lo:=x) h.2 (λm hm=>⟨h.1 m hm,by grind⟩);grind
theorem Lu.len {M:Nat} {L:List Int}(h:Lu M L):aA L<=M:=SN (lo:=0) h.up (λm hm=>by have:=h.pP m hm;omega)
def dT(f:Ob->Int)(L:List Ob):Int:=(L.map f).sum
def qI(a:Int)(x:Ob):Int:=if x.st=1/\x.az<0/\x.a=a then-x.az else 0
def vJ(a:Int)(x:Ob):Int:=if x.st=1/\0<x.az/\x.a=a then x.az else 0
def oF(a:Int)(x:Ob):Int:=if x.st=1/\0<x.az/\x.a=a then x.done else 0
def oD(m a:Int)(x:Ob):Int:=if x.st=1/\0<x.az/\x.m=m/\x.a=a then x.done else 0
structure Lj(M S:Nat)(ai:Int)(who:List Int)(x:Ob):Prop where
 m:1<=x.m/\x.m<=(M:Int)
 a:0<=x.a/\x.a<=(S:Int)
 big: -kR x.a<=x.az/\x.az<=kR x.a
 c:x.c<=ai
 st:1<=x.st/\x.st<=5
 Y3:x.st=2->x.done=x.size
 o:x.st=3->hasB who x.m=aO/\(x.az<0->x.done=0)/\(0<x.az->x.done<x.az)
 cmp:(x.st=4\/x.st=5)->x.az<0/\x.done< -x.az/\(x.st=4->x.a≠0)
def aIr(x y:Ob):Prop:=eZ x=aO->eZ y=aO->x.m<y.m\/(x.m=y.m/\x.a<y.a)
structure kY(M S:Nat)(ai:Int)(who:List Int)(L:List Ob):Prop where
 each:∀x∈L,Lj M S ai who x
 ok:∀x∈L,x.ok
 ord:L.Pairwise aIr
 cl:∀a,dT (qI a) L<=kR a
 db:∀a,dT (vJ a) L<=kR a
 len:(aA L:Int)<=120*ai
theorem kY.fine {M S:Nat} {ai:Int} {who:List Int} {L:List Ob}(h:kY M S ai who L)(hc:ai<=4):sM L:=by refine⟨h.ok,λj k hj hk hjk h1 h2=> ?_,by have:=h.len;omega⟩;have:=(vB.1 h.ord) j k hj hk hjk h1 h2;omega
def Yi(x:ak)(d:Bd):Prop:=(1<=d.m/\d.m<=(aA x.ms:Int))/\(1<=d.c/\d.c<=(aA x.ss:Int))/\(1<=d.q/\d.q<=274877906944)/\(1<=d.p/\d.p<=1048576)/\aL d.s
structure aw(C:Int)(g:Nat)(D:Dk):Prop where
 hs:GH D.x
 bE:Ov (aA D.x.ms) (aA D.x.ss+1) C (if D.en=aO then 1099511627776 else 0) D.l
 h8:∀r∈D.h,r.s=8
 hl:aA D.h<=16
 fl:∀a,mr D.log a=balA (aA D.x.ms) (aA D.x.ss+1) D.l 1 0 a
 lg:Lf (aA D.x.ss) D.log
 gl:aA D.log<=g
 who:Lu (aA D.x.ms) D.who
 ob:kY (aA D.x.ms) (aA D.x.ss) D.ai D.who D.ob
 bx:∀d∈D.bx,Yi D.x d
 bl:aA D.bx<=32
 st:0<=D.st/\D.st<=2
 ai:0<=D.ai/\D.ai<=4
theorem aw.ok {C:Int} {g:Nat} {D:Dk}(H:aw C g D)(hg:g<=90000):fX D:=
 ⟨H.bE.ok.I,by have:=H.hl;omega,by have:=H.who.len;have:=H.hs.ml;omega,by have:=H.gl;omega,H.ob.fine H.ai.2,by have:=H.bl;omega,by have:=H.st;unfold aL;omega⟩
theorem aw.wide {C C':Int} {g g':Nat} {D:Dk}(H:aw C g D)(hc:C<=C')(hb:C'<=4611686018427387904+1125899906842624)(hg:g<=g'):aw C' g' D:=
 ⟨H.hs,H.bE.wide hc hb,H.h8,H.hl,H.fl,H.lg,by have:=H.gl;omega,H.who,H.ob,H.bx,H.bl,H.st,H.ai⟩
section
variable {C:Int} {g:Nat} {D:Dk}
theorem aw.house(H:aw C g D)(a:Int):0<=(balA (aA D.x.ms) (aA D.x.ss+1) D.l) 1 0 a/\(balA (aA D.x.ms) (aA D.x.ss+1) D.l) 1 0 a<=C:=by refine⟨H.bE.ok.nn rfl 0 a, ?_⟩;have h1:=H.bE.lo 0 a;have h2:=H.bE.hi 0 a;omega
theorem aw.own(H:aw C g D)(m a:Int): -C-1099511627776<=(balA (aA D.x.ms) (aA D.x.ss+1) D.l) 7 m a/\(balA (aA D.x.ms) (aA D.x.ss+1) D.l) 7 m a+(balA (aA D.x.ms) (aA D.x.ss+1) D.l) 1 0 a<=C:=by have h1:=H.bE.lo m a;have h2:=H.bE.hi m a;have h3:=H.bE.ok.nn (k:=8) rfl m a;have h4:=H.bE.tD m a;have h5:=H.bE.ok.nn (k:=1) rfl 0 a;omega
theorem Na {M A:Nat} {a:Int}(h:0<=a)(h':a<(A:Int)):∃n,plcA M A 1 0 a=aC n:=by unfold plcA jn;simp [h,h']
theorem aJT {M A:Nat} {a:Int}(h:0<=a)(h':a<(A:Int)):∃n,plcA M A 2 0 a=aC n:=by unfold plcA jn;simp [h,h']
theorem aJU {M A:Nat} {a:Int}(h:0<=a)(h':a<(A:Int)):∃n,plcA M A 3 0 a=aC n:=by unfold plcA jn;simp [h,h']
theorem aJS {M A:Nat} {a:Int}(h:0<=a)(h':a<(A:Int)):∃n,plcA M A 4 0 a=aC n:=by unfold plcA jn;simp [h,h']
theorem Br {M A:Nat} {k m a:Int}(hk:k=7\/k=8\/k=9)(hm:1<=m/\m<=(M:Int))(h:0<=a)(h':a<(A:Int)):∃n,plcA M A k m a=aC n:=by unfold plcA jn;rcases hk with rfl|rfl|rfl<;>simp [h,h',hm.1,hm.2]
theorem aw.goes(H:aw C g D) {tk tm a n:Int} {e:Ev}(ht:(tk=7/\1<=tm/\tm<=(aA D.x.ms:Int))\/(tk=2/\tm=0))(ha:0<=a/\a<=(aA D.x.ss:Int))(h1:1<=n)(h2:n<=(balA (aA D.x.ms) (aA D.x.ss+1) D.l) 1 0 a)(he:e.a=a/\e.n=n/\yU e= -n):
 uZ D 1 0 tk tm a n=0/\aw C (g+1) {D with l:=bj D 1 0 tk tm a n,log:=D.log++ [e]}/\∀k m b,balA (aA D.x.ms) (aA D.x.ss+1) (bj D 1 0 tk tm a n) k m b=(balA (aA D.x.ms) (aA D.x.ss+1) D.l) k m b+((if k=1/\m=0/\b=a then-n else 0)+(if k=tk/\m=tm/\b=a then n else 0)):=by
 obtain⟨i,hi⟩:=Na (M:=aA D.x.ms) (A:=aA D.x.ss+1) ha.1 (by omega);have hj:∃j,plcA (aA D.x.ms) (aA D.x.ss+1) tk tm a=aC j:=by
  rcases ht with⟨rfl,h⟩|⟨rfl,rfl⟩
  ·exact Br (.inl rfl) h ha.1 (by omega)
  exact aJT ha.1 (by omega)
 obtain⟨j,hj⟩:=hj;have hb:=H.bE.big;have hle:=H.bE.es a;have hes:=H.bE.ok.nn (k:=2) rfl 0 a;have hr2:aL ((balA (aA D.x.ms) (aA D.x.ss+1) D.l) tk tm a+n):=by
  rcases ht with⟨rfl,_⟩|⟨rfl,rfl⟩
  ·have:=H.own tm a;unfold aL;omega
  unfold aL;omega
 have QQ:=NM hi hj (by omega) (by omega) (by unfold aL;omega) (.inr ⟨h2,by rw [Vu H.h8 (by decide)];omega⟩) (by unfold aL;omega) hr2 H.bE.ok.len;have hd:=RQ QQ H.bE.ok.len hi hj;have dR:nN (aA D.x.ms) (aA D.x.ss+1) (bj D 1 0 tk tm a n):=nN.mv H.bE.ok H.hs.sl.2;refine⟨QQ,⟨H.hs,⟨dR, ?_, ?_, ?_, ?_, ?_, ?_, ?_,H.bE.big,H.bE.F0⟩,H.h8,H.hl, ?_, ?_, ?_,H.who,H.ob,H.bx,H.bl,H.st,H.ai⟩,hd⟩
 ·intro m b;show balA (aA D.x.ms) (aA D.x.ss+1) (bj D 1 0 tk tm a n) 8 m b<=_;rw [hd];have:=H.bE.tD m b;split<;>split<;>omega
 ·intro m b;show balA (aA D.x.ms) (aA D.x.ss+1) (bj D 1 0 tk tm a n) 9 m b<=_;rw [hd,ifN (by omega),ifN (by omega)];have:=H.bE.zm m b;simpa using this
 ·intro b;show balA (aA D.x.ms) (aA D.x.ss+1) (bj D 1 0 tk tm a n) 3 0 b<=_;rw [hd,ifN (by omega),ifN (by omega)];have:=H.bE.AK b;simpa using this
 ·intro b;show balA (aA D.x.ms) (aA D.x.ss+1) (bj D 1 0 tk tm a n) 4 0 b<=_;rw [hd,ifN (by omega),ifN (by omega)];have:=H.bE.cap b;simpa using this
 ·intro m b;show _<=balA (aA D.x.ms) (aA D.x.ss+1) (bj D 1 0 tk tm a n) 7 m b+balA (aA D.x.ms) (aA D.x.ss+1) (bj D 1 0 tk tm a n) 8 m b-balA (aA D.x.ms) (aA D.x.ss+1) (bj D 1 0 tk tm a n) 1 0 b;rw [hd 7,hd 8,hd 1];have:=H.bE.lo m b;repeat' split
  all_goals omega
 ·intro m b;show balA (aA D.x.ms) (aA D.x.ss+1) (bj D 1 0 tk tm a n) 7 m b+balA (aA D.x.ms) (aA D.x.ss+1) (bj D 1 0 tk tm a n) 8 m b+balA (aA D.x.ms) (aA D.x.ss+1) (bj D 1 0 tk tm a n) 1 0 b<=_;rw [hd 7,hd 8,hd 1];have:=H.bE.hi m b;repeat' split
  all_goals omega
 ·intro b;show balA (aA D.x.ms) (aA D.x.ss+1) (bj D 1 0 tk tm a n) 2 0 b+balA (aA D.x.ms) (aA D.x.ss+1) (bj D 1 0 tk tm a n) 1 0 b<=_;rw [hd 2,hd 1];have:=H.bE.es b;repeat' split
  all_goals omega
 ·intro b;show mr (D.log++ [e]) b=balA (aA D.x.ms) (aA D.x.ss+1) (bj D 1 0 tk tm a n) 1 0 b;rw [DG,DI,H.fl b,hd,he.1,he.2.2];repeat' split
  all_goals omega
 ·refine H.lg.snoc ⟨by rw [he.1];exact ha.1,by rw [he.1];exact ha.2,.inl (by rw [he.2.1];exact h1)⟩ (λb=> ?_);have h9:mr (D.log++ [e]) b=balA (aA D.x.ms) (aA D.x.ss+1) (bj D 1 0 tk tm a n) 1 0 b:=by
   rw [DG,DI,H.fl b,hd,he.1,he.2.2];repeat' split
   all_goals omega
  rw [h9];refine⟨dR.nn rfl 0 b, ?_⟩;rw [hd];have:=H.house b;repeat' split
  all_goals omega
 show aA (D.log++ [e])<=g+1;rw [cN];have:=H.gl;simp;omega
end
end
def a2q(l:List Dw)(k m:Int):Int:=l.foldl (λs x=>if x.k=k/\x.m=m then fS (s+x.n) else s) 0
def ja(p:cB)(k m:Int):Int:=
 if 1<=m/\m<=aA p.co/\k=8 then cU p.co m else if 1<=m/\m<=aA p.co/\k=9 then cU p.fu m else if m=0/\k=3 then p.line else if m=0/\k=4 then p.cap else-1
def oP(os:List Int)(k m:Int):Int:=if k=8 then m else if k=9 then (if os.contains m then fS (100+m) else 200) else if k=3 then 300 else 400
structure vE(y:List Dw):Prop where
 pos:∀x∈y,0<=x.n/\x.n<=1099511627776
 len:aA y<=1000
theorem a2s:∀y:List Dw,sumI (fg y)=(y.map (·.n)).sum
 | []=>rfl
 |x::y=>by show x.n+sumI (fg y)=_;rw [a2s y];simp
theorem VE:∀ {y:List Dw},(∀x∈y,0<=x.n/\x.n<=1099511627776)->0<=sumI (fg y)/\sumI (fg y)<=1099511627776*(aA y:Int)
 | [],_=>by simp [fg,sumI]
 |x::y,h=>by
  have h1:=VE (y:=y) λz hz=>h z (by simp [hz])
  grind [sumI,fg]
theorem a2H {y:List Dw} {nd:Int}(h:vE y)(hn:0<=nd):iK nd (fg y)=0:=by
 have hb:=VE h.pos;have hl:=h.len;have hlen:aA (fg y)=aA y:=by simp [fg]
 unfold iK;rw [ifN (by omega),ifN,(eA (by unfold aL;omega)).2];rintro (h1|h1)
 ·omega
 unfold xZ at h1;obtain⟨x,hx,mV⟩:=jv.1 h1;obtain⟨z,hz,rfl⟩:=dW.1 hx;have:=(h.pos z hz).1;simp at mV;omega
theorem MB(x:Dw)(y:List Dw)(n:Int)(zs:List Int):iv (x::y) (n::zs)=(if 0<n then [⟨x.k,x.m,n⟩] else [])++iv y zs:=by grind [iv,EW]
theorem a2v:∀ {y:List Dw} {zs:List Int} {z:Dw},z∈iv y zs->0<z.n/\∃x∈y,z.k=x.k/\z.m=x.m
 | [],_,z,h=>by simp [iv] at h
 |_::_,[],z,h=>by simp [iv] at h
 |x::y,n::zs,z,h=>by
  rw [MB] at h;rcases gJ.1 h with h|h
  ·grind
  obtain⟨h1,u,hu,e⟩:=a2v h;grind
theorem a2y:∀ {y:List Dw} {zs:List Int},aA zs=aA y->(∀z∈zs,0<=z)->cX (iv y zs)=sumI zs
 | [],[],_,_=>rfl
 | [],_::_,h,_=>by simp at h
 |_::_,[],h,_=>by simp at h
 |x::y,n::zs,h,hz=>by
  have hr:=a2y (y:=y) (zs:=zs) (by simpa using h) λz hz'=>hz z (by simp [hz'])
  have hn:=hz n (by simp);grind [MB,sumI,cX]
theorem a2w:∀y:List Dw,iv y (fg y)=y.filter λx=>decide (0<x.n)
 | []=>rfl
 |x::y=>by show iv (x::y) (x.n::fg y)=_;rw [MB,a2w y,List.filter_cons];by_cases h:0<x.n<;>simp [h]
structure a8k(y:List Dw)(nd:Int):Prop where
 mem:∀z∈my y nd,0<z.n/\∃x∈y,z.k=x.k/\z.m=x.m
 Bx:cX (my y nd)=min nd (sumI (fg y))
 full:sumI (fg y)<=nd->my y nd=y.filter λx=>decide (0<x.n)
 Fc:0<=sumI (fg y)
theorem Ej {y:List Dw} {nd:Int}(h:vE y)(hn:0<=nd):a8k y nd:=by
 have hc:=a2H h hn;have G:=Ek hc;refine⟨λz hz=>a2v hz, ?_,λhs=> ?_,(VE h.pos).1⟩
 ·unfold my;rw [a2y (by rw [G.len];simp [fg]) λz hz=> ?_,G.sum];obtain⟨i,hi,rfl⟩:=List.getElem_of_mem hz;exact(G.bd i hi (by rw [<-G.len];exact hi)).1
 grind [my,dK,a2w]
def gl:Int->List (List Dw)->List Dw
 |_,[]=> []
 |nd,y::ys=>my y nd++gl (nd-min nd (sumI (fg y))) ys
theorem YR(a b:List Dw):cX (a++b)=cX a+cX b:=by grind [cX]
theorem Q4:∀(ys:List (List Dw)) (nd:Int) (L:List Dw),(∀y∈ys,vE y)->0<=nd->aL nd->(ys.foldl yl (nd,L)).2=L++gl nd ys
 | [],nd,L,_,_,_=>by simp [gl]
 |y::ys,nd,L,h,hn,hI=>by
  have F:=Ej (h y (by simp)) hn;have hs:=F.Fc;have ht:sJ (my y nd)=min nd (sumI (fg y)):=by unfold aL at hI;rw [SM (by rw [F.Bx];omega),F.Bx]
  have hw:aF.wrap (nd-min nd (sumI (fg y)))=nd-min nd (sumI (fg y)):=sR _ (by grind [aL]);rw [Ck];have e:yl (nd,L) y=(nd-min nd (sumI (fg y)),L++my y nd):=by grind [yl]
  rw [e,Q4 ys _ _ (λz hz=>h z (by simp [hz])) (by omega) (by grind [aL])];simp [gl]
theorem a3f:∀ {ys:List (List Dw)},(∀y∈ys,vE y)->gl 0 ys= []
 | [],_=>rfl
 |y::ys,h=>by
  have F:=Ej (nd:=0) (h y (by simp)) (dJ _);have hs:=F.Fc;have e:my y 0= []:=by
   cases hg:my y 0 with
   |nil=>rfl
   |cons z l=>
    have h1:=(F.mem z (by rw [hg];simp)).1;have h2:=F.Bx;rw [hg] at h2;have h3:cX (z::l)=max z.n 0+cX l:=by simp [cX]
    have h4:=Ip l;omega
  unfold gl;rw [e,show (0:Int)-min 0 (sumI (fg y))=0 by omega,a3f λz hz=>h z (by simp [hz])];rfl
theorem Q3:∀ {ys:List (List Dw)} {nd:Int},(∀y∈ys,vE y)->0<=nd->∀z∈gl nd ys,0<z.n/\∃y∈ys,∃x∈y,z.k=x.k/\z.m=x.m
 | [],_,_,_,z,hz=>by simp [gl] at hz
 |y::ys,nd,h,hn,z,hz=>by
  have F:=Ej (h y (by simp)) hn;have hs:=F.Fc;unfold gl at hz;rcases gJ.1 hz with hz|hz
  ·obtain⟨h1,x,hx,e⟩:=F.mem z hz;grind
  obtain⟨h1,y',hy,x,hx,e⟩:=Q3 (λz hz=>h z (by simp [hz])) (by omega) z hz;grind
theorem a3c:∀ {ys:List (List Dw)} {nd:Int},(∀y∈ys,vE y)->0<=nd->cX (gl nd ys)<=nd
 | [],nd,_,hn=>by grind [gl,cX]
 |y::ys,nd,h,hn=>by have F:=Ej (h y (by simp)) hn;have hs:=F.Fc;have:=a3c (ys:=ys) (nd:=nd-min nd (sumI (fg y))) (λz hz=>h z (by simp [hz])) (by omega);unfold gl;rw [YR,F.Bx];omega
structure GZ(f:Int->Int->Int)(ys:List (List Dw)):Prop where
 up:ys.Pairwise λy y'=>∀x∈y,∀x'∈y',f x.k x.m<f x'.k x'.m
 eq:∀y∈ys,∀x∈y,∀x'∈y,f x.k x.m=f x'.k x'.m
 uniq:∀y∈ys,y.Pairwise λx x'=>¬(x.k=x'.k/\x.m=x'.m)
theorem GZ.tail {f:Int->Int->Int} {y:List Dw} {ys:List (List Dw)}(h:GZ f (y::ys)):GZ f ys:=
 ⟨(kX.1 h.up).2,λy' hy=>h.eq y' (by simp [hy]),λy' hy=>h.uniq y' (by simp [hy])⟩
theorem a3e {f:Int->Int->Int}:∀ {ys:List (List Dw)} {nd:Int},(∀y∈ys,vE y)->GZ f ys->0<=nd->(gl nd ys).Pairwise λz z'=>f z.k z.m<=f z'.k z'.m
 | [],_,_,_,_=>by simp [gl]
 |y::ys,nd,h,hr,hn=>by
  have F:=Ej (h y (by simp)) hn;have hs:=F.Fc;have dR:∀z∈ys,vE z:=λz hz=>h z (by simp [hz])
  unfold gl;rw [Le];refine⟨?_,a3e dR hr.tail (by omega),λz hz z' hz'=> ?_⟩
  ·rw [List.pairwise_iff_forall_sublist];intro a b hab;have ha:=hab.subset (by simp:a∈ [a,b]);have hb:=hab.subset (by simp:b∈ [a,b]);obtain⟨_,x,hx,e1,e2⟩:=F.mem a ha;obtain⟨_,x',mV,e3,e4⟩:=F.mem b hb;rw [e1,e2,e3,e4];exact rO (hr.eq y (by simp) x hx x' mV)
  obtain⟨_,x,hx,e1,e2⟩:=F.mem z hz;obtain⟨_,y',hy',x',mV,e3,e4⟩:=Q3 dR (by omega) z' hz';have:=(kX.1 hr.up).1 y' hy' x hx x' mV;grind
def xJ(l:List Dw)(k m:Int):Int:=(l.map λx=>if x.k=k/\x.m=m then x.n else 0).sum
theorem aF5(a b:List Dw)(k m:Int):xJ (a++b) k m=xJ a k m+xJ b k m:=by grind [xJ]
theorem Pp(x:Dw)(l:List Dw)(k m:Int):xJ (x::l) k m=(if x.k=k/\x.m=m then x.n else 0)+xJ l k m:=by simp [xJ]
theorem Pq:∀ {l:List Dw} {k m:Int},(∀z∈l,¬(z.k=k/\z.m=m))->xJ l k m=0
 | [],_,_,_=>rfl
 |x::l,k,m,h=>by rw [Pp,ifN (h x (by simp)),Pq λz hz=>h z (by simp [hz])];rfl
theorem VC:∀ {l:List Dw} {k m s:Int},(∀z∈l,0<=z.n)->0<=s->s+cX l<=9223372036854775807->l.foldl (λs x=>if x.k=k/\x.m=m then fS (s+x.n) else s) s=s+xJ l k m
 | [],k,m,s,_,_,_=>by simp [xJ]
 |x::l,k,m,s,h,h0,hb=>by
  have hx:=h x (by simp);have ht:cX (x::l)=max x.n 0+cX l:=by simp [cX]
  have hl:=Ip l;rw [Ck,Pp];by_cases hc:x.k=k/\x.m=m
  ·rw [ifP hc,ifP hc,show fS (s+x.n)=s+x.n from by unfold fS;omega,VC (λz hz=>h z (by simp [hz])) (by omega) (by omega)];omega
  rw [ifN hc,ifN hc,VC (λz hz=>h z (by simp [hz])) h0 (by omega)];omega
theorem a2p:∀ {y:List Dw} {x:Dw},(∀z∈y,0<=z.n)->(y.Pairwise λx x'=>¬(x.k=x'.k/\x.m=x'.m))->x∈y->xJ (y.filter λx=>decide (0<x.n)) x.k x.m=x.n
 | [],_,_,_,h=>by simp at h
 |u::y,x,h0,hp,hx=>by
  obtain⟨h1,h2⟩:=kX.1 hp;have hu:=h0 u (by simp);rcases fC.1 hx with rfl|hx
  ·have hno:xJ (y.filter λz=>decide (0<z.n)) x.k x.m=0:=Pq λz hz e=>h1 z (jD.1 hz).1 ⟨e.1.symm,e.2.symm⟩
   grind [Pp]
  have hr:=a2p (λz hz=>h0 z (by simp [hz])) h2 hx;grind [Pp]
theorem a3a {f:Int->Int->Int}:∀ {ys:List (List Dw)} {nd:Int},(∀y∈ys,vE y)->GZ f ys->0<=nd->∀z∈gl nd ys,∀y∈ys,∀x∈y,f x.k x.m<f z.k z.m->xJ (gl nd ys) x.k x.m=x.n
 | [],_,_,_,_,z,hz,_,_,_,_,_=>by simp [gl] at hz
 |y0::ys,nd,h,hr,hn,z,hz,y,hy,x,hx,hlt=>by
  have F:=Ej (h y0 (by simp)) hn;have hs:=F.Fc;have dR:∀z∈ys,vE z:=λz hz=>h z (by simp [hz])
  have vh:=(kX.1 hr.up).1;unfold gl at hz ⊢;rw [aF5];rcases gJ.1 hz with hz|hz
  ·obtain⟨_,u,hu,e1,e2⟩:=F.mem z hz;rw [e1,e2] at hlt;rcases fC.1 hy with rfl|hy
   ·have:=hr.eq y (by simp) x hx u hu;omega
   grind
  have Qg:sumI (fg y0)<=nd:=by grind [a3f]
  have vZ:0<=nd-min nd (sumI (fg y0)):=by omega
  rcases fC.1 hy with rfl|hy
  ·rw [F.full Qg,a2p (λz hz=>((h y (by simp)).pos z hz).1) (hr.uniq y (by simp)) hx,Pq]
   ·omega
   intro z' hz' e;obtain⟨_,y',hy',x',mV,e3,e4⟩:=Q3 dR vZ z' hz';grind
  rw [a3a dR hr.tail vZ z hz y hy x hx hlt,Pq]
  ·omega
  intro z' hz' e;obtain⟨_,u,hu,e3,e4⟩:=F.mem z' hz';grind
theorem XV {p:cB} {os:List Int}(h:gF p os=0):os.Pairwise (· < ·):=by
 have h0:j8 p=0:=by grind [gF]
 have step:∀k (hk:k+1<aA os),os[k]<os[k+1]:=λk hk=>by grind [tQ,XL]
 have all:∀k (hk:k<aA os) i (hi:i<aA os),i<k->os[i]<os[k]:=by
  intro k;induction k with
  |zero=>intro _ i _ h;omega
  |succ k ih=>
   grind
 grind [vB]
theorem Rl(os:List Int)(m:Int):oP os 8 m=m:=by grind [oP]
theorem Rm {os:List Int} {m:Int}(h:m∈os)(h1:1<=m)(h2:m<=1000):oP os 9 m=100+m:=by unfold oP;rw [ifN (by decide),ifP rfl,ifP (U6.2 h)];unfold fS;omega
theorem a6j {os:List Int} {m:Int}(h:os.contains m=aP):oP os 9 m=200:=by grind [oP]
theorem Xq(os:List Int):oP os 3 0=300:=by grind [oP]
theorem Xr(os:List Int):oP os 4 0=400:=by grind [oP]
theorem NT {fu os:List Int}:∀ {k:Nat} {x:Dw},x∈kE fu os k->∃i:Nat,i<k/\os.contains ((i:Int)+1)=aP/\x=⟨9,(i:Int)+1,fu.getD i 0⟩:=by grind [kE]
theorem aIx {fu os:List Int} {k i:Nat}(hi:i<k)(hc:os.contains ((i:Int)+1)=aP):(⟨9,(i:Int)+1,fu.getD i 0⟩:Dw)∈kE fu os k:=by grind [kE]
theorem a6J(fu os:List Int):∀k,(kE fu os k).Pairwise λx x'=>¬(x.k=x'.k/\x.m=x'.m)
 |0=>by simp [kE]
 |k+1=>by
  have ih:=a6J fu os k;have e:kE fu os (k+1)=kE fu os k++(if os.contains ((k:Int)+1) then [] else [⟨9,(k:Int)+1,fu.getD k 0⟩]):=by grind [kE,List.range_succ]
  grind [NT]
theorem Nl {p:cB} {os:List Int} {y:List Dw}(h:y∈fR p os):(∃m∈os,y= [⟨8,m,cU p.co m⟩])\/(∃m∈os,y= [⟨9,m,cU p.fu m⟩])\/y=vx p.fu os\/y= [⟨3,0,p.line⟩]\/y= [⟨4,0,p.cap⟩]:=by grind [fR]
theorem EZ {l:List Int} {m:Int}(h1:1<=m)(h2:m<=aA l):cU l m∈l:=by obtain⟨s,hs,rfl⟩:∃s:Nat,s<aA l/\m=(s:Int)+1:=⟨(m-1).toNat,by omega,by omega⟩;grind [Jj]
theorem YA {p:cB} {os:List Int}(F:GN p os):∀y∈fR p os,vE y:=by
 have hc:∀x∈p.co,0<=x/\x<=1099511627776:=λx hx=>F.all x (by simp [gN,hx])
 have hf:∀x∈p.fu,0<=x/\x<=1099511627776:=λx hx=>F.all x (by simp [gN,hx])
 have hlen:=F.len;have ki:=F.big;intro y hy;rcases Nl hy with⟨m,hm,rfl⟩|⟨m,hm,rfl⟩|rfl|rfl|rfl
 ·have:=F.os1 m hm;exact⟨λx hx=>by grind [EZ],by simp⟩
 ·have:=F.os1 m hm;exact⟨λx hx=>by grind [EZ],by simp⟩
 ·refine⟨λx hx=> ?_,by grind [Kc,vx]⟩;obtain⟨i,hi,_,rfl⟩:=NT hx;grind [cK]
 ·exact⟨λx hx=>by simp at hx;subst hx;exact F.all _ (by simp [gN]),by simp⟩
 exact⟨λx hx=>by simp at hx;subst hx;exact F.all _ (by simp [gN]),by simp⟩
theorem a7c {p:cB} {os:List Int}(h:gF p os=0):GZ (oP os) (fR p os):=by
 have F:=AO h;have hu:=XV h;have hb:=F.big;have h1:∀m∈os,1<=m/\m<=16:=λm hm=>by have:=F.os1 m hm;omega
 have aMs:∀x∈vx p.fu os,oP os x.k x.m=200:=λx hx=>by obtain⟨i,_,hc,rfl⟩:=NT hx;exact a6j hc
 refine⟨?_,λy hy x hx x' mV=> ?_,λy hy=> ?_⟩
 ·unfold fR;rw [Le,Le,BG,BG];refine⟨⟨hu.imp_of_mem λ{a b} ha hb' hab x hx x' mV=> ?_,hu.imp_of_mem λ{a b} ha hb' hab x hx x' mV=> ?_,λy hy y' hy' x hx x' mV=> ?_⟩, ?_,λy hy y' hy' x hx x' mV=> ?_⟩
  ·grind [Rl]
  ·grind [Rm]
  ·grind [Rl,Rm]
  ·grind [kX,Xq,Xr]
  grind [Rl,Rm,Xq,Xr]
 ·grind [Nl]
 rcases Nl hy with⟨m,hm,rfl⟩|⟨m,hm,rfl⟩|rfl|rfl|rfl
 ·simp
 ·simp
 ·exact a6J _ _ _
 ·simp
 simp
def Ug(os:List Int)(k:Nat):List (Int×Int):=(dQ k).flatMap λ(i:Nat)=>(if os.contains ((i:Int)+1) then [(8,(i:Int)+1)] else [])++ [(9,(i:Int)+1)]
def PO(os:List Int)(n:Nat):List (Int×Int):=Ug os n++ [(3,0),(4,0)]
theorem aCO {os:List Int} {n:Nat} {a:Int×Int}(h:a∈Ug os n):∃i:Nat,i<n/\((os.contains ((i:Int)+1)=aO/\a=(8,(i:Int)+1))\/a=(9,(i:Int)+1)):=by grind [Ug]
theorem SK {p:cB} {m:Int}(h1:1<=m)(h2:m<=aA p.co):ja p 8 m=cU p.co m:=by grind [ja]
theorem Kj {p:cB} {m:Int}(h1:1<=m)(h2:m<=aA p.co):ja p 9 m=cU p.fu m:=by grind [ja]
theorem SH(p:cB):ja p 3 0=p.line:=by grind [ja]
theorem SI(p:cB):ja p 4 0=p.cap:=by grind [ja]
theorem a1Y {p:cB} {os:List Int}(F:GN p os) {a:Int×Int}(h:a∈PO os (aA p.co)):∃y∈fR p os,∃x∈y,x.k=a.1/\x.m=a.2/\x.n=ja p a.1 a.2:=by
 have hlen:=F.len;unfold PO at h;rcases gJ.1 h with h|h
 ·obtain⟨i,hi,⟨hc,rfl⟩|rfl⟩:=aCO h
  ·have hm:=U6.1 hc;exact⟨[⟨8,(i:Int)+1,cU p.co ((i:Int)+1)⟩],by grind [fR],⟨8,(i:Int)+1,cU p.co ((i:Int)+1)⟩,by simp,rfl,rfl,(SK (by omega) (by omega)).symm⟩
  cases hc:os.contains ((i:Int)+1) with
  |true=>
   have hm:=U6.1 hc;exact⟨[⟨9,(i:Int)+1,cU p.fu ((i:Int)+1)⟩],by grind [fR],⟨9,(i:Int)+1,cU p.fu ((i:Int)+1)⟩,by simp,rfl,rfl,(Kj (by omega) (by omega)).symm⟩
  |false=>
   refine⟨vx p.fu os,by unfold fR;simp,⟨9,(i:Int)+1,p.fu.getD i 0⟩,aIx (by omega) hc,rfl,rfl, ?_⟩;grind [Kj,Jj]
 simp at h;rcases h with rfl|rfl
 ·exact⟨[⟨3,0,p.line⟩],by unfold fR;simp,⟨3,0,p.line⟩,by simp,rfl,rfl,(SH p).symm⟩
 exact⟨[⟨4,0,p.cap⟩],by unfold fR;simp,⟨4,0,p.cap⟩,by simp,rfl,rfl,(SI p).symm⟩
structure aAL(p:cB)(os:List Int)(l:List Dw):Prop where
 up:∀i j (hi:i<aA l) (hj:j<aA l),i<j->oP os l[i].k l[i].m<=oP os l[j].k l[j].m
 pos:∀z∈l,0<=oP os z.k z.m
 acc:∀a∈PO os (aA p.co),0<=oP os a.1 a.2
 full:∀z∈l,∀a∈PO os (aA p.co),oP os a.1 a.2<oP os z.k z.m->a2q l a.1 a.2=ja p a.1 a.2
 len:aA l<=1000
theorem a6k {p:cB} {os:List Int}(h:gF p os=0) {y:List Dw}(hy:y∈fR p os) {x:Dw}(hx:x∈y):0<=oP os x.k x.m:=by
 have F:=AO h;have hb:=F.big;have h1:∀m∈os,1<=m/\m<=16:=λm hm=>by have:=F.os1 m hm;omega
 rcases Nl hy with⟨m,hm,rfl⟩|⟨m,hm,rfl⟩|rfl|rfl|rfl
 ·grind [Rl]
 ·grind [Rm]
 ·obtain⟨i,_,hc,rfl⟩:=NT hx;rw [a6j hc];omega
 ·grind [Xq]
 grind [Xr]
theorem aIq {p:cB} {os:List Int} {need:Int}(h:sG p os need=0)(hI:aL need)(km:aA os<=100):aAL p os (oO p os need):=by
 have hm:gF p os=0:=by grind [sG]
 have hn:0<=need:=by grind [sG]
 have F:=AO hm;have dR:=YA F;have hr:=a7c hm;have hL:oO p os need=gl need (fR p os):=by grind [oO,tR,Q4]
 have hlen:aA (oO p os need)<=1000:=by unfold oO;rw [ifP h];have h1:=a6T (fR p os) (need,[]);have h2:=a7d p os;have h3:=F.len;have h4:=F.big;grind [tR]
 rw [hL] at hlen ⊢;have vh:=vB.1 (a3e (f:=oP os) dR hr hn);have WX:=Q3 (nd:=need) dR hn;refine⟨λi j hi hj rh=>vh i j hi hj rh,λz hz=> ?_,λa ha=> ?_,λz hz a ha hlt=> ?_,hlen⟩
 ·obtain⟨_,y,hy,x,hx,e1,e2⟩:=WX z hz;rw [e1,e2];exact a6k hm hy hx
 ·obtain⟨y,hy,x,hx,e1,e2,_⟩:=a1Y F ha;rw [<-e1,<-e2];exact a6k hm hy hx
 obtain⟨y,hy,x,hx,e1,e2,e3⟩:=a1Y F ha;rw [<-e1,<-e2] at hlt;have h1:=a3a (f:=oP os) dR hr hn z hz y hy x hx hlt;have h2:=VC (l:=gl need (fR p os)) (k:=a.1) (m:=a.2) (s:=0) (λz hz=>by grind) (dJ _) (by have:=a3c (ys:=fR p os) dR hn;unfold aL at hI;omega);grind [a2q]
def wB(p:cB)(os:List Int):Nat->Int
 |0=>p.line+p.cap
 |k+1=>wB p os k+cU p.fu ((k:Int)+1)+(if os.contains ((k:Int)+1) then cU p.co ((k:Int)+1) else 0)
theorem mem_co {p:cB} {k:Nat}(hk:k<aA p.co):p.co[k]∈gN p:=by grind [gN]
theorem aHu {p:cB} {k:Nat}(hk:k<aA p.fu):p.fu[k]∈gN p:=by grind [gN]
theorem Xy {p:cB} {os:List Int}(h:GN p os):∀k,k<=aA p.co->0<=wB p os k/\wB p os k<=(2+2*(k:Int))*1099511627776
 |0,_=>by have h1:=h.all p.line (by simp [gN]);have h2:=h.all p.cap (by simp [gN]);unfold wB;omega
 |k+1,hk=>by
  have ih:=Xy h k (by omega);have hf:k<aA p.fu:=by have:=h.len;omega
  have h1:=h.all _ (mem_co (show k<(aA p.co) by omega));have h2:=h.all _ (aHu hf);grind [wB,Jj]
def pT(f:Int->Int)(os:List Int):Nat->Int
 |0=>0
 |k+1=>pT f os k+(if os.contains ((k:Int)+1) then f ((k:Int)+1) else 0)
theorem a6P {f:Int->Int} {a b:List Int}:∀k:Nat,(∀i:Nat,i<k->a.contains ((i:Int)+1)=b.contains ((i:Int)+1))->pT f a k=pT f b k
 |0,_=>rfl
 |k+1,h=>by unfold pT;rw [a6P k (λi hi=>h i (by omega)),h k (by omega)]
theorem a6Q(f:Int->Int):∀k,pT f [] k=0
 |0=>rfl
 |k+1=>by unfold pT;rw [a6Q f k];rfl
theorem Kd(f:Int->Int):∀(n:Nat) (os:List Int),os.Pairwise (· < ·)->(∀m∈os,1<=m/\m<=(n:Int))->(os.map f).sum=pT f os n
 |0,os,_,h=>by
  cases os with
  |nil=>rfl
  |cons a l=>grind [pD]
 |n+1,os,hp,h=>by
  rcases Oy os with rfl|⟨zs,z,rfl⟩
  ·rw [a6Q];rfl
  rw [Ox] at*;have hz:=h z (by simp);obtain⟨p1,_,p3⟩:=Le.1 hp;have hlt:∀m∈zs,m<z:=λm hm=>p3 m hm z (by simp)
  by_cases De:z=(n:Int)+1
  ·have ih:=Kd f n zs p1 λm hm=>⟨(h m (by simp [hm])).1,by grind⟩
   have hc:pT f (zs++ [z]) n=pT f zs n:=a6P n λi hi=>by grind
   grind [pT]
  have ih:=Kd f n (zs++ [z]) hp λm hm=>⟨(h m hm).1,by grind⟩
  grind [pT]
theorem YM:∀ys:List (List Dw),0<=(ys.map cX).sum
 | []=>dJ 0
 |y::ys=>by have h1:=YM ys;have h2:=Ip y;grind
theorem a6u:∀(ys:List (List Dw)) (n:Int),0<=n->n+(ys.map cX).sum<=9223372036854775807->ys.foldl (λn y=>aF.wrap (n+sJ y)) n=n+(ys.map cX).sum
 | [],n,_,_=>by simp
 |y::ys,n,h0,h=>by rw [yM,EU] at h;have h1:=YM ys;have h2:=Ip y;rw [Ck,SM (by omega),sR _ (by omega),a6u ys (n+cX y) (by omega) (by omega),yM,EU];omega
theorem YS(k m n:Int)(h:0<=n):cX [⟨k,m,n⟩]=n:=by grind [cX]
theorem NQ(k:Int)(f:Int->Int):∀os:List Int,(∀m∈os,0<=f m)->((os.map λm=> [(⟨k,m,f m⟩:Dw)]).map cX).sum=(os.map f).sum
 | [],_=>rfl
 |m::os,h=>by rw [yM,yM,EU,NQ k f os λm' hm=>h m' (dh _ hm),YS _ _ _ (h m (pD ..)),yM,EU]
def BS(fu:List Int):Nat->Int
 |0=>0
 |k+1=>BS fu k+cU fu ((k:Int)+1)
theorem XX {fu os:List Int}(h:∀x∈fu,0<=x):∀k,k<=aA fu->cX (kE fu os k)+pT (cU fu) os k=BS fu k
 |0,_=>rfl
 |k+1,hk=>by have ih:=XX (os:=os) h k (by omega);have hx:=h _ (cK (show k<(aA fu) by omega));unfold pT BS;rw [a6I (show k<(aA fu) by omega) _ rfl,YR,Jj (show k<(aA fu) by omega)];grind [cX]
theorem Ng(p:cB)(os:List Int):∀k,wB p os k=p.line+p.cap+BS p.fu k+pT (cU p.co) os k
 |0=>by grind [wB,BS,pT]
 |k+1=>by unfold wB BS pT;rw [Ng p os k];omega
theorem Xw {p:cB} {os:List Int}(h:gF p os=0):r8 p os=wB p os (aA p.co):=by
 have F:=AO h;have vh:=XV h;have I5:=F.all p.line (by simp [gN]);have hcp:=F.all p.cap (by simp [gN]);have qu:∀x∈p.co,0<=x:=λx hx=>(F.all x (by simp [gN,hx])).1
 have DT:∀x∈p.fu,0<=x:=λx hx=>(F.all x (by simp [gN,hx])).1
 have e1:=NQ 8 (cU p.co) os λm hm=>qu _ (EZ (F.os1 m hm).1 (F.os1 m hm).2)
 have e2:=NQ 9 (cU p.fu) os λm hm=>DT _ (EZ (F.os1 m hm).1 (by have:=(F.os1 m hm).2;have:=F.len;omega))
 have e3:=Kd (cU p.co) (aA p.co) os vh F.os1;have e4:=Kd (cU p.fu) (aA p.co) os vh F.os1;have e5:=XX (os:=os) DT (aA p.co) (by have:=F.len;omega);have e6:=Ng p os (aA p.co);have hb:=Xy F (aA p.co) (aZ _);have ki:=F.big;have hs:((fR p os).map cX).sum=wB p os (aA p.co):=by unfold fR vx;rw [df,df,Cm,Cm,e1,e2,F.len];grind [YS]
 grind [r8,Bt,a6u]
def kG(q:cB)(x:Dw):cB:=
 if 1<=x.m/\x.m<=aA q.co/\x.k=8 then {q with co:=q.co.set (x.m-1).toNat (cU q.co x.m-x.n)}
 else if 1<=x.m/\x.m<=aA q.co/\x.k=9 then {q with fu:=q.fu.set (x.m-1).toNat (cU q.fu x.m-x.n)}
 else if x.m=0/\x.k=3 then {q with line:=q.line-x.n}
 else {q with cap:=q.cap-x.n}
def RT:cB:=⟨[],aB,0,[],aB,0,0,0⟩
def RM:cB->List Dw->cB×Int
 |q,[]=>(q,0)
 |q,x::l=>if ja q x.k x.m<0 then (RT,8) else if x.n<0 then (RT,1) else if ja q x.k x.m<x.n then (RT,12) else RM (kG q x) l
def a5M(p:cB)(l:List Dw):cB×Int:=if j8 p≠0 then (RT,j8 p) else RM p l
theorem Y9 {q:cB} {k m:Int}(h:0<=ja q k m):(1<=m/\m<=aA q.co/\k=8)\/(1<=m/\m<=aA q.co/\k=9)\/(m=0/\k=3)\/(m=0/\k=4):=by grind [ja]
theorem YD {q:cB} {x:Dw}(h:1<=x.m/\x.m<=aA q.co/\x.k=8):kG q x= {q with co:=q.co.set (x.m-1).toNat (cU q.co x.m-x.n)}:=by grind [kG]
theorem YE {q:cB} {x:Dw}(h:1<=x.m/\x.m<=aA q.co/\x.k=9):kG q x= {q with fu:=q.fu.set (x.m-1).toNat (cU q.fu x.m-x.n)}:=by grind [kG]
theorem YB {q:cB} {x:Dw}(h:x.m=0/\x.k=3):kG q x= {q with line:=q.line-x.n}:=by grind [kG]
theorem YC {q:cB} {x:Dw}(h:x.m=0/\x.k=4):kG q x= {q with cap:=q.cap-x.n}:=by grind [kG]
theorem YF(q:cB)(x:Dw):(kG q x).co.length=aA q.co/\(kG q x).fu.length=aA q.fu:=by grind [kG]
theorem Uo {l:List Int} {m v m':Int}(h1:1<=m)(h2:m<=aA l)(h3:1<=m'):cU (l.set (m-1).toNat v) m'=if m'=m then v else cU l m':=by
 unfold cU;rw [sV,List.getElem?_set,sV];by_cases e:m'=m
 ·grind
 rw [ifN e,ifN (by omega)]
theorem a8B {q:cB} {x:Dw}(hf:aA q.fu=aA q.co)(hx:0<=ja q x.k x.m)(k m:Int):ja (kG q x) k m=if k=x.k/\m=x.m then ja q k m-x.n else ja q k m:=by grind [YD,ja,Uo,YE,YB,YC]
theorem a5R:∀(l:List Dw) (q:cB),aA q.fu=aA q.co->(l.Pairwise λx x'=>¬(x.k=x'.k/\x.m=x'.m))->(∀z∈l,0<=z.n/\z.n<=ja q z.k z.m)->RM q l=(l.foldl kG q,0)
 | [],_,_,_,_=>rfl
 |x::l,q,hf,hp,h=>by
  obtain⟨h1,h2⟩:=h x (pD ..);obtain⟨hx,ni⟩:=kX.1 hp;unfold RM;rw [ifN (by omega),ifN (by omega),ifN (by omega),Ck];refine a5R l _ (by grind [YF]) ni λz hz=> ?_
  grind [a8B]
theorem aFf(l:List Dw):∀q:cB,(l.foldl kG q).co.length=aA q.co/\(l.foldl kG q).fu.length=aA q.fu:=by
 induction l with
 |nil=>grind
 |cons x l ih=>
  grind [YF]
def Kl(q:cB):Prop:=∀x∈gN q,0<=x/\x<=1099511627776
theorem aCa {q:cB} {x:Dw}(hf:aA q.fu=aA q.co)(h:Kl q)(hx:0<=x.n/\x.n<=ja q x.k x.m):Kl (kG q x):=by
 have hb:∀v∈q.co++q.fu++ [q.line,q.cap],0<=v/\v<=1099511627776:=h;have key:0<=ja q x.k x.m:=by omega
 intro v hv;rcases Y9 key with g|g|g|g
 ·have ht:ja q x.k x.m=cU q.co x.m:=by grind [SK]
  have hm:=hb _ (vA _ (vA _ (EZ g.1 g.2.1)));rw [YD g] at hv;unfold gN at hv
  dsimp only at hv
  rcases gJ.1 hv with hv|hv
  ·rcases gJ.1 hv with hv|hv
   ·rcases List.mem_or_eq_of_mem_set hv with hv|hv
    ·exact hb _ (vA _ (vA _ hv))
    omega
   exact hb _ (vA _ (GK _ hv))
  exact hb _ (GK _ hv)
 ·have ht:ja q x.k x.m=cU q.fu x.m:=by grind [Kj]
  have hm:=hb _ (vA _ (GK _ (EZ (l:=q.fu) g.1 (by omega))));rw [YE g] at hv;unfold gN at hv
  dsimp only at hv
  rcases gJ.1 hv with hv|hv
  ·rcases gJ.1 hv with hv|hv
   ·exact hb _ (vA _ (vA _ hv))
   rcases List.mem_or_eq_of_mem_set hv with hv|hv
   ·exact hb _ (vA _ (GK _ hv))
   omega
  exact hb _ (GK _ hv)
 ·have ht:ja q x.k x.m=q.line:=by grind [SH]
  have hm:=hb q.line (by simp);have xR:=hb q.cap (by simp);rw [YB g] at hv;unfold gN at hv
  dsimp only at hv
  rcases gJ.1 hv with hv|hv
  ·exact hb _ (vA _ hv)
  grind
 have ht:ja q x.k x.m=q.cap:=by grind [SI]
 have hm:=hb q.cap (by simp);have xR:=hb q.line (by simp);rw [YC g] at hv;unfold gN at hv
 dsimp only at hv
 rcases gJ.1 hv with hv|hv
 ·exact hb _ (vA _ hv)
 grind
theorem aCZ {q:cB}(h1:aA q.co=aA q.fu)(h2:aA q.co<=16)(h:Kl q):j8 q=0:=Xh h1 h2 λk hk=>by have:=h _ (cK hk);grind [xg]
theorem a3P {l:List Int} {m v:Int}(h1:1<=m)(h2:m<=aA l):∀k:Nat,BS (l.set (m-1).toNat v) k=if m<=k then BS l k-cU l m+v else BS l k
 |0=>by rw [ifN (by omega)];rfl
 |k+1=>by unfold BS;rw [a3P h1 h2 k,Uo h1 h2 (by omega)];grind
theorem a6R {l os:List Int} {m v:Int}(h1:1<=m)(h2:m<=aA l)(ho:os.contains m=aO):∀k:Nat,pT (cU (l.set (m-1).toNat v)) os k=if m<=k then pT (cU l) os k-cU l m+v else pT (cU l) os k
 |0=>by rw [ifN (by omega)];rfl
 |k+1=>by unfold pT;rw [a6R h1 h2 ho k,Uo h1 h2 (by omega)];grind
theorem aKB {q:cB} {x:Dw} {os:List Int}(hf:aA q.fu=aA q.co)(hx:0<=ja q x.k x.m)(ho:x.k=8->os.contains x.m=aO):wB (kG q x) os (aA q.co)=wB q os (aA q.co)-x.n:=by rw [Ng,Ng];grind [Y9,YD,a6R,YE,a3P,YB,YC]
theorem a5J:∀(l:List Dw) (q:cB) (os:List Int),aA q.fu=aA q.co->Kl q->(l.Pairwise λx x'=>¬(x.k=x'.k/\x.m=x'.m))->(∀z∈l,0<=z.n/\z.n<=ja q z.k z.m/\(z.k=8->os.contains z.m=aO))->
 Kl (l.foldl kG q)/\wB (l.foldl kG q) os (aA q.co)=wB q os (aA q.co)-cX l
 | [],q,os,_,ha,_,_=>⟨ha,by simp [cX]⟩
 |x::l,q,os,hf,ha,hp,h=>by
  obtain⟨h1,h2,h3⟩:=h x (pD ..);obtain⟨hx,ni⟩:=kX.1 hp;have hl:=YF q x;rw [Ck];obtain⟨i1,i2⟩:=a5J l (kG q x) os (by omega) (aCa hf ha ⟨h1,h2⟩) ni λz hz=>by grind [a8B]
  grind [cX,aKB]
def FO(z:Dw):Int×Int:=(z.k,z.m)
theorem a2x:∀(y:List Dw) (zs:List Int),((iv y zs).map FO).Sublist (y.map FO)
 | [],zs=>by simp [iv]
 |x::y,[]=>by simp [iv]
 |x::y,n::zs=>by
  rw [MB,df];have ih:=a2x y zs;by_cases h:0<n
  ·rw [ifP h];exact ih.cons_cons _
  grind
theorem a2u:∀ {y:List Dw} {zs:List Int} {z:Dw},(∀i (h:i<aA zs) (h':i<aA y),zs[i]<=y[i].n)->z∈iv y zs->0<z.n/\∃x∈y,z.k=x.k/\z.m=x.m/\z.n<=x.n
 | [],zs,z,_,hz=>by simp [iv] at hz
 |x::y,[],z,_,hz=>by simp [iv] at hz
 |x::y,n::zs,z,h,hz=>by
  rw [MB] at hz;rcases gJ.1 hz with hz|hz
  ·grind [pD]
  obtain⟨h1,x',mV,h2⟩:=a2u (λi hi hi'=>h (i+1) (by simpa using hi) (by simpa using hi')) hz;grind
theorem aFq {y:List Dw} {nd:Int}(h:vE y)(hn:0<=nd) {z:Dw}(hz:z∈my y nd):0<z.n/\∃x∈y,z.k=x.k/\z.m=x.m/\z.n<=x.n:=by have G:=Ek (a2H h hn);refine a2u (λi hi hi'=> ?_) hz;have:=(G.bd i hi (by grind [fg])).2;grind [fg]
theorem VU:∀(ys:List (List Dw)) (nd:Int),((gl nd ys).map FO).Sublist (ys.flatten.map FO)
 | [],nd=>by simp [gl]
 |y::ys,nd=>by unfold gl;rw [List.flatten_cons,df,df];exact(a2x y _).append (VU ys _)
theorem a3b:∀ {ys:List (List Dw)} {nd:Int},(∀y∈ys,vE y)->0<=nd->∀z∈gl nd ys,0<z.n/\∃y∈ys,∃x∈y,z.k=x.k/\z.m=x.m/\z.n<=x.n
 | [],_,_,_,z,hz=>by simp [gl] at hz
 |y::ys,nd,h,hn,z,hz=>by
  have F:=Ej (h y (by simp)) hn;have hs:=F.Fc;unfold gl at hz;rcases gJ.1 hz with hz|hz
  ·obtain⟨h1,x,hx,e⟩:=aFq (h y (by simp)) hn hz;grind
  obtain⟨h1,y',hy,x,hx,e⟩:=a3b (λz hz=>h z (by simp [hz])) (by omega) z hz;grind
theorem aKx {y:List Dw}(h:∀x∈y,0<=x.n):sumI (fg y)=cX y:=by grind [a2s,cX,Jb]
theorem a3d:∀ {ys:List (List Dw)} {nd:Int},(∀y∈ys,vE y)->0<=nd->cX (gl nd ys)=min nd ((ys.map cX).sum)
 | [],nd,_,hn=>by show (0:Int)=min nd 0;omega
 |y::ys,nd,h,hn=>by
  have F:=Ej (h y (by simp)) hn;have hs:=F.Fc;have e:=aKx λx hx=>((h y (by simp)).pos x hx).1
  have ih:=a3d (ys:=ys) (nd:=nd-min nd (sumI (fg y))) (λz hz=>h z (by simp [hz])) (by omega);have h0:=YM ys;unfold gl;rw [YR,F.Bx,ih,yM,EU,<-e];omega
theorem aFe {f:Int->Int->Int} {ys:List (List Dw)}(h:GZ f ys):(ys.flatten.map FO).Pairwise (· ≠ ·):=by
 rw [BG,List.pairwise_flatten];refine⟨λy hy=>(h.uniq y hy).imp λhne he=> ?_,h.up.imp λhlt x hx x' mV he=> ?_⟩
 ·grind [FO]
 grind [FO]
theorem aK3 {p:cB} {os:List Int}(h:gF p os=0):((fR p os).map cX).sum=r8 p os:=by
 have F:=AO h;have vh:=XV h;have I5:=F.all p.line (by simp [gN]);have hcp:=F.all p.cap (by simp [gN]);have qu:∀x∈p.co,0<=x:=λx hx=>(F.all x (by simp [gN,hx])).1
 have DT:∀x∈p.fu,0<=x:=λx hx=>(F.all x (by simp [gN,hx])).1
 have e1:=NQ 8 (cU p.co) os λm hm=>qu _ (EZ (F.os1 m hm).1 (F.os1 m hm).2)
 have e2:=NQ 9 (cU p.fu) os λm hm=>DT _ (EZ (F.os1 m hm).1 (by have:=(F.os1 m hm).2;have:=F.len;omega))
 have e3:=Kd (cU p.co) (aA p.co) os vh F.os1;have e4:=Kd (cU p.fu) (aA p.co) os vh F.os1;have e5:=XX (os:=os) DT (aA p.co) (by have:=F.len;omega);have e6:=Ng p os (aA p.co);rw [Xw h];unfold fR vx;rw [df,df,Cm,Cm,e1,e2,F.len];grind [YS]
theorem aKq {p:cB} {os:List Int}(F:GN p os) {y:List Dw}(hy:y∈fR p os) {x:Dw}(hx:x∈y):x.n=ja p x.k x.m/\(x.k=8->os.contains x.m=aO):=by
 have hl:=F.len;rcases Nl hy with⟨m,hm,rfl⟩|⟨m,hm,rfl⟩|rfl|rfl|rfl
 ·simp at hx;subst hx;have:=F.os1 m hm;grind [SK]
 ·simp at hx;subst hx;have:=F.os1 m hm;grind [Kj]
 ·obtain⟨i,hi,_,rfl⟩:=NT hx;grind [Kj,cU]
 ·grind [SH]
 grind [SI]
structure a8c(p:cB)(os:List Int)(need:Int)(l:List Dw):Prop where
 len:aA l<=1000
 one:∀z∈l,0<z.n/\z.n<=ja p z.k z.m/\(z.k=8->os.contains z.m=aO)
 uniq:l.Pairwise λx x'=>¬(x.k=x'.k/\x.m=x'.m)
 Bx:cX l=min need (r8 p os)
theorem a1t {p:cB} {os:List Int} {need:Int}(h:sG p os need=0)(hI:aL need)(km:aA os<=100):a8c p os need (oO p os need):=by
 have O:=aIq h hI km;have hm:gF p os=0:=by grind [sG]
 have hn:0<=need:=by grind [sG]
 have F:=AO hm;have dR:=YA F;have e:oO p os need=gl need (fR p os):=by grind [oO,tR,Q4]
 refine⟨O.len, ?_, ?_, ?_⟩
 ·rw [e];intro z hz;obtain⟨h1,y,hy,x,hx,e1,e2,e3⟩:=a3b dR hn z hz;grind [aKq]
 ·rw [e];have:=(aFe (a7c hm)).sublist (VU (fR p os) need);grind [FO]
 grind [a3d,aK3]
structure a8d(p:cB)(os:List Int)(need:Int)(l:List Dw):Prop where
 less:a5M p l=(l.foldl kG p,0)
 may:gF (l.foldl kG p) os=0
 room:r8 (l.foldl kG p) os=r8 p os-cX l
 chk:j8 (l.foldl kG p)=0
 Bx:sJ l=min need (r8 p os)
 cX:cX l=min need (r8 p os)
 aN3:gF p os=0
 aN0:0<=need
theorem aDA {p:cB} {os:List Int} {need:Int}(h:sG p os need=0)(hI:aL need)(km:aA os<=100):a8d p os need (oO p os need):=by
 have B:=a1t h hI km;have hm:gF p os=0:=by grind [sG]
 have hn:0<=need:=by grind [sG]
 have F:=AO hm;generalize oO p os need=l at*;have hl:=aFf l p;obtain⟨a1,a2⟩:=a5J l p os F.len F.all B.uniq λz hz=>⟨by have:=(B.one z hz).1;omega,(B.one z hz).2.1,(B.one z hz).2.2⟩
 have IB:j8 p=0:=by grind [gF]
 have hce:=aCZ (by rw [hl.1,hl.2];exact F.len.symm) (by rw [hl.1];exact F.big) a1;have hme:gF (l.foldl kG p) os=0:=by grind [gF]
 refine⟨?_,hme, ?_,hce, ?_,B.Bx,hm,hn⟩
 ·unfold a5M;rw [ifN (by omega)];exact a5R l p F.len B.uniq λz hz=>⟨by have:=(B.one z hz).1;omega,(B.one z hz).2.1⟩
 ·grind [Xw]
 have:=B.Bx;grind [aL,SM]
structure Sm(D D':Dk):Prop where
 x:D'.x=D.x
 h:D'.h=D.h
 ob:D'.ob=D.ob
 bx:D'.bx=D.bx
 who:D'.who=D.who
 ai:D'.ai=D.ai
 st:D'.st=D.st
 en:D'.en=D.en
 lg:∃t,D'.log=D.log++t/\∀e∈t,e.k≠15
theorem Sm.refl(D:Dk):Sm D D:=⟨rfl,rfl,rfl,rfl,rfl,rfl,rfl,rfl,[],by simp,by simp⟩
theorem Sm.trans {D E F:Dk}(h:Sm D E)(h':Sm E F):Sm D F:=by obtain⟨t,e,ht⟩:=h.lg;obtain⟨t',e',AG⟩:=h'.lg;exact⟨h'.x.trans h.x,h'.h.trans h.h,h'.ob.trans h.ob,h'.bx.trans h.bx,h'.who.trans h.who,h'.ai.trans h.ai,h'.st.trans h.st,h'.en.trans h.en,t++t',by grind,λx hx=>(gJ.1 hx).elim (ht x) (AG x)⟩
def oB(a:Int):List Lg->Int
 | []=>0
 |x::L=>(if x.a=a then x.n else 0)+oB a L
theorem PW {a:Int}:∀ {L:List Lg},(∀x∈L,1<=x.n)->0<=oB a L
 | [],_=>dJ 0
 |x::L,h=>by have:=h x (by simp);have:=PW (a:=a) (L:=L) (λy hy=>h y (dh _ hy));grind [oB]
abbrev B(D:Dk)(k m a:Int):Int:=balA (aA D.x.ms) (aA D.x.ss+1) D.l k m a
def yK(x:ak)(y:Lg):Prop:=(1<=y.m/\y.m<=(aA x.ms:Int))/\(0<=y.a/\y.a<=(aA x.ss:Int))/\1<=y.n
theorem aw.give {C:Int} {g:Nat} {D:Dk}(H:aw C g D) {x:Lg}(hx:yK D.x x)(h2:x.n<=B D 1 0 x.a):
 aw C (g+1) (Hi D x)/\Sm D (Hi D x)/\(∀k m b,k≠1->k≠7->B (Hi D x) k m b=B D k m b)/\∀b,B (Hi D x) 1 0 b=B D 1 0 b-if x.a=b then x.n else 0:=by
 obtain⟨_,h,hd⟩:=H.goes (tk:=7) (tm:=x.m) (a:=x.a) (n:=x.n) (e:=⟨13,x.m,x.a,x.n,0⟩) (.inl ⟨rfl,hx.1⟩) hx.2.1 hx.2.2 h2 ⟨rfl,rfl,rfl⟩;refine⟨h,⟨rfl,rfl,rfl,rfl,rfl,rfl,rfl,rfl,[⟨13,x.m,x.a,x.n,0⟩],rfl,by simp⟩, ?_, ?_⟩
 ·intro k m b h1 h7;refine(hd k m b).trans ?_;grind
 intro b;refine(hd 1 0 b).trans ?_;grind
theorem aw.gives:∀(L:List Lg) {C:Int} {g:Nat} {D:Dk},aw C g D->(∀x∈L,yK D.x x)->(∀a,oB a L<=B D 1 0 a)->
 (∀k,k<=aA L->aw C (g+k) (iw D (L.take k)))/\Sm D (iw D L)/\(∀k m b,k≠1->k≠7->B (iw D L) k m b=B D k m b)/\∀b,B (iw D L) 1 0 b=B D 1 0 b-oB b L
 | [],C,g,D,H,_,_=>⟨λk hk=>by have:k=0:=by simpa using hk
                              subst this;exact H,Sm.refl D,λ_ _ _ _ _=>rfl,λb=>by simp [oB,iw]⟩
 |x::L,C,g,D,H,hx,ha=>by
  have h1:=hx x (by simp);have hp:∀y∈L,yK D.x y:=λy hy=>hx y (dh _ hy)
  have Mn:=λa=>PW (a:=a) (L:=L) (λy hy=>(hp y hy).2.2)
  have h2:x.n<=B D 1 0 x.a:=by have h3:=ha x.a;have:=Mn x.a;unfold oB at h3;rw [ifP rfl] at h3;omega
  obtain⟨G,S,K,Hs⟩:=H.give h1 h2;have ih:=aw.gives L G hp (λa=>by have:=ha a;rw [Hs a];simp only [oB] at this;omega);obtain⟨G2,S2,K2,H2⟩:=ih;refine⟨?_,S.trans S2, ?_, ?_⟩
  ·intro k hk;cases k with
   |zero=>exact H
   |succ k=>
    have:=G2 k (by simpa using hk);rw [show g+(k+1)=g+1+k by omega];exact this
  ·intro k m b e1 e7;exact(K2 k m b e1 e7).trans (K k m b e1 e7)
  intro b;refine(H2 b).trans ?_;rw [Hs b];simp only [oB];omega
theorem aw.Pw {C:Int} {kd:Int}(hk:kd=4\/kd=14\/kd=15):∀(L:List Lg) {g:Nat} {D:Dk},aw C g D->(∀x∈L,(0<=x.a/\x.a<=(aA D.x.ss:Int))/\(1<=x.n\/kd=4))->aw C (g+aA L) (jy D kd L)
 | [],g,D,H,_=>by show aw C g {D with log:=D.log++ []};rw [List.append_nil];exact H
 |x::L,g,D,H,h=>by
  have h1:=h x (by simp);have hf:yU ⟨kd,x.m,x.a,x.n,0⟩=0:=by grind [yU]
  have G:aw C (g+1) {D with log:=D.log++ [⟨kd,x.m,x.a,x.n,0⟩]}:=by
   have gV:∀a,mr (D.log++ [⟨kd,x.m,x.a,x.n,0⟩]) a=B D 1 0 a:=λa=>by rw [DG,DI,H.fl a,hf];split<;>simp
   refine⟨H.hs,H.bE,H.h8,H.hl,gV,H.lg.snoc ⟨h1.1.1,h1.1.2, ?_⟩ (λa=>by rw [gV];have h5:=H.house a;have h6:=H.bE.big;exact⟨h5.1,by grind⟩),by show aA (D.log++ [_])<=g+1;rw [cN];have:=H.gl;simp;omega,H.who,H.ob,H.bx,H.bl,H.st,H.ai⟩;grind
  have ih:=aw.Pw hk L G (λy hy=>h y (dh _ hy));grind [jy]
theorem a2z(D:Dk) {kd:Int}(hk:kd≠15)(L:List Lg):Sm D (jy D kd L):=⟨rfl,rfl,rfl,rfl,rfl,rfl,rfl,rfl,_,rfl,λe he=>by grind⟩
def Ll(x:ak)(k m:Int):Prop:=((k=8\/k=9)/\1<=m/\m<=(aA x.ms:Int))\/((k=3\/k=4)/\m=0)
theorem aw.comes {C:Int} {g:Nat} {D:Dk}(H:aw C g D) {x:Dw}(hs:Ll D.x x.k x.m)(hh:D.h= [])(h1:1<=x.n)(h2:x.n<=B D x.k x.m 0)(hC:C+2*x.n<=4611686018427387904+1125899906842624):
 aw (C+2*x.n) (g+1) (qJ D x)/\Sm D (qJ D x)/\∀k m b,B (qJ D x) k m b=B D k m b+((if k=x.k/\m=x.m/\b=0 then-x.n else 0)+(if k=1/\m=0/\b=0 then x.n else 0)):=by
 obtain⟨fk,fm,n⟩:=x;simp only at hs h1 h2 hC ⊢;obtain⟨j,hj⟩:=Na (M:=aA D.x.ms) (A:=aA D.x.ss+1) (a:=0) (by omega) (by omega);have hi:∃i,plcA (aA D.x.ms) (aA D.x.ss+1) fk fm 0=aC i:=by
  rcases hs with⟨h,h'⟩|⟨h,rfl⟩
  ·exact Br (.inr h) h' (by omega) (by omega)
  rcases h with rfl|rfl
  ·exact aJU (by omega) (by omega)
  exact aJS (by omega) (by omega)
 obtain⟨i,hi⟩:=hi;have hne:¬fk=1:=by rcases hs with⟨h,_⟩|⟨h,_⟩<;>omega
 have zu:=H.house 0;have hF:=H.bE.F0;have bP:B D fk fm 0<=1099511627776:=by
  rcases hs with⟨h|h,_⟩|⟨h|h,rfl⟩
  ·subst h;exact H.bE.tD fm 0
  ·subst h;have:=H.bE.zm fm 0;show balA _ _ _ _ _ _<=_;omega
  ·subst h;have:=H.bE.AK 0;show balA _ _ _ _ _ _<=_;omega
  subst h;have:=H.bE.cap 0;show balA _ _ _ _ _ _<=_;omega
 have uR:n<=balA (aA D.x.ms) (aA D.x.ss+1) D.l fk fm 0:=h2;have aMU:balA (aA D.x.ms) (aA D.x.ss+1) D.l fk fm 0<=1099511627776:=bP;have QQ:uZ D fk fm 1 0 0 n=0:=NM hi hj (by omega) (by omega) (by unfold aL;omega) (.inr ⟨uR,by rw [hh];show (0:Int)<=_;omega⟩) (by unfold aL;omega) (by unfold aL;omega) H.bE.ok.len;have hd:=RQ QQ H.bE.ok.len hi hj;have dR:nN (aA D.x.ms) (aA D.x.ss+1) (bj D fk fm 1 0 0 n):=nN.mv H.bE.ok H.hs.sl.2;have gV:∀b,mr (D.log++ [⟨10,fm,0,n,fk⟩]) b=balA (aA D.x.ms) (aA D.x.ss+1) (bj D fk fm 1 0 0 n) 1 0 b:=by intro b;rw [DG,DI,H.fl b,hd,show yU ⟨10,fm,0,n,fk⟩=n from rfl];grind
 refine⟨⟨H.hs,⟨dR, ?_, ?_, ?_, ?_, ?_, ?_, ?_,hC,H.bE.F0⟩,H.h8,H.hl, ?_, ?_, ?_,H.who,H.ob,H.bx,H.bl,H.st,H.ai⟩,⟨rfl,rfl,rfl,rfl,rfl,rfl,rfl,rfl,[⟨10,fm,0,n,fk⟩],rfl,by simp⟩,hd⟩
 ·intro m b;refine ju (rO (hd 8 m b)) ?_;have:=H.bE.tD m b;split<;>split<;>omega
 ·intro m b;refine ju (rO (hd 9 m b)) ?_;have:=H.bE.zm m b;show balA _ _ _ _ _ _+_<=(if D.en=aO then (1099511627776:Int) else 0);omega
 ·intro b;refine ju (rO (hd 3 0 b)) ?_;have:=H.bE.AK b;show balA _ _ _ _ _ _+_<=(if D.en=aO then (1099511627776:Int) else 0);omega
 ·intro b;refine ju (rO (hd 4 0 b)) ?_;have:=H.bE.cap b;show balA _ _ _ _ _ _+_<=(if D.en=aO then (1099511627776:Int) else 0);omega
 ·intro m b;show _<=balA (aA D.x.ms) (aA D.x.ss+1) (bj D fk fm 1 0 0 n) 7 m b+balA (aA D.x.ms) (aA D.x.ss+1) (bj D fk fm 1 0 0 n) 8 m b-balA (aA D.x.ms) (aA D.x.ss+1) (bj D fk fm 1 0 0 n) 1 0 b;rw [hd 7,hd 8,hd 1];have:=H.bE.lo m b;grind
 ·intro m b;show balA (aA D.x.ms) (aA D.x.ss+1) (bj D fk fm 1 0 0 n) 7 m b+balA (aA D.x.ms) (aA D.x.ss+1) (bj D fk fm 1 0 0 n) 8 m b+balA (aA D.x.ms) (aA D.x.ss+1) (bj D fk fm 1 0 0 n) 1 0 b<=_;rw [hd 7,hd 8,hd 1];have:=H.bE.hi m b;grind
 ·intro b;show balA (aA D.x.ms) (aA D.x.ss+1) (bj D fk fm 1 0 0 n) 2 0 b+balA (aA D.x.ms) (aA D.x.ss+1) (bj D fk fm 1 0 0 n) 1 0 b<=_;rw [hd 2,hd 1];have:=H.bE.es b;grind
 ·intro b;exact gV b
 ·refine H.lg.snoc ⟨by grind,by grind,.inl h1⟩ (λb=> ?_);rw [gV];refine⟨dR.nn rfl 0 b, ?_⟩;rw [hd];have h5:=(H.house b).2;omega
 show aA (D.log++ [_])<=g+1;rw [cN];have:=H.gl;simp;omega
def Hc(k m:Int):List Dw->Int
 | []=>0
 |x::L=>(if k=x.k/\m=x.m then x.n else 0)+Hc k m L
theorem VF {k m:Int}:∀ {L:List Dw},(∀x∈L,¬(k=x.k/\m=x.m))->Hc k m L=0
 | [],_=>rfl
 |x::L,h=>by simp only [Hc];rw [ifN (h x (by simp)),VF (λy hy=>h y (dh _ hy))];rfl
theorem aw.draws:∀(L:List Dw) {C:Int} {g:Nat} {D:Dk},aw C g D->D.h= []->(∀x∈L,Ll D.x x.k x.m/\1<=x.n/\x.n<=B D x.k x.m 0)->(L.Pairwise λx x'=>¬(x.k=x'.k/\x.m=x'.m))->C+2*cX L<=4611686018427387904+1125899906842624->
 (∀k,k<=aA L->aw (C+2*cX L) (g+k) (oG D (L.take k)))/\Sm D (oG D L)/\(∀k m b,B (oG D L) k m b=B D k m b+((if b=0 then-Hc k m L else 0)+(if k=1/\m=0/\b=0 then cX L else 0)))
 | [],C,g,D,H,_,_,_,hC=>by grind [cX,Sm.refl,Hc,oG]
 |x::L,C,g,D,H,hh,hx,hp,hC=>by
  rw [kX] at hp;have h1:=hx x (by simp);have hn:=Ip L;have hne:¬(x.k=1):=by rcases h1.1 with⟨h,_⟩|⟨h,_⟩<;>omega
  have et:cX (x::L)=x.n+cX L:=by grind [cX]
  rw [et] at hC ⊢;obtain⟨G,S,K⟩:=H.comes h1.1 hh h1.2.1 h1.2.2 (by omega);have ih:=aw.draws L G (by rw [S.h];exact hh) (λy hy=>by
   have hy':=hx y (dh _ hy);have hd:=hp.1 y hy;have hny:¬(y.k=1):=by rcases hy'.1 with⟨h,_⟩|⟨h,_⟩<;>omega
   refine⟨hy'.1,hy'.2.1, ?_⟩;grind) hp.2 (by omega)
  obtain⟨G2,S2,K2⟩:=ih;refine⟨?_,S.trans S2, ?_⟩
  ·intro k hk;cases k with
   |zero=>exact(H.wide (by omega) (by omega) (by omega))
   |succ k=>
    have:=G2 k (by simpa using hk);rw [show g+(k+1)=g+1+k by omega,show C+2*(x.n+cX L)=C+2*x.n+2*cX L by omega];exact this
  intro k m b;refine(K2 k m b).trans ?_;grind [Hc]
theorem V6(D:Dk)(n:Nat) {i:Nat}(hi:i<aA (gw D n)):(gw D n)[i]=B D 8 ((i:Int)+1) 0:=by simp [gw,B]
theorem VR(D:Dk)(n:Nat) {i:Nat}(hi:i<aA (iF D n)):(iF D n)[i]=B D 9 ((i:Int)+1) 0:=by simp [iF,B]
theorem a1l(D:Dk) {m:Int}(h1:1<=m)(h2:m<=(aA D.x.ms:Int)):cU (gw D (aA D.x.ms)) m=B D 8 m 0:=by
 unfold cU;have hl:(m-1).toNat<aA (gw D (aA D.x.ms)):=by rw [pI];omega
 rw [sV,iD hl,P4,V6,show (((m-1).toNat:Nat):Int)+1=m by omega]
theorem a1m(D:Dk) {m:Int}(h1:1<=m)(h2:m<=(aA D.x.ms:Int)):cU (iF D (aA D.x.ms)) m=B D 9 m 0:=by
 unfold cU;have hl:(m-1).toNat<aA (iF D (aA D.x.ms)):=by rw [vM];omega
 rw [sV,iD hl,P4,VR,show (((m-1).toNat:Nat):Int)+1=m by omega]
theorem aw.may {C:Int} {g:Nat} {D:Dk}(H:aw C g D):gF (jo D) D.who=0:=by
 have hF:(if D.en=aO then (1099511627776:Int) else 0)<=1099511627776:=by split<;>omega
 refine a5Y (Xh (by show aA (gw D _)=aA (iF D _);rw [pI,vM]) (by show aA (gw D _)<=16;rw [pI];exact H.hs.ml.2) ?_) ?_
 ·intro k hk;have hm:=cK hk;generalize (gN (jo D))[k]=v at hm;have Qa:v∈gw D (aA D.x.ms)++iF D (aA D.x.ms)++ [B D 3 0 0,B D 4 0 0]:=hm;have key:0<=v/\v<=1099511627776:=by
   simp only [gJ,fC,List.not_mem_nil,or_false] at Qa;rcases Qa with (h|h)|h|h
   ·obtain⟨i,_,rfl⟩:=dW.1 h;exact⟨H.bE.ok.nn rfl _ _,H.bE.tD _ _⟩
   ·obtain⟨i,_,rfl⟩:=dW.1 h;exact⟨H.bE.ok.nn rfl _ _,ju (H.bE.zm _ _) hF⟩
   ·subst h;exact⟨H.bE.ok.nn rfl _ _,ju (H.bE.AK _) hF⟩
   subst h;exact⟨H.bE.ok.nn rfl _ _,ju (H.bE.cap _) hF⟩
  grind [xg]
 intro k hk;have hg:D.who.getD k 0=D.who[k]:=by grind
 have h1:=H.who.pP _ (cK hk);unfold tQ;rw [hg,show (jo D).co.length=(aA D.x.ms) from pI _ _,decide_eq_false (by omega),decide_eq_false (by omega),Bool.false_or,Bool.false_or];by_cases h0:0<k
 ·have zw:k-1<aA D.who:=by omega
  have hg1:D.who.getD (k-1) 0=D.who[k-1]:=by grind
  have:=vB.1 H.who.up (k-1) k zw hk (by omega);grind
 grind
def mD(D:Dk):Int:=r8 (jo D) D.who
theorem aw.room {C:Int} {g:Nat} {D:Dk}(H:aw C g D):0<=mD D/\mD D<=37383395344384:=by
 unfold mD;rw [Xw H.may];have h:=Xy (AO H.may) (jo D).co.length (aZ _);have hl:(jo D).co.length<=16:=by rw [show (jo D).co.length=(aA D.x.ms) from pI _ _];exact H.hs.ml.2
 omega
theorem aJZ {D:Dk} {x:Dw}(hs:Ll D.x x.k x.m)(K:∀k m b,B (qJ D x) k m b=B D k m b+((if k=x.k/\m=x.m/\b=0 then-x.n else 0)+(if k=1/\m=0/\b=0 then x.n else 0))):jo (qJ D x)=kG (jo D) x:=by
 obtain⟨fk,fm,n⟩:=x;have jz:(jo D).co.length=aA D.x.ms:=pI _ _;have e8:∀i:Nat,i<aA D.x.ms->B (qJ D ⟨fk,fm,n⟩) 8 ((i:Int)+1) 0=B D 8 ((i:Int)+1) 0+(if 8=fk/\(i:Int)+1=fm then-n else 0):=λi _=>by rw [K];simp
 have e9:∀i:Nat,i<aA D.x.ms->B (qJ D ⟨fk,fm,n⟩) 9 ((i:Int)+1) 0=B D 9 ((i:Int)+1) 0+(if 9=fk/\(i:Int)+1=fm then-n else 0):=λi _=>by rw [K];simp
 have e3:=K 3 0 0;have e4:=K 4 0 0;have qu:¬fk=8->gw (qJ D ⟨fk,fm,n⟩) (aA D.x.ms)=gw D (aA D.x.ms):=λh=>by refine Lb (by rw [pI,pI]) (λi h1 h2=> ?_);grind [V6]
 have DT:¬fk=9->iF (qJ D ⟨fk,fm,n⟩) (aA D.x.ms)=iF D (aA D.x.ms):=λh=>by refine Lb (by rw [vM,vM]) (λi h1 h2=> ?_);grind [VR]
 have hp:∀li ca,B (qJ D ⟨fk,fm,n⟩) 3 0 0=li->B (qJ D ⟨fk,fm,n⟩) 4 0 0=ca->jo (qJ D ⟨fk,fm,n⟩)=⟨gw (qJ D ⟨fk,fm,n⟩) (aA D.x.ms),aB,0,iF (qJ D ⟨fk,fm,n⟩) (aA D.x.ms),aB,0,li,ca⟩:=by rintro _ _ rfl rfl;rfl
 simp only at e3 e4 hs;unfold kG;rw [jz];rcases hs with⟨h|h,h1,h2⟩|⟨h|h,h1⟩
 ·subst h;rw [ifP ⟨h1,h2,rfl⟩,hp (B D 3 0 0) (B D 4 0 0) (by rw [e3];simp) (by rw [e4];simp),DT (by decide)];have:gw (qJ D ⟨8,fm,n⟩) (aA D.x.ms)=(gw D (aA D.x.ms)).set (fm-1).toNat (cU (gw D (aA D.x.ms)) fm-n):=by
   refine Lb (by grind [pI]) (λi g1 g2=> ?_);grind [pI,V6,a1l]
  rw [this];rfl
 ·subst h;rw [ifN (by simp),ifP ⟨h1,h2,rfl⟩,hp (B D 3 0 0) (B D 4 0 0) (by rw [e3];simp) (by rw [e4];simp),qu (by decide)];have:iF (qJ D ⟨9,fm,n⟩) (aA D.x.ms)=(iF D (aA D.x.ms)).set (fm-1).toNat (cU (iF D (aA D.x.ms)) fm-n):=by
   refine Lb (by grind [vM]) (λi g1 g2=> ?_);grind [vM,VR,a1m]
  rw [this];rfl
 ·subst h h1;rw [ifN (by simp),ifN (by simp),ifP ⟨rfl,rfl⟩,hp (B D 3 0 0-n) (B D 4 0 0) (by rw [e3];simp;omega) (by rw [e4];simp),qu (by decide),DT (by decide)];rfl
 subst h h1;rw [ifN (by simp),ifN (by simp),ifN (by simp),hp (B D 3 0 0) (B D 4 0 0-n) (by rw [e3];simp) (by rw [e4];simp;omega),qu (by decide),DT (by decide)];rfl
theorem a6X:∀(L:List Dw) {C:Int} {g:Nat} {D:Dk},aw C g D->D.h= []->(∀x∈L,Ll D.x x.k x.m/\1<=x.n/\x.n<=B D x.k x.m 0)->(L.Pairwise λx x'=>¬(x.k=x'.k/\x.m=x'.m))->C+2*cX L<=4611686018427387904+1125899906842624->
 jo (oG D L)=L.foldl kG (jo D)
 | [],C,g,D,_,_,_,_,_=>rfl
 |x::L,C,g,D,H,hh,hx,hp,hC=>by
  rw [kX] at hp;have h1:=hx x (by simp);have hn:=Ip L;have hne:¬(x.k=1):=by rcases h1.1 with⟨h,_⟩|⟨h,_⟩<;>omega
  have et:cX (x::L)=x.n+cX L:=by grind [cX]
  rw [et] at hC;obtain⟨G,S,K⟩:=H.comes h1.1 hh h1.2.1 h1.2.2 (by omega);rw [Ck,<-aJZ h1.1 K];exact a6X L G (by rw [S.h];exact hh) (λy hy=>by
   have hy':=hx y (dh _ hy);have hd:=hp.1 y hy;have hny:¬(y.k=1):=by rcases hy'.1 with⟨h,_⟩|⟨h,_⟩<;>omega
   refine⟨hy'.1,hy'.2.1, ?_⟩;grind) hp.2 (by omega)
structure a8h(C:Int)(g:Nat)(D:Dk)(n:Int):Prop where
 steps:∀k,k<=aA (iE D n)->aw (C+140737488355328) (g+k) (oG D ((iE D n).take k))
 len:aA (iE D n)<=50
 dI:∀x∈iE D n,aL x.k/\aL x.m/\aL x.n/\0<=x.n
 sm:Sm D (lq D n)
 keep:∀k m b,(b≠0\/k=2\/k=5\/k=6\/k=7)->B (lq D n) k m b=B D k m b
 house:B (lq D n) 1 0 0=B D 1 0 0+min (max n 0) (mD D)
 room:mD (lq D n)=mD D-min (max n 0) (mD D)
theorem aKr(p:cB)(os:List Int):(fR p os).flatten.length<=2*aA os+aA p.fu+2:=by
 have h:=Kc p.fu os (aA p.fu);have h1:∀(f:Int->Dw) (l:List Int),(l.map (λm=> [f m])).flatten.length=aA l:=by
  intro f l;induction l with
  |nil=>rfl
  |cons x l ih=>grind
 unfold fR;rw [a9v,a9v,cN,cN,h1 (λm=>⟨8,m,cU p.co m⟩),h1 (λm=>⟨9,m,cU p.fu m⟩)];grind [vx]
theorem aJO {p:cB} {os:List Int} {need:Int}(h:sG p os need=0)(hm:gF p os=0)(hn:0<=need)(hI:aL need):aA (oO p os need)<=2*aA os+aA p.fu+2:=by
 have dR:=YA (AO hm);have e:oO p os need=gl need (fR p os):=by grind [oO,tR,Q4]
 grind [VU,iR,aKr]
theorem aw.drawn {C:Int} {g:Nat} {D:Dk}(H:aw C g D)(hh:D.h= []) {n:Int}(hn:aL n)(hC:C+140737488355328<=4611686018427387904+1125899906842624):a8h C g D n:=by
 have hr:=H.room;by_cases h0:n<=0
 ·have e:iE D n= []:=by grind [iE]
  have e':lq D n=D:=by unfold lq;rw [e];rfl
  have em:min (max n 0) (mD D)=0:=by omega
  refine⟨?_,by rw [e];simp,by rw [e];simp,by grind [Sm.refl],λk m b _=>by rw [e'],by rw [e',em];omega,by rw [e',em];omega⟩;rw [e];intro k hk;have:k=0:=by simpa using hk
  subst this;exact H.wide (by omega) hC (by omega)
 have IB:sG (jo D) D.who n=0:=by unfold sG;rw [ifN (by rw [H.may];simp),ifN (by omega)]
 have IL:=H.who.len;have ij:=H.hs.ml;have BF:=a1t IB hn (by omega);have BL:=aDA IB hn (by omega);have hpl:=aJO IB H.may (by omega) hn;have e:iE D n=oO (jo D) D.who n:=by grind [iE]
 have gV:(jo D).fu.length=aA D.x.ms:=vM _ _;have jz:(jo D).co.length=aA D.x.ms:=pI _ _;rw [<-e] at BF BL hpl;have IE:∀x∈iE D n,Ll D.x x.k x.m/\1<=x.n/\x.n<=B D x.k x.m 0:=λx hx=>by
  obtain⟨a1,a2,_⟩:=BF.one x hx;have h8:0<=ja (jo D) x.k x.m:=by omega
  rcases Y9 h8 with g|g|g|g
  ·rw [jz] at g;refine⟨.inl ⟨.inl g.2.2,g.1,g.2.1⟩,a1, ?_⟩;grind [SK,jo,a1l]
  ·rw [jz] at g;refine⟨.inl ⟨.inr g.2.2,g.1,g.2.1⟩,a1, ?_⟩;grind [Kj,jo,a1m]
  ·refine⟨.inr ⟨.inl g.2,g.1⟩,a1, ?_⟩;rw [g.1,g.2,SH] at a2;rw [g.1,g.2];exact a2
  refine⟨.inr ⟨.inr g.2,g.1⟩,a1, ?_⟩;rw [g.1,g.2,SI] at a2;rw [g.1,g.2];exact a2
 have ht:cX (iE D n)=min n (mD D):=BF.Bx;have N1:C+2*cX (iE D n)<=C+140737488355328:=by rw [ht];omega
 obtain⟨G,S,K⟩:=aw.draws (iE D n) H hh IE BF.uniq (by omega);have aGl:=a6X (iE D n) H hh IE BF.uniq (by omega);have em:min (max n 0) (mD D)=cX (iE D n):=by rw [ht];omega
 refine⟨λk hk=>(G k hk).wide N1 hC (aZ _),by omega, ?_,S, ?_, ?_, ?_⟩
 ·intro x hx;obtain⟨s,a1,a2⟩:=IE x hx;have hb:B D x.k x.m 0<=1099511627776:=by
   have hF:(if D.en=aO then (1099511627776:Int) else 0)<=1099511627776:=by split<;>omega
   rcases s with⟨h|h,_⟩|⟨h|h,e⟩
   ·rw [h];exact H.bE.tD _ _
   ·rw [h];exact ju (H.bE.zm _ _) hF
   ·rw [h,e];exact ju (H.bE.AK _) hF
   rw [h,e];exact ju (H.bE.cap _) hF
  refine⟨?_, ?_,by unfold aL;omega,by omega⟩<;>rcases s with⟨h,h',h''⟩|⟨h,h'⟩<;>unfold aL<;>omega
 ·intro k m b hkb;refine(K k m b).trans ?_;have hd:b=0->Hc k m (iE D n)=0:=λ_=>VF (λx hx zy=>by
   obtain⟨s,_,_⟩:=IE x hx;rcases s with⟨h,_⟩|⟨h,_⟩<;>omega)
  omega
 ·refine(K 1 0 0).trans ?_;rw [ifP rfl,ifP ⟨rfl,rfl,rfl⟩,VF (λx hx zy=>by
   obtain⟨s,_,_⟩:=IE x hx;rcases s with⟨h,_⟩|⟨h,_⟩<;>omega),em]
  omega
 show r8 (jo (oG D (iE D n))) (oG D (iE D n)).who=_;rw [aGl,S.who,BL.room,em];rfl
def jr(p:Lg->Bool):List Lg->Int
 | []=>0
 |x::l=>(if p x then x.n else 0)+jr p l
theorem S6(p:Lg->Bool):∀(l m:List Lg),jr p (l++m)=jr p l+jr p m
 | [],m=>by simp [jr]
 |x::l,m=>by simp only [List.cons_append,jr,S6 p l m];omega
theorem Ki:∀l:List Lg,jr (λ_=>aO) l=sumI (bG l)
 | []=>rfl
 |x::l=>by have:=Ki l;grind [jr,bG,sumI]
theorem YH(p:Lg->Bool):∀(l:List Lg),(∀x∈l,0<=x.n)->0<=jr p l
 | [],_=>by simp [jr]
 |x::l,h=>by
  have h1:=YH p l λy hy=>h y (dh _ hy)
  grind [jr]
def NL(x:Lg)(n:Int):Lg:=⟨x.m,x.a,n⟩
theorem Y6(x:Lg)(L:List Lg)(n:Int)(xs:List Int):eo (x::L) (n::xs)=(if 0<n then [NL x n] else [])++eo L xs:=by
 unfold eo;rw [EW];by_cases c:0<n
 ·rw [List.filter_cons_of_pos (by simpa using c),ifP c];rfl
 grind
def pm(m:Int)(x:Lg):Bool:=x.m==m
def UF(p:Lg->Bool):Prop:=∀x n,p (NL x n)=p x
theorem aHs(m:Int):UF (pm m):=λ_ _=>rfl
theorem aHr:UF (λ_=>aO):=λ_ _=>rfl
theorem Y8 {p:Lg->Bool}(hp:UF p):∀(L:List Lg) (xs:List Int),aA xs=aA L->(∀x∈xs,0<=x)->(∀x∈kN (· - ·) (bG L) xs,0<=x)->
 jr p (eo L xs)+jr p (eo L (kN (· - ·) (bG L) xs))=jr p L
 | [],[],_,_,_=>by simp [eo,jr,bG]
 |x::L,n::xs,hl,h0,h1=>by
  have ih:=Y8 hp L xs (by simpa using hl) (λy hy=>h0 y (dh _ hy)) (λy hy=>h1 y (by grind [bG,EW]));have a0:=h0 n (pD ..);have a1:=h1 (x.n-n) (by grind [bG,EW]);have e:kN (· - ·) (bG (x::L)) (n::xs)=(x.n-n)::kN (· - ·) (bG L) xs:=rfl;have q:∀k:Int,0<=k->jr p (if 0<k then [NL x k] else [])=if p x then k else 0:=λk hk=>by
   by_cases c:0<k
   ·rw [ifP c];simp only [jr];rw [hp x k];grind [NL]
   grind [jr]
  rw [e,Y6,Y6,S6,S6,q n a0,q _ a1];grind [jr]
 | [],_::_,hl,_,_=>by simp at hl
 |_::_,[],hl,_,_=>by simp at hl
theorem a7T:∀(L:List Lg) (xs:List Int),aA xs=aA L->(∀x∈xs,0<=x)->jr (λ_=>aO) (eo L xs)=sumI xs
 | [],[],_,_=>rfl
 |x::L,n::xs,hl,h0=>by have ih:=a7T L xs (by simpa using hl) (λy hy=>h0 y (dh _ hy));have a0:=h0 n (pD ..);rw [Y6,S6,ih];grind [jr,sumI,NL]
 | [],_::_,hl,_=>by simp at hl
 |_::_,[],hl,_=>by simp at hl
theorem a7Q(L:List Lg)(xs:List Int):∀x∈eo L xs,0<=x.n:=by grind [eo]
theorem aJs {L:List Lg}(h:dC L=0):∀k (hk:k<aA L) i (hi:i<aA L),i<k->L[i].m<L[k].m:=by
 obtain⟨_,b,_⟩:=BO h;have step:∀k (hk:k+1<aA L),L[k].m<L[k+1].m:=λk hk=>by grind [Gl,Rf]
 intro k;induction k with
 |zero=>intro _ i _ h;omega
 |succ k ih=>
  grind
theorem a7n {p:Lg->Bool}:∀ {l:List Lg},(∀x∈l,p x=aP)->jr p l=0
 | [],_=>rfl
 |x::l,h=>by simp only [jr];rw [h x (pD ..),a7n λy hy=>h y (dh _ hy)];rfl
theorem aHz {L:List Lg}(h:dC L=0) {m:Int} {k:Nat}(hk:k<aA L)(e:L[k].m=m):jr (pm m) (L.take k)=0:=by
 refine a7n λx hx=> ?_
 obtain⟨i,hi,rfl⟩:=sW.1 hx;rw [uz] at hi;rw [List.getElem_take];have:=aJs h k hk i (by omega) (by omega);grind [pm]
structure aCG(cF:Int)(L:List Lg)(m:Int):Prop where
 g0:∀x∈jf cF L,0<=x.n
 l0:∀x∈jm cF L,0<=x.n
 tg:jr (λ_=>aO) (jf cF L)=min cF (sumI (bG L))
 tl:jr (λ_=>aO) (jm cF L)=sumI (bG L)-min cF (sumI (bG L))
 me:jr (pm m) (jf cF L)+jr (pm m) (jm cF L)=jr (pm m) L
 mz:∀k (hk:k<aA L),L[k].m=m->jr (pm m) (L.take k)=0
 n0:∀x∈L,0<=x.n
 gl:aA (jf cF L)<=aA L
 ll:aA (jm cF L)<=aA L
theorem a8Q {cF:Int} {L:List Lg}(m:Int)(h:jJ cF L=0):aCG cF L m:=by
 obtain⟨QO,jz,K5⟩:=Pj h;have G:=Ek QO;have nB:oM (bG L) (dK cF (bG L))=kN (· - ·) (bG L) (dK cF (bG L)):=by grind [oM,VT]
 have hg:jf cF L=eo L (dK cF (bG L)):=by grind [jf]
 have hk:jm cF L=eo L (kN (· - ·) (bG L) (dK cF (bG L))):=by grind [jm]
 have hlen:aA (dK cF (bG L))=aA L:=by rw [G.len,qh]
 have p1:∀x∈dK cF (bG L),0<=x:=λx hx=>by obtain⟨i,hi,rfl⟩:=sW.1 hx;exact(G.bd i hi (by rw [<-G.len];exact hi)).1
 have p2:∀x∈kN (· - ·) (bG L) (dK cF (bG L)),0<=x:=λx hx=>by obtain⟨i,hi,rfl⟩:=sW.1 hx;rw [ET] at hi;rw [List.getElem_zipWith];have:=G.bd i (by omega) (by omega);omega
 have s1:=Y8 aHr L _ hlen p1 p2;have s2:=Y8 (aHs m) L _ hlen p1 p2;have s3:=a7T L _ hlen p1;rw [G.sum] at s3;rw [<-hg,<-hk] at s1 s2;rw [<-hg] at s3;rw [Ki L] at s1;refine⟨by rw [hg];exact a7Q _ _,by rw [hk];exact a7Q _ _,s3,by omega,s2,λk hk e=>aHz jz hk e,λx hx=> ?_,by grind [Rx],by grind [Rx]⟩;grind [sW,BO,Gl]
section
theorem aFt {D:Dk} {a:Int} {y:Lg}(h:y∈di D a):∃x∈D.ob,x.st=1/\x.az<0/\x.a=a/\hasB D.who x.m=aP/\y=x.claim:=by grind [di,tA,pJ]
theorem xY(a:Int):0<=kR a/\kR a<=288230376151711744:=by grind [kR]
theorem a2L {x:Ob}(h: -kR x.a<=x.az):x.claim.n= -x.az:=by have:=xY x.a;grind [Ob.claim,fJ]
def vN(D:Dk)(a:Int):Int:=sumI (bG (di D a))
theorem a7i(x:Int)(l:List Int):sumI (x::l)=x+sumI l:=rfl
theorem a3g {a:Int} {p:Ob->Bool}:∀(L:List Ob),(∀x∈L,-kR x.a<=x.az)->(∀x∈L,p x=aO->x.st=1/\x.az<0/\x.a=a)->0<=sumI (bG ((L.filter p).map Ob.claim))/\sumI (bG ((L.filter p).map Ob.claim))<=dT (qI a) L
 | [],_,_=>⟨dJ 0,dJ 0⟩
 |x::L,hb,hp=>by
  have ih:=a3g (a:=a) (p:=p) L (λy hy=>hb y (dh _ hy)) (λy hy=>hp y (dh _ hy));have e:dT (qI a) (x::L)=qI a x+dT (qI a) L:=by simp [dT]
  rw [e];by_cases h:p x=aO
  ·rw [List.filter_cons_of_pos h];grind [bG,a7i,a2L,qI]
  grind [qI]
theorem aDt {L:List Lg} {a:Int}(hl:aA L<=1024)(h1:∀x∈L,1<=x.n/\x.a=a)(hp:L.Pairwise (λx y=>x.m<y.m))(hI:aL (sumI (bG L))):dC L=0:=by unfold dC;rw [ifN (by omega),ifN,(eA hI).2];grind [Gl,Un,vB,Rf]
structure a8q(D:Dk)(a:Int):Prop where
 clm:dC (di D a)=0
 bd:0<=vN D a/\vN D a<=kR a
 each:∀y∈di D a,yK D.x y/\y.a=a/\hasB D.who y.m=aP
 up:(di D a).Pairwise (λx y=>x.m<y.m)
 len:aA (di D a)<=16
theorem aw.DJ {C:Int} {g:Nat} {D:Dk}(H:aw C g D)(a:Int):a8q D a:=by
 have ki:∀x∈D.ob,-kR x.a<=x.az:=λx hx=>(H.ob.each x hx).big.1
 have hs:0<=vN D a/\vN D a<=dT (qI a) D.ob:=a3g D.ob ki (λx _ hp=>by grind [tA,pJ]);have jz:=H.ob.cl a;have dE:=xY a;have QR:∀y∈di D a,yK D.x y/\y.a=a/\hasB D.who y.m=aP:=λy hy=>by obtain⟨x,hx,h1,h2,h3,h4,rfl⟩:=aFt hy;have E:=H.ob.each x hx;exact⟨⟨E.m,E.a,by grind [a2L]⟩,h3,h4⟩
 have vh:(di D a).Pairwise (λx y=>x.m<y.m):=by
  unfold di;rw [BG];refine(aMK.1 (H.ob.ord.filter _)).imp ?_;rintro x y ⟨hx,hy,ho⟩;have hx2:=(jD.1 hx).2;have nE:=(jD.1 hy).2;simp only [tA,pJ,jb,beq_iff_eq,decide_eq_true_eq,SV] at hx2 nE;rcases ho (by grind [eZ]) (by grind [eZ]) with h|h
  ·exact h
  omega
 have hlen:aA (di D a)<=16:=by have h:=SN (L:=(di D a).map (·.m)) (k:=aA D.x.ms) (lo:=0) (by grind) (λm hm=>by obtain⟨y,hy,rfl⟩:=dW.1 hm;have:=(QR y hy).1.1;omega);rw [iR] at h;have:=H.hs.ml;omega
 exact⟨aDt (by omega) (λx hx=>⟨(QR x hx).1.2.2,(QR x hx).2.1⟩) vh (show aL (vN D a) by unfold aL;omega),⟨hs.1,by omega⟩,QR,vh,hlen⟩
section
variable {C:Int} {g:Nat} {D:Dk}
theorem aw.a7K(H:aw C g D)(a:Int):jJ (B D 1 0 a) (di D a)=0:=by unfold jJ;rw [ifN (by rw [(H.DJ a).clm];simp),ifN (by have:=(H.house a).1;show¬balA _ _ _ _ _ _<0;omega)]
theorem aw.short(H:aw C g D)(a:Int):jK D a=max (vN D a-B D 1 0 a) 0:=by have hb:=(H.DJ a).bd;have hm:=xY a;unfold jK AV;rw [ifP (H.a7K a)];exact aJ0 (show 0<=vN D a by omega) (H.house a).1 (show aL (vN D a) by unfold aL;omega)
theorem aw.a7h(H:aw C g D)(a:Int):iW (di D a)=vN D a:=by unfold iW;rw [ifP (H.DJ a).clm];rfl
theorem XY {a b:Int}(ha:0<=a)(hb:0<=b)(h:aL a):pS a b=max (a-b) 0:=by grind [pS,aL]
theorem aw.beyond(H:aw C g D):yQ D=max (B D 1 0 0-vN D 0) 0:=by have hb:=(H.DJ 0).bd;have hh:=H.house 0;have ki:=H.bE.big;unfold yQ;rw [H.a7h 0];grind [XY,aL]
end
def tT:List Fi->Int
 | []=>0
 |x::L=>x.q+tT L
def mq:List Fi->Int
 | []=>0
 |x::L=>x.c+mq L
theorem Y0:∀(Bs:List Bd) (la ca:Int),(∀x∈Bs,1<=x.q/\1<=x.p)->0<=la->0<=ca->
 (∀f∈mZ Bs la ca,f.b∈Bs/\1<=f.q/\1<=f.c)/\tT (mZ Bs la ca)<=la/\mq (mZ Bs la ca)<=ca/\aA (mZ Bs la ca)<=aA Bs
 | [],la,ca,_,h1,h2=>⟨by simp [mZ],by grind [mZ,tT],by grind [mZ,mq],by simp [mZ]⟩
 |x::Bs,la,ca,hx,h1,h2=>by
  have hx1:=hx x (by simp);have hr:∀y∈Bs,1<=y.q/\1<=y.p:=λy hy=>hx y (dh _ hy)
  unfold mZ;by_cases h0:la=0
  ·grind [tT,mq]
  rw [ifN h0];have hd:0<=ca/x.p:=Int.ediv_nonneg h2 (by omega);have pL:ca/x.p*x.p<=ca:=Int.ediv_mul_le ca (by omega);have ht:0<=takeN x la ca/\takeN x la ca<=la/\takeN x la ca<=ca/x.p:=by unfold takeN;omega
  by_cases h3:takeN x la ca=0
  ·rw [ifP h3];obtain⟨i1,i2,i3,i4⟩:=Y0 Bs la ca hr h1 h2;grind
  rw [ifN h3];have hmul:takeN x la ca*x.p<=ca:=ju (La ht.2.2 (by omega)) pL;have Qg:1<=takeN x la ca*x.p:=by have h5:1*1<=takeN x la ca*x.p:=Int.mul_le_mul (by omega) hx1.2 (by omega) (by omega);omega
  obtain⟨i1,i2,i3,i4⟩:=Y0 Bs (la-takeN x la ca) (ca-takeN x la ca*x.p) hr (by omega) (by omega);grind [tT,mq]
theorem M8:∀ {L:List Fi},(∀f∈L,1<=f.c)->0<=mq L
 | [],_=>dJ 0
 |x::L,h=>by have:=h x (by simp);have:=M8 (L:=L) (λy hy=>h y (dh _ hy));grind [mq]
theorem Rj:∀ {L:List Fi},(∀f∈L,1<=f.q)->0<=tT L
 | [],_=>dJ 0
 |x::L,h=>by have:=h x (by simp);have:=Rj (L:=L) (λy hy=>h y (dh _ hy));grind [tT]
theorem wrap64_in {n:Int}(h:aL n):fS n=n:=by unfold fS;unfold aL at h;omega
theorem a2V:∀(L:List Fi) (n:Int),(∀f∈L,1<=f.c)->0<=n->n+mq L<=9223372036854775807->L.foldl (λn x=>fS (n+x.c)) n=n+mq L
 | [],n,_,_,_=>by simp [mq]
 |x::L,n,h,h0,hb=>by
  have h1:=h x (by simp);have hr:∀f∈L,1<=f.c:=λy hy=>h y (dh _ hy)
  have hn:=M8 hr;simp only [mq] at hb;rw [Ck,wrap64_in (by unfold aL;omega),a2V L (n+x.c) hr (by omega) (by omega)];grind [mq]
theorem aEP {L:List Fi}(h:∀f∈L,1<=f.c)(hb:mq L<=9223372036854775807):rS L=mq L:=by grind [rS,a2V]
theorem aLZ {M A:Nat} {l:List Int} {h:List Hr} {es:List En}(hlen:aA l=A*(6+3*M))(hc:xt M A l es)(hf:∀k m a,tH k=aP->fA es (k,m,a)<0->0<=balA M A l k m a+fA es (k,m,a)/\iL h k m a<=balA M A l k m a+fA es (k,m,a)):lV M A l h es=0:=by
 have hb:nT M A l es=0:=by unfold nT;rw [ifN (by rw [a2G hc];simp),ifN];intro ha;obtain⟨c,hc1,hc2⟩:=jv.1 ha;obtain⟨⟨k,m,a⟩,hq,rfl⟩:=dW.1 hc1;grind [rU,jx,kf]
 unfold lV;rw [ifN (by rw [hb];simp),ifN];intro ha;obtain⟨x,hx,hx2⟩:=jv.1 ha;unfold s8 at hx2;simp only [jb,decide_eq_true_eq,SV] at hx2;obtain⟨⟨a1,a2⟩,a3⟩:=hx2;obtain⟨i,hi⟩:=hc.NY x hx;have e:=KU hlen hc (q:=x.spot) hi;have e2:kf M A l x.spot=balA M A l x.k x.m x.a:=rfl;have e3:fA es x.spot=fA es (x.k,x.m,x.a):=rfl;grind
theorem a6Y {M A:Nat} {l:List Int} {es:List En}(hlen:aA l=A*(6+3*M))(hc:xt M A l es)(k m a:Int):balA M A (kD M A l es) k m a=balA M A l k m a+fA es (k,m,a):=by
 cases hp:plcA M A k m a with
 |some z=>exact KU hlen hc (q:=(k,m,a)) hp
 |none=>
  rw [Gm hp,Gm hp,YL]
  ·rfl
  intro hq;obtain⟨n,hn⟩:=hc.spot _ hq;have:plcA M A k m a=aC n:=hn;grind
theorem aL0(s:Int)(x:Fi)(k m a:Int):fA (fP s x) (k,m,a)=(if k=7/\m=x.b.m/\a=s then-x.q else 0)+(if k=1/\m=0/\a=s then x.q else 0)+(if k=1/\m=0/\a=0 then-x.c else 0)+(if k=7/\m=x.b.m/\a=0 then x.c else 0):=by have e:fP s x=((([]++ [⟨7,x.b.m,s,-x.q⟩])++ [⟨1,0,s,x.q⟩])++ [⟨1,0,0,-x.c⟩])++ [⟨7,x.b.m,0,x.c⟩]:=rfl;rw [e,Im,Im,Im,Im];have:fA [] (k,m,a)=0:=rfl;grind [En.spot,P9]
theorem aDG(s:Int)(x:Fi)(i:Nat):sumI (gq (fP s x) i)=0:=by grind [gq,fP,sumI]
theorem aw.fill {C:Int} {g:Nat} {D:Dk}(H:aw C g D) {s:Int} {x:Fi}(hs:1<=s/\s<=(aA D.x.ss:Int))(hm:1<=x.b.m/\x.b.m<=(aA D.x.ms:Int))(hq:1<=x.q/\x.q<=274877906944)(hc:1<=x.c)(h2:x.c<=B D 1 0 0)(hC:C+2*x.q<=4611686018427387904+1125899906842624):
 aw (C+2*x.q) (g+2) (Hg s D x)/\Sm D (Hg s D x)/\∀k m b,B (Hg s D x) k m b=B D k m b+((if k=7/\m=x.b.m/\b=s then-x.q else 0)+(if k=1/\m=0/\b=s then x.q else 0)+(if k=1/\m=0/\b=0 then-x.c else 0)+(if k=7/\m=x.b.m/\b=0 then x.c else 0)):=by
 have zu:=H.house 0;have W9:=H.house s;have ho0:=H.own x.b.m 0;have We:=H.own x.b.m s;have uR:x.c<=balA (aA D.x.ms) (aA D.x.ss+1) D.l 1 0 0:=h2;have jl:=aL0 s x;obtain⟨i1,p1⟩:=Br (M:=aA D.x.ms) (A:=aA D.x.ss+1) (k:=7) (.inl rfl) hm (a:=s) (by omega) (by omega);obtain⟨i2,p2⟩:=Na (M:=aA D.x.ms) (A:=aA D.x.ss+1) (a:=s) (by omega) (by omega);obtain⟨i3,p3⟩:=Na (M:=aA D.x.ms) (A:=aA D.x.ss+1) (a:=0) (by omega) (by omega);obtain⟨i4,p4⟩:=Br (M:=aA D.x.ms) (A:=aA D.x.ss+1) (k:=7) (.inl rfl) hm (a:=0) (by omega) (by omega);have v1:fA (fP s x) (7,x.b.m,s)= -x.q:=by rw [jl,ifP ⟨rfl,rfl,rfl⟩,ifN (by omega),ifN (by omega),ifN (by omega)];omega
 have v2:fA (fP s x) (1,0,s)=x.q:=by rw [jl,ifN (by omega),ifP ⟨rfl,rfl,rfl⟩,ifN (by omega),ifN (by omega)];omega
 have v3:fA (fP s x) (1,0,0)= -x.c:=by rw [jl,ifN (by omega),ifN (by omega),ifP ⟨rfl,rfl,rfl⟩,ifN (by omega)];omega
 have v4:fA (fP s x) (7,x.b.m,0)=x.c:=by rw [jl,ifN (by omega),ifN (by omega),ifN (by omega),ifP ⟨rfl,rfl,rfl⟩];omega
 have nX:xt (aA D.x.ms) (aA D.x.ss+1) D.l (fP s x):=by
  refine⟨by simp [fP], ?_,λi _=>aDG s x i, ?_⟩
  ·intro y hy;simp only [fP,fC,List.not_mem_nil,or_false] at hy;rcases hy with rfl|rfl|rfl|rfl
   ·exact⟨i1,p1⟩
   ·exact⟨i2,p2⟩
   ·exact⟨i3,p3⟩
   exact⟨i4,p4⟩
  rintro⟨k,m,a⟩ kp;obtain⟨y,hy,e⟩:=KT.1 kp;have e2:kf (aA D.x.ms) (aA D.x.ss+1) D.l (k,m,a)=balA (aA D.x.ms) (aA D.x.ss+1) D.l k m a:=rfl;rw [e2];simp only [fP,fC,List.not_mem_nil,or_false] at hy;rcases hy with rfl|rfl|rfl|rfl
  ·simp only [En.spot,P9] at e;obtain⟨rfl,rfl,rfl⟩:=e;rw [v1];unfold aL;omega
  ·simp only [En.spot,P9] at e;obtain⟨rfl,rfl,rfl⟩:=e;rw [v2];unfold aL;omega
  ·simp only [En.spot,P9] at e;obtain⟨rfl,rfl,rfl⟩:=e;rw [v3];unfold aL;omega
  simp only [En.spot,P9] at e;obtain⟨rfl,rfl,rfl⟩:=e;rw [v4];unfold aL;omega
 have hv:lV (aA D.x.ms) (aA D.x.ss+1) D.l D.h (fP s x)=0:=aLZ H.bE.ok.len nX (by
  intro k m a DR KD;rw [jl] at KD ⊢;have F3:k≠7:=by rintro rfl;cases DR
  rw [ifN (by omega),ifN (by omega:¬(k=7/\m=x.b.m/\a=0))] at KD ⊢;have hk:k=1/\m=0/\a=0:=by
   by_cases h:k=1/\m=0/\a=0
   ·exact h
   rw [ifN h] at KD;split at KD<;>omega
  obtain⟨rfl,rfl,rfl⟩:=hk;rw [Vu H.h8 (by decide),ifN (by omega),ifP ⟨rfl,rfl,rfl⟩];omega)
 have hd:=a6Y H.bE.ok.len nX;have dR:nN (aA D.x.ms) (aA D.x.ss+1) (kD (aA D.x.ms) (aA D.x.ss+1) D.l (fP s x)):=nN.post H.bE.ok (by have:=H.hs.sl;omega) hv;have el:eK D (fP s x)=kD (aA D.x.ms) (aA D.x.ss+1) D.l (fP s x):=by unfold eK;rw [ifP hv]
 have BV:∀k m b,balA (aA D.x.ms) (aA D.x.ss+1) (eK D (fP s x)) k m b=balA (aA D.x.ms) (aA D.x.ss+1) D.l k m b+((if k=7/\m=x.b.m/\b=s then-x.q else 0)+(if k=1/\m=0/\b=s then x.q else 0)+(if k=1/\m=0/\b=0 then-x.c else 0)+(if k=7/\m=x.b.m/\b=0 then x.c else 0)):=by intro k m b;rw [el,hd,jl]
 rw [<-el] at dR;have k7:∀m b,balA (aA D.x.ms) (aA D.x.ss+1) (eK D (fP s x)) 7 m b=balA (aA D.x.ms) (aA D.x.ss+1) D.l 7 m b+((if m=x.b.m/\b=s then-x.q else 0)+(if m=x.b.m/\b=0 then x.c else 0)):=by intro m b;rw [BV];simp
 have k8:∀m b,balA (aA D.x.ms) (aA D.x.ss+1) (eK D (fP s x)) 8 m b=balA (aA D.x.ms) (aA D.x.ss+1) D.l 8 m b:=by intro m b;rw [BV];simp
 have k9:∀m b,balA (aA D.x.ms) (aA D.x.ss+1) (eK D (fP s x)) 9 m b=balA (aA D.x.ms) (aA D.x.ss+1) D.l 9 m b:=by intro m b;rw [BV];simp
 have k3:∀b,balA (aA D.x.ms) (aA D.x.ss+1) (eK D (fP s x)) 3 0 b=balA (aA D.x.ms) (aA D.x.ss+1) D.l 3 0 b:=by intro b;rw [BV];simp
 have k4:∀b,balA (aA D.x.ms) (aA D.x.ss+1) (eK D (fP s x)) 4 0 b=balA (aA D.x.ms) (aA D.x.ss+1) D.l 4 0 b:=by intro b;rw [BV];simp
 have k2:∀b,balA (aA D.x.ms) (aA D.x.ss+1) (eK D (fP s x)) 2 0 b=balA (aA D.x.ms) (aA D.x.ss+1) D.l 2 0 b:=by intro b;rw [BV];simp
 have k1:∀b,balA (aA D.x.ms) (aA D.x.ss+1) (eK D (fP s x)) 1 0 b=balA (aA D.x.ms) (aA D.x.ss+1) D.l 1 0 b+((if b=s then x.q else 0)+(if b=0 then-x.c else 0)):=by intro b;rw [BV];simp
 have oK:∀b,mr (D.log++ [⟨12,x.b.m,s,x.q,x.b.s⟩]) b=balA (aA D.x.ms) (aA D.x.ss+1) D.l 1 0 b+if s=b then x.q else 0:=by intro b;rw [DG,DI,H.fl b,show yU ⟨12,x.b.m,s,x.q,x.b.s⟩=x.q from rfl]
 have hl2:∀b,mr ((D.log++ [⟨12,x.b.m,s,x.q,x.b.s⟩])++ [⟨19,x.b.m,0,x.c,x.b.s⟩]) b=balA (aA D.x.ms) (aA D.x.ss+1) (eK D (fP s x)) 1 0 b:=by
  intro b;rw [DG,DI,oK,k1,show yU ⟨19,x.b.m,0,x.c,x.b.s⟩= -x.c from rfl];repeat' split
  all_goals (simp only at*;omega)
 have eg:D.log++ [Ev.mk 12 x.b.m s x.q x.b.s,Ev.mk 19 x.b.m 0 x.c x.b.s]=(D.log++ [Ev.mk 12 x.b.m s x.q x.b.s])++ [Ev.mk 19 x.b.m 0 x.c x.b.s]:=by simp
 refine⟨⟨H.hs,⟨dR, ?_, ?_, ?_, ?_, ?_, ?_, ?_,hC,H.bE.F0⟩,H.h8,H.hl, ?_, ?_, ?_,H.who,H.ob,H.bx,H.bl,H.st,H.ai⟩,⟨rfl,rfl,rfl,rfl,rfl,rfl,rfl,rfl,_,rfl,by simp⟩,BV⟩
 ·intro m b;exact ju (rO (k8 m b)) (H.bE.tD m b)
 ·intro m b;exact ju (rO (k9 m b)) (H.bE.zm m b)
 ·intro b;exact ju (rO (k3 b)) (H.bE.AK b)
 ·intro b;exact ju (rO (k4 b)) (H.bE.cap b)
 ·intro m b;show _<=balA (aA D.x.ms) (aA D.x.ss+1) (eK D (fP s x)) 7 m b+balA (aA D.x.ms) (aA D.x.ss+1) (eK D (fP s x)) 8 m b-balA (aA D.x.ms) (aA D.x.ss+1) (eK D (fP s x)) 1 0 b;rw [k7,k8,k1];have:=H.bE.lo m b;repeat' split
  all_goals omega
 ·intro m b;show balA (aA D.x.ms) (aA D.x.ss+1) (eK D (fP s x)) 7 m b+balA (aA D.x.ms) (aA D.x.ss+1) (eK D (fP s x)) 8 m b+balA (aA D.x.ms) (aA D.x.ss+1) (eK D (fP s x)) 1 0 b<=_;rw [k7,k8,k1];have:=H.bE.hi m b;repeat' split
  all_goals omega
 ·intro b;show balA (aA D.x.ms) (aA D.x.ss+1) (eK D (fP s x)) 2 0 b+balA (aA D.x.ms) (aA D.x.ss+1) (eK D (fP s x)) 1 0 b<=_;rw [k2,k1];have:=H.bE.es b;repeat' split
  all_goals omega
 ·intro b;show mr (D.log++ [Ev.mk 12 x.b.m s x.q x.b.s,Ev.mk 19 x.b.m 0 x.c x.b.s]) b=_;rw [eg];exact hl2 b
 ·show Lf _ (D.log++ [Ev.mk 12 x.b.m s x.q x.b.s,Ev.mk 19 x.b.m 0 x.c x.b.s]);rw [eg];refine(H.lg.snoc ⟨by show (0:Int)<=s;omega,hs.2,.inl hq.1⟩ (λb=> ?_)).snoc ⟨by show (0:Int)<=0;omega,by show (0:Int)<=_;omega,.inl hc⟩ (λb=> ?_)
  ·rw [oK];have:=H.house b;split<;>omega
  rw [hl2];refine⟨dR.nn rfl 0 b, ?_⟩;rw [k1];have:=H.house b;repeat' split
  all_goals omega
 show aA (D.log++ [Ev.mk 12 x.b.m s x.q x.b.s,Ev.mk 19 x.b.m 0 x.c x.b.s])<=g+2;rw [cN];have:=H.gl;simp;omega
end
theorem a5g:∀ {L:List Fi} {f:Fi},(∀f∈L,1<=f.q)->f∈L->f.q<=tT L
 |x::L,f,h,hf=>by
  have h1:=h x (by simp);have hr:∀y∈L,1<=y.q:=λy hy=>h y (dh _ hy)
  have hn:=Rj hr;simp only [tT];rcases fC.1 hf with rfl|hf
  ·omega
  have:=a5g hr hf;omega
theorem a5b:∀ {L:List Fi} {f:Fi},(∀f∈L,1<=f.c)->f∈L->f.c<=mq L
 |x::L,f,h,hf=>by
  have h1:=h x (by simp);have hr:∀y∈L,1<=y.c:=λy hy=>h y (dh _ hy)
  have hn:=M8 hr;simp only [mq];rcases fC.1 hf with rfl|hf
  ·omega
  have:=a5b hr hf;omega
theorem aw.a3K {s:Int}:∀(L:List Fi) {C:Int} {g:Nat} {D:Dk},aw C g D->(1<=s/\s<=(aA D.x.ss:Int))->(∀f∈L,(1<=f.b.m/\f.b.m<=(aA D.x.ms:Int))/\(1<=f.q/\f.q<=274877906944)/\1<=f.c)->mq L<=B D 1 0 0->C+2*tT L<=4611686018427387904+1125899906842624->
 (∀k,k<=aA L->aw (C+2*tT L) (g+2*k) (tG s D (L.take k)))/\Sm D (tG s D L)/\(∀k m b,k≠1->k≠7->B (tG s D L) k m b=B D k m b)/\B (tG s D L) 1 0 0=B D 1 0 0-mq L
 | [],C,g,D,H,_,_,_,hC=>by grind [tT,Sm.refl,mq,tG]
 |x::L,C,g,D,H,hs,hx,hc,hC=>by
  have h1:=hx x (by simp);have hr:∀f∈L,(1<=f.b.m/\f.b.m<=(aA D.x.ms:Int))/\(1<=f.q/\f.q<=274877906944)/\1<=f.c:=λy hy=>hx y (dh _ hy)
  have hq:=Rj (L:=L) (λf hf=>(hr f hf).2.1.1);have hcn:=M8 (L:=L) (λf hf=>(hr f hf).2.2);simp only [tT] at hC ⊢;simp only [mq] at hc ⊢;obtain⟨G,S,K⟩:=H.fill hs h1.1 h1.2.1 h1.2.2 (by omega) (by omega);have h0:B (Hg s D x) 1 0 0=B D 1 0 0-x.c:=by grind
  obtain⟨G2,S2,K2,H2⟩:=aw.a3K L G hs hr (by omega) (by omega);refine⟨?_,S.trans S2, ?_, ?_⟩
  ·intro k hk;cases k with
   |zero=>exact H.wide (by omega) (by omega) (by omega)
   |succ k=>
    have:=G2 k (by simpa using hk);rw [show g+2*(k+1)=g+2+2*k by omega,show C+2*(x.q+tT L)=C+2*x.q+2*tT L by omega];exact this
  ·intro k m b e1 e7;refine(K2 k m b e1 e7).trans ((K k m b).trans ?_);grind
  refine H2.trans ?_;rw [h0];omega
theorem aD8 {D:Dk} {s:Int} {Bs:List Bd}(h:Fh D s Bs):aA Bs<=aA D.bx/\∀x∈Bs,x∈D.bx:=by
 obtain⟨is,ho,rfl⟩:=h;have hl:aA is=aA (qP D.bx s):=by rw [ho.len,iR]
 have hf:aA (qP D.bx s)<=aA D.bx:=qd _ _;refine⟨by grind,λx hx=> ?_⟩;obtain⟨i,hi,rfl⟩:=dW.1 hx;have hlt:=ho.lt i hi;rw [iR] at hlt;rw [sV,iD hlt];exact(jD.1 (cK hlt)).1
def jZ:Int:=140737488355328+549755813888
theorem aw.a1u {C:Int} {g:Nat} {D:Dk}(H:aw C g D)(hh:D.h= []) {s:Int}(hs:1<=s/\s<=(aA D.x.ss:Int)) {Bs:List Bd}(hB:Fh D s Bs)(hC:C+jZ<=4611686018427387904+1125899906842624)(hg:g+114<=90000):
 Yl D s Bs/\aw (C+jZ) (g+114) (Jm D s Bs)/\Sm D (Jm D s Bs):=by
 obtain⟨hBl,hBm⟩:=aD8 hB;have hbl:=H.bl;have MR:∀x∈Bs,Yi D.x x:=λx hx=>H.bx x (hBm x hx)
 have hgd:=H.DJ s;have hg0:=(H.DJ 0).bd;have rr:=H.short s;have W9:=H.house s;have zu:=H.house 0;have kh:=H.beyond;have hrm:=H.room;have dE:kR s=274877906944:=by grind [kR]
 have ki:=H.bE.big;have hgb:=hgd.bd;have hB0:B D 1 0 s=balA (aA D.x.ms) (aA D.x.ss+1) D.l 1 0 s:=rfl;have VY:B D 1 0 0=balA (aA D.x.ms) (aA D.x.ss+1) D.l 1 0 0:=rfl;have qp:yR D=yQ D+mD D:=rfl;have a4O:0<=jK D s/\jK D s<=274877906944:=by rw [rr];omega
 have a4G:0<=yR D/\yR D<=C+37383395344384:=by rw [qp,kh];omega
 obtain⟨R1,R2,R3,R4⟩:=Y0 Bs (jK D s) (yR D) (λx hx=>⟨(MR x hx).2.2.1.1,(MR x hx).2.2.2.1.1⟩) a4O.1 a4G.1;have Je:∀f∈mn D s Bs,f.b∈Bs/\1<=f.q/\1<=f.c:=R1;have R2':tT (mn D s Bs)<=jK D s:=R2;have R3':mq (mn D s Bs)<=yR D:=R3;have R4':aA (mn D s Bs)<=aA Bs:=R4;have hcs:rS (mn D s Bs)=mq (mn D s Bs):=aEP (λf hf=>(Je f hf).2.2) (by omega);have hcn:=M8 (L:=mn D s Bs) (λf hf=>(Je f hf).2.2);have hqn:=Rj (L:=mn D s Bs) (λf hf=>(Je f hf).2.1);have tM:aL (pH D s Bs):=by grind [pH,aL]
 have W:=H.drawn hh tM (by grind [jZ]);have MS:=W.steps _ (aZ _);rw [cT] at MS;have K3:aw (C+140737488355328) (g+50) (lq D (pH D s Bs)):=MS.wide (dJ _) (by grind [jZ]) (by have:=W.len;omega);have hx1:(lq D (pH D s Bs)).x=D.x:=W.sm.x;have aGS:mq (mn D s Bs)<=B (lq D (pH D s Bs)) 1 0 0:=by have:=W.house;grind [pH]
 have hfi:∀f∈mn D s Bs,(1<=f.b.m/\f.b.m<=((lq D (pH D s Bs)).x.ms.length:Int))/\(1<=f.q/\f.q<=274877906944)/\1<=f.c:=λf hf=>by obtain⟨a1,a2,a3⟩:=Je f hf;have hq:=a5g (λf hf=>(Je f hf).2.1) hf;rw [hx1];exact⟨(MR f.b a1).1,⟨a2,by omega⟩,a3⟩
 obtain⟨G,S,K,HH⟩:=aw.a3K (mn D s Bs) K3 (by rw [hx1];exact hs) hfi aGS (by grind [jZ]);have vX:=G _ (aZ _);rw [cT] at vX;have QW:aw (C+jZ) (g+114) (Jm D s Bs):=vX.wide (by unfold jZ;omega) hC (by omega);refine⟨⟨?_, ?_, ?_,tM, ?_,W.dI,by have:=W.len;omega, ?_, ?_,by omega⟩,QW,W.sm.trans S⟩
 ·grind [aL]
 ·unfold uJ;rw [ifN (by omega),ifN];rintro (h|h|h)
  ·omega
  ·omega
  obtain⟨x,hx,hb⟩:=jv.1 h;have:=MR x hx;unfold rR at hb;rw [decide_eq_false (by have:=this.2.2.1;omega),decide_eq_false (by have:=this.2.2.2.1;omega)] at hb;cases hb
 ·intro x hx;have:=MR x hx;have h1:=this.2.2.1;have h2:=this.2.2.2.1;unfold aL;omega
 ·intro k hk;exact(W.steps k hk).ok (by have:=W.len;omega)
 ·intro k hk;exact(G k hk).ok (by omega)
 intro f hf;have h1:=hfi f hf;rw [hx1] at h1;have hm:=H.hs.ml;have hc:=a5b (λf hf=>(Je f hf).2.2) hf;grind [aL]
theorem aw.aDD {C:Int} {g:Nat} {D:Dk}(H:aw C g D)(hh:D.h= []) {s:Int}(hs:1<=s/\s<=(aA D.x.ss:Int))(hC:C+jZ<=4611686018427387904+1125899906842624)(hg:g+114<=90000):SY D s:=by
 have ij:=H.hs.ml;have jk:=H.hs.sl;have W9:=H.house s;have zu:=H.house 0;have ki:=H.bE.big;refine⟨H.ok (by omega),by unfold aL;omega,by unfold aL;omega,by unfold aL;omega,by omega,λm hm=> ?_,λd hd=> ?_,λ_ Bs hB=>(H.a1u hh hs hB hC hg).1⟩
 ·have:=H.who.pP m hm;unfold aL;omega
 exact(H.bx d hd).2.2.2.2
theorem aw.aDE {C:Int} {g:Nat} {D D':Dk}(H:aw C g D)(hh:D.h= []) {s:Int}(hs:1<=s/\s<=(aA D.x.ss:Int))(hC:C+jZ<=4611686018427387904+1125899906842624)(hg:g+114<=90000)(hR:Iy D s D'):aw (C+jZ) (g+114) D'/\Sm D D':=by
 rcases hR with⟨_,rfl⟩|⟨_,Bs,hB,rfl⟩
 ·exact⟨H.wide (by unfold jZ;omega) hC (by omega),Sm.refl _⟩
 exact(H.a1u hh hs hB hC hg).2
theorem aw.Pa {C:Int} {g:Nat} {D:Dk}(H:aw C g D)(hh:D.h= [])(hC:C+8*jZ<=4611686018427387904+1125899906842624)(hg:g+114*8<=90000) {n:Nat} {E:Dk}(hR:wG D n E):n<=aA D.x.ss->aw (C+(n:Int)*jZ) (g+114*n) E/\Sm D E:=by
 have jk:=H.hs.sl;induction hR with
 |zero=>grind [Sm.refl]
 |succ hB hR ih=>
  rename_i n E E';intro hn;obtain⟨G,S⟩:=ih (by omega);have hc1:C+(n:Int)*jZ+jZ<=4611686018427387904+1125899906842624:=by grind [jZ]
  obtain⟨G',S'⟩:=G.aDE (S.h.trans hh) (s:=(n:Int)+1) (by rw [S.x];omega) hc1 (by omega) hR;refine⟨?_,S.trans S'⟩;grind
theorem Y7 {z:Lg}:∀ {L:List Lg} {xs:List Int},z∈eo L xs->0<z.n/\∃y∈L,z.m=y.m/\z.a=y.a
 | [],xs,h=>by simp [eo] at h
 |y::L,[],h=>by simp [eo] at h
 |y::L,n::xs,h=>by
  rw [Rg] at h;rcases gJ.1 h with h|h
  ·grind
  obtain⟨h1,y',hy',h2⟩:=Y7 h;grind
theorem aFm {c:Int} {L:List Lg} {z:Lg}(h:z∈jf c L):0<z.n/\∃y∈L,z.m=y.m/\z.a=y.a:=by
 unfold jf at h;split at h
 ·exact Y7 h
 cases h
theorem aHP {c:Int} {L:List Lg} {z:Lg}(h:z∈jm c L):0<z.n/\∃y∈L,z.m=y.m/\z.a=y.a:=by
 unfold jm at h;split at h
 ·exact Y7 h
 cases h
theorem a1k {a a0:Int}:∀ {L:List Lg},(∀x∈L,x.a=a0)->oB a L=if a=a0 then sumI (bG L) else 0
 | [],_=>by split<;>rfl
 |x::L,h=>by have h1:=h x (by simp);have ih:=a1k (a:=a) (a0:=a0) (L:=L) (λy hy=>h y (dh _ hy));grind [oB,sumI,bG]
theorem a1e:∀ {L:List Lg},(∀x∈L,1<=x.n)->0<=sumI (bG L)
 | [],_=>dJ 0
 |x::L,h=>by have h1:=h x (by simp);have:=a1e (L:=L) (λy hy=>h y (dh _ hy));grind [sumI,bG]
theorem a5a:∀ {L:List Lg} {z:Lg},(∀x∈L,1<=x.n)->z∈L->z.n<=sumI (bG L)
 |x::L,z,h,hz=>by
  have h1:=h x (by simp);have hr:∀y∈L,1<=y.n:=λy hy=>h y (dh _ hy)
  have hn:=a1e hr;have e:sumI (bG (x::L))=x.n+sumI (bG L):=rfl;rcases fC.1 hz with rfl|hz
  ·omega
  have:=a5a hr hz;omega
structure Split(c:Int)(L:List Lg)(a0:Int):Prop where
 g:∀z∈jf c L,1<=z.n/\z.a=a0/\∃y∈L,z.m=y.m
 k:∀z∈jm c L,1<=z.n/\z.a=a0/\∃y∈L,z.m=y.m
 sum:∀a,oB a (jf c L)=if a=a0 then min c (sumI (bG L)) else 0
 gl:aA (jf c L)<=aA L
 kl:aA (jm c L)<=aA L
 em:jm c L= []↔sumI (bG L)<=c
 kn:∀z∈jm c L,z.n<=sumI (bG L)
theorem a7b {c:Int} {L:List Lg} {a0:Int}(h:jJ c L=0)(ha:∀y∈L,y.a=a0):Split c L a0:=by
 have W:=a8Q 0 h;have P:=aJB 0 h;have hg:∀z∈jf c L,1<=z.n/\z.a=a0/\∃y∈L,z.m=y.m:=λz hz=>by obtain⟨h1,y,hy,e1,e2⟩:=aFm hz;grind
 have hk:∀z∈jm c L,1<=z.n/\z.a=a0/\∃y∈L,z.m=y.m:=λz hz=>by grind [aHP]
 have hS:0<=sumI (bG L):=by
  have:=YH (λ_=>aO) L W.n0
  rwa [Ki] at this
 refine⟨hg,hk,λa=> ?_,W.gl,W.ll,P.em,λz hz=> ?_⟩
 rotate_left
 ·have h1:=a5a (λx hx=>(hk x hx).1) hz;have h2:=W.tl;rw [Ki] at h2;have:=(Pj h).2.2;omega
 rw [a1k (λx hx=>(hg x hx).2.1),<-Ki,W.tg]
theorem aG5 {C:Int} {g:Nat} {D:Dk}(H:aw C g D) {s:Int}(hs:1<=s/\s<=(aA D.x.ss:Int))(hg:g+32<=90000):
 Oq D s/\aw C (g+32) (Es D s)/\Sm D (Es D s)/\(∀k m b,k≠1->k≠7->B (Es D s) k m b=B D k m b)/\(∀y∈oI D s,yK D.x y/\y.a=s/\aL y.n)/\aA (oI D s)<=16/\(∀y∈jU D s,1<=y.n)/\aA (jU D s)<=16:=by
 have G:=H.DJ s;have P:=a7b (H.a7K s) (λy hy=>(G.each y hy).2.1);have ij:=H.hs.ml;have jk:=H.hs.sl;have ki:=H.bE.big;have W9:=H.house s;have Eo:∀z∈jU D s,yK D.x z/\z.a=s:=λz hz=>by obtain⟨h1,h2,y,hy,e⟩:=P.g z hz;have:=(G.each y hy).1;exact⟨⟨by rw [e];exact this.1,by rw [h2];omega,h1⟩,h2⟩
 have K4:∀z∈oI D s,yK D.x z/\z.a=s/\aL z.n:=λz hz=>by obtain⟨h1,h2,y,hy,e⟩:=P.k z hz;have:=(G.each y hy).1;have hn:z.n<=vN D s:=P.kn z hz;have hb:=G.bd;have hm:=xY s;exact⟨⟨by rw [e];exact this.1,by rw [h2];omega,h1⟩,h2,by unfold aL;omega⟩
 have kA:aA (jU D s)<=16:=bz P.gl G.len;have eF:aA (oI D s)<=16:=bz P.kl G.len;have jl:∀a,oB a (jU D s)<=B D 1 0 a:=λa=>by
  have e:oB a (jU D s)=if a=s then min (B D 1 0 s) (vN D s) else 0:=P.sum a
  rw [e];split
  ·grind
  exact(H.house a).1
 obtain⟨G1,S1,K1,_⟩:=aw.gives (jU D s) H (λx hx=>(Eo x hx).1) jl;have vX:=G1 _ (aZ _);rw [cT] at vX;have Ml:aw C (g+16) (iw D (jU D s)):=vX.wide (dJ _) ki (by omega);have hE:=aw.Pw (kd:=14) (.inr (.inl rfl)) (oI D s) Ml (λx hx=>by rw [S1.x];exact⟨(K4 x hx).1.2.1,.inl (K4 x hx).1.2.2⟩);refine⟨⟨by unfold aL;omega,λk hk=>(G1 k hk).ok (by omega),λx hx=> ?_,by omega,by have:=Ml.gl;omega,by omega⟩,hE.wide (dJ _) ki (by omega),S1.trans (a2z _ (by decide) _), ?_,K4,eF,λy hy=>(Eo y hy).1.2.2,kA⟩
 ·have h:=(Eo x hx).1;have lz:x.n<=B D 1 0 s:=by
   have e:oB s (jU D s)=min (B D 1 0 s) (vN D s):=by
    have:=P.sum s
    rwa [ifP rfl] at this
   have:∀ {L:List Lg},(∀y∈L,1<=y.n/\y.a=s)->x∈L->x.n<=oB s L:=by
    intro L;induction L with
    |nil=>intro _ h;cases h
    |cons y L ih=>
     intro hh hx;have h0:=PW (a:=s) (L:=L) (λz hz=>(hh z (dh _ hz)).1);have h1:=hh y (by simp);simp only [oB];rw [ifP h1.2];rcases fC.1 hx with rfl|hx
     ·omega
     have:=ih (λz hz=>hh z (dh _ hz)) hx;omega
   have:=this (λy hy=>⟨(Eo y hy).1.2.2,(Eo y hy).2⟩) hx;omega
  have h1:=h.1;have h2:=h.2.1;have h3:=h.2.2;grind [aL]
 intro k m b e1 e7;exact K1 k m b e1 e7
end Go.Proofs.YtdokipdchlcmeaaGreat
