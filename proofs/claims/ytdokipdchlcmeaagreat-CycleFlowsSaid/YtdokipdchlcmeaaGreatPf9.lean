/-
  Several texts in one, for one claim (printed by pack.py).
-/
import Derived.Test.YtdokipdchlcmeaaGreatPf8
set_option linter.all false
set_option maxRecDepth 100000
set_option maxHeartbeats 12800000
open And renaming intro→kh
open Array renaming getElem?_eq_some_iff→fY,replicate→jh
open Bool renaming true→aO,false→aP,and_eq_true→ji,not_eq_true'→Sw
open Go renaming World→aJ,Value→aN,Calls→aQ,Addr→ai,cell_of_row→bH,maxLen→bO,TypeId→bZ,heap_alloc_new→cQ,info_parts→dP,wpList_append_own→jC
open Go.Calls renaming mono→uD
open Go.Ending renaming returned→aT
open Go.Instr renaming makeSlice→PB
open Go.IntKind renaming i64→aF
open Go.IntWalk renaming i64_in→sr
open Go.Obj renaming cells→aK
open Go.Proofs renaming intOf→ag
open Go.Proofs.Tryz renaming prog→aM,underlying39→tG,func29→aB8,ntmps29→aBt
open Go.RowKit renaming Below→aa,wrap64→fV
open Go.RowKit.Below renaming refl→aX,size→gX,trans→kB,heap_setCell→nR
open Go.Value renaming int→aG,slice→aH,tuple→bC,pointer→bD,bool→bK,agg→bP,ownBlock→eF
open Go.World renaming ownsRow_nil→gG,cell?_of_block→gu,frozen?→iO
open Int renaming le_refl→dM,le_trans→kD,le_of_eq→rX,mul_le_mul_of_nonneg_right→M3
open List renaming length→aA,getElem_mem→cK,length_append→cN,take_length→cU,range→dQ,map_append→dh,mem_map→di,mem_cons_of_mem→dx,mem_cons→fG,take_succ_eq_append_getElem→fH,mem_append→gN,replicate→gP,getElem?_eq_getElem→iG,length_map→iX,mem_filter→jG,any_eq_true→kE,zipWith→kV,pairwise_cons→kp,eq_nil_of_length_eq_zero→nU,mem_cons_self→pG,length_filter_le→qo,getD_eq_getElem?_getD→tC,mem_iff_getElem→tD,length_take→vN,mem_append_left→vP,pairwise_iff_getElem→vQ,length_set→xD,map_cons→yS,pairwise_map→BO,foldl_cons→D3,sum_append→D6,length_zipWith→Ei,sum_cons→Ej,zipWith_cons_cons→Ek,ext_getElem→Gf,mem_append_right→Gh,map_congr_left→Jv,pairwise_append→M6,concat_eq_append→PE,eq_nil_or_concat→PF,getElem_replicate→PG,contains_iff_mem→UQ,getElem_set_ne→a0I,getElem_set_self→a0J,take_append_of_le_length→a0M,flatten_append→aA3
open List.Pairwise renaming and_mem→aMU
open Nat renaming le_refl→aZ,zero_le→bM,le_trans→bz,lt_of_lt_of_le→cL
open Option renaming none→aB,some→aC,getD_some→PM
open Option.some renaming inj→pH
open Prod.mk renaming injEq→PS
namespace Go.Proofs.YtdokipdchlcmeaaGreat
open Go.Proofs.Tryz Go.RowKit
def xJ(D:Dk)(d:Bd):Int:=if D.st≠2 then 11 else if nY D.x d≠0 then nY D.x d else if hasB D.who d.m=aO then 14 else if jP D d.c=0 then 8 else xG D.x D.bx d
def Pw(D:Dk)(d:Bd):Dk:= {D with bx:=D.bx++ [{d with s:=(aA D.bx:Int)+1}],log:=D.log++ [⟨11,d.m,d.c,d.q,(aA D.bx:Int)+1⟩]}
def qL(D:Dk)(d:Bd):Dk:=if xJ D d=0 then Pw D d else D
def Er(D:Dk)(d:Bd):Int:=if xJ D d=0 then (aA D.bx:Int)+1 else 0
theorem aDF {x y:ak}(h1:x.ms=y.ms)(h2:x.ss=y.ss)(d:Bd):nY x d=nY y d:=by obtain⟨ms,Am,cm,ss,As,cs,cy,Ac,cc,li,ca,le,tr,bi⟩:=x;obtain⟨ms',Am',cm',ss',As',cs',cy',Ac',cc',li',ca',XX,tr',bi'⟩:=y;simp only at h1 h2;subst h1 h2;rfl
theorem aCa {x y:ak}(h1:x.ms=y.ms)(h2:x.ss=y.ss)(h3:x.bT=y.bT)(L:List Bd)(d:Bd):xG x L d=xG y L d:=by unfold xG;rw [aDF h1 h2,h3]
theorem bV.boxed {w w':aJ} {db:Nat} {p:Dp} {D:Dk} {v':aN} {MT:List Bd}(H:bV w db p D)(hb:jD w' p.xb p.xc v' MT)(hu:bA (λk=>k=p.xb\/p.xv.ownBlock=aC k) w w')(hs:∀k,v'.ownBlock=aC k->p.xv.ownBlock=aC k\/w.heap.size<=k):aq db p {D with bx:=MT} w w':=by
 refine⟨{p with xv:=v'},H.box hu hb,rfl,rfl,rfl,rfl,hu.mono (λk hk=> .inl (.inr (.inr (.inr (.inl hk))))), ?_⟩;rintro k (e|e|e|(e|e)|e|e)
 ·exact .inl (.inl e)
 ·exact .inl (.inr (.inl e))
 ·exact .inl (.inr (.inr (.inl e)))
 ·exact .inl (.inr (.inr (.inr (.inl (.inl e)))))
 ·exact(hs k e).imp (λh=> .inr (.inr (.inr (.inl (.inr h))))) id
 ·exact .inl (.inr (.inr (.inr (.inr (.inl e)))))
 exact .inl (.inr (.inr (.inr (.inr (.inr e)))))
theorem aEl(db:Nat)(p:Dp)(D:Dk)(d:Bd)(w:aJ)(H:bV w db p D)(hO:fZ D)(hI:d.ok)(hm:aA D.x.ms<=100000)(hs:aA D.x.ss<=100000)(hb:aL D.x.bT)(sG:D.st=2->nY D.x d=0->aL (balA (aA D.x.ms) (aA D.x.ss+1) D.l 1 0 d.c)):
 aQ aM 38 #[π db,d.val] w (CR db p (qL D d) (Er D d) (xJ D d) w):=by
 obtain⟨ds,dm,dc,dq,dp⟩:=d;have Jk:=η H.same;have hb0:β w ((w.alloc (aK #[ν ds,ν dm,ν dc,ν dq,ν dp] 41)).alloc (aK #[ν 2] 3)):=σ.alloc (by simp) _;have jS:=η (KD db p D 2 (aC ⟨w.heap.size+1,0,aB⟩) 1 _ (H.below hb0) (λj u hu=>⟨w.heap.size+1,0,rfl,by simp,by
  match j,hu with
  |0,hu=>exact(cM (w.alloc (aK #[ν ds,ν dm,ν dc,ν dq,ν dp] 41)) #[ν 2] 3 0 (by simp)).trans (by simpa using hu)
  |j+1,hu=>simp at hu⟩))
 have HF:=η H;have aY:=η hb0;have cu:Hid (((w.alloc (aK #[ν ds,ν dm,ν dc,ν dq,ν dp] 41)).alloc (aK #[ν 2] 3)).heap[w.heap.size]? =aC (aK #[ν ds,ν dm,ν dc,ν dq,ν dp] 41 (0,0))):=η ((fL _ _ (by simp)).trans (cQ w _));have hz0:w.heap.size<((w.alloc (aK #[ν ds,ν dm,ν dc,ν dq,ν dp] 41)).alloc (aK #[ν 2] 3)).heap.size:=by simp;omega
 have my:Hid (∀k,eW db p k->k<w.heap.size):=η (λk hk=>H.td hk);clear hb0 H;have HE:Hid (xJ D ⟨ds,dm,dc,dq,dp⟩=if D.st≠2 then 11 else if nY D.x ⟨ds,dm,dc,dq,dp⟩≠0 then nY D.x ⟨ds,dm,dc,dq,dp⟩ else if hasB D.who dm=aO then 14 else if jP D dc=0 then 8 else xG D.x D.bx ⟨ds,dm,dc,dq,dp⟩):=η rfl;have zC:Hid (∀er,xJ D ⟨ds,dm,dc,dq,dp⟩=er->er≠0->∀W,β w W->CR db p (qL D ⟨ds,dm,dc,dq,dp⟩) (Er D ⟨ds,dm,dc,dq,dp⟩) (xJ D ⟨ds,dm,dc,dq,dp⟩) w (aT (bC #[ν 0,ν er])) W):=η (λer h hn W hW=>by
  have e1:qL D ⟨ds,dm,dc,dq,dp⟩=D:=by unfold qL;rw [ifN (by rw [h];exact hn)]
  have e2:Er D ⟨ds,dm,dc,dq,dp⟩=0:=by unfold Er;rw [ifN (by rw [h];exact hn)]
  rw [e1,e2,h];exact⟨rfl,aq.bY HF.o hW⟩)
 have TY:Hid (xJ D ⟨ds,dm,dc,dq,dp⟩=0->∀W,aq db p (Pw D ⟨ds,dm,dc,dq,dp⟩) w W->CR db p (qL D ⟨ds,dm,dc,dq,dp⟩) (Er D ⟨ds,dm,dc,dq,dp⟩) (xJ D ⟨ds,dm,dc,dq,dp⟩) w (aT (bC #[ν ((aA D.bx:Int)+1),ν 0])) W):=η (λh W hW=>by
  have e1:qL D ⟨ds,dm,dc,dq,dp⟩=Pw D ⟨ds,dm,dc,dq,dp⟩:=by unfold qL;rw [ifP h]
  have e2:Er D ⟨ds,dm,dc,dq,dp⟩=(aA D.bx:Int)+1:=by unfold Er;rw [ifP h]
  rw [e1,e2,h];exact⟨rfl,hW⟩)
 have pn:=η (λW (hW:β w W)=>a1r D.x ⟨ds,dm,dc,dq,dp⟩ W (HF.o.below hW).src hm hs hI);have Ls:=η (λW (hW:β w W) (h1:D.st=2) (h2:nY D.x ⟨ds,dm,dc,dq,dp⟩=0)=>VU db p D dc W (HF.o.below hW) hO (sG h1 h2));have HAD:Hid (∀W,β w W->aQ aM 90 #[π p.xb,bP #[ν ds,ν dm,ν dc,ν dq,ν dp]] W (Sz p.xb p.xc p.xv D.bx ⟨ds,dm,dc,dq,dp⟩ W)):=η (λW hW=>aMB p.xc p.xv D.bx ⟨ds,dm,dc,dq,dp⟩ p.xb W (HF.o.below hW).bx (HF.o.below hW).CN.src.ok (by rw [Jk.o.1];exact hm) (by rw [Jk.o.2.1];exact hs) hI (by have:=hO.bl;omega) (by rw [Jk.o.2.2.2];exact hb));rw [show xG D.x D.bx ⟨ds,dm,dc,dq,dp⟩=xG p.xc D.bx ⟨ds,dm,dc,dq,dp⟩ from(aCa Jk.o.1 Jk.o.2.1 Jk.o.2.2.2 _ _).symm] at HE;obtain⟨Aw,cw,hv⟩:=bL HF.o.who;have pD:=η (λW (hW:β w W)=>(show aW W W.heap.size Aw (D.who.map (aG aF)) by have h1:=(HF.o.below hW).who;rw [hv] at h1;exact aW.cB h1));have yI:=η (λW (hW:β w W)=>Mw D.who Aw cw dm W (pD.o W hW) (by have:=hO.wl;omega));have HC:=η (λW (hW:β w W)=>(HF.o.below hW).cells);have HV:=η hv;have BB:Hid (aA D.log<=90000):=η hO.gl;clear hI hm hs hb sG hO hv pD;unfold ak.val Bd.val at pn;unfold Bd.val;generalize xJ D ⟨ds,dm,dc,dq,dp⟩=ee at*;generalize qL D ⟨ds,dm,dc,dq,dp⟩=DW at*;generalize Er D ⟨ds,dm,dc,dq,dp⟩=dv at*;generalize nY D.x ⟨ds,dm,dc,dq,dp⟩=be at*;generalize hasB D.who dm=hw at*;generalize jP D dc=sv at*;go_enter func38,ntmps38
 by_cases h1:D.st=2
 case neg=>
  rw [ifP h1] at HE;rw [ifN h1] at jS;clear h1;go_wp2_with (go_at_call 51;refine jS.o.mono ?_;rintro e w1 ⟨rfl,hb1⟩;have aR:=τ aY hb1;clear hb1)
  go_ret2;exact zC.o 11 HE.o (by decide) _ aR.o
 rw [ifN (by simpa using h1)] at HE;rw [ifP h1] at jS;have H1:=η h1;clear h1;go_upto_region 4 with (go_at_call 51;refine jS.o.mono ?_;rintro e w4 ⟨rfl,hb4⟩;have ar:=τ aY hb4;have pE:=η ((hb4.block _ hz0).trans cu.o);have mh:=cL hz0 hb4.size;clear hb4)
 clear jS aY cu hz0;obtain⟨bx,bU⟩:∃bx,bx=w.heap.size:=⟨_,rfl⟩;have dJ:=η bU;rw [<-bU] at pE mh ⊢;clear bU;have bX:Hid (¬eW db p bx):=η (λh=>by have:=my.o bx h;rw [dJ.o] at this;omega);have fQ:Hid (∀W,β w4 W->W.cell? ⟨bx,0,aB⟩=aC (ν ds)/\W.cell? ⟨bx,1,aB⟩=aC (ν dm)/\W.cell? ⟨bx,2,aB⟩=aC (ν dc)/\W.cell? ⟨bx,3,aB⟩=aC (ν dq)/\W.cell? ⟨bx,4,aB⟩=aC (ν dp)):=η (λW hW=>by have hd:=(hW.block bx mh).trans pE.o;exact⟨ρ hd,ρ hd,ρ hd,ρ hd,ρ hd⟩);have eJ:Hid (∀W,β w4 W->β w W):=η (λW hW=>ar.o.trans (hW.mono ar.o.size));have jT:Hid (∀W,β w4 W->W.cell? ⟨db,0,aB⟩=aC (aH D.x.Am (aA D.x.ms) D.x.cm)/\W.cell? ⟨db,1,aB⟩=aC (aH D.x.As (aA D.x.ss) D.x.cs)/\W.cell? ⟨db,2,aB⟩=aC (aH D.x.Ac (aA D.x.cy) D.x.cc)/\W.cell? ⟨db,3,aB⟩=aC (ν D.x.line)/\W.cell? ⟨db,4,aB⟩=aC (ν D.x.bW)/\W.cell? ⟨db,5,aB⟩=aC (ν D.x.lead)/\W.cell? ⟨db,6,aB⟩=aC (ν D.x.tr)/\W.cell? ⟨db,7,aB⟩=aC (ν D.x.bT)/\W.cell? ⟨bx,0,aB⟩=aC (ν ds)/\W.cell? ⟨bx,1,aB⟩=aC (ν dm)/\W.cell? ⟨bx,2,aB⟩=aC (ν dc)/\W.cell? ⟨bx,3,aB⟩=aC (ν dq)/\W.cell? ⟨bx,4,aB⟩=aC (ν dp)):=η (λW hW=>by have c:=HC.o W (eJ.o W hW);exact⟨c.c0,c.c1,c.c2,c.c3,c.c4,c.c5,c.c6,c.c7,fQ.o W hW⟩);have bQ:β w4 w4.drew:=(aX _ _).drew;have hdd:=jT.o _ bQ;go_region_held3 (λW=>W.cell? ⟨db,0,aB⟩=aC (aH D.x.Am (aA D.x.ms) D.x.cm)/\W.cell? ⟨db,1,aB⟩=aC (aH D.x.As (aA D.x.ss) D.x.cs)/\W.cell? ⟨db,2,aB⟩=aC (aH D.x.Ac (aA D.x.cy) D.x.cc)/\W.cell? ⟨db,3,aB⟩=aC (ν D.x.line)/\W.cell? ⟨db,4,aB⟩=aC (ν D.x.bW)/\W.cell? ⟨db,5,aB⟩=aC (ν D.x.lead)/\W.cell? ⟨db,6,aB⟩=aC (ν D.x.tr)/\W.cell? ⟨db,7,aB⟩=aC (ν D.x.bT)/\W.cell? ⟨bx,0,aB⟩=aC (ν ds)/\W.cell? ⟨bx,1,aB⟩=aC (ν dm)/\W.cell? ⟨bx,2,aB⟩=aC (ν dc)/\W.cell? ⟨bx,3,aB⟩=aC (ν dq)/\W.cell? ⟨bx,4,aB⟩=aC (ν dp)) (first|(with_reducible assumption)) ((go_at_call 88;refine(pn.o _ (eJ.o _ (by with_reducible assumption))).mono ?_;rintro e w5 ⟨rfl,dA⟩;have dZ:β w4 w5:=kB (by with_reducible assumption) (dA.mono (gX (by with_reducible assumption)));have hcc:=jT.o _ dZ))
 have cY:=η dZ;clear dA dZ bQ hdd hcc jT pn;by_cases h2:be=0
 case neg=>
  have kY:(be==0)=aP:=by simpa using h2
  rw [ifP h2] at HE;have HB:=η h2;clear h2;go_wp2_with fail
  go_ret2;exact zC.o be HE.o HB.o _ (eJ.o _ cY.o)
 subst h2;rw [ifN (by simp)] at HE;have UA:=η (λW (hW:β w W)=>Ls.o W hW H1.o rfl);clear Ls;go_upto_region 7 with (fail)
 have uR:Hid (∀W,β w4 W->W.cell? ⟨db,11,aB⟩=aC (aH Aw (aA D.who) cw)/\W.cell? ⟨bx,1,aB⟩=aC (ν dm)):=η (λW hW=>⟨by rw [<-HV.o];exact(HC.o W (eJ.o W hW)).c11,(fQ.o W hW).2.1⟩);have bQ:β w4 w5.drew:=cY.o.drew;have hdd:=uR.o _ bQ;go_region_held3 (λW=>W.cell? ⟨db,11,aB⟩=aC (aH Aw (aA D.who) cw)/\W.cell? ⟨bx,1,aB⟩=aC (ν dm)) (first|(with_reducible assumption)) ((go_at_call 89;refine(yI.o _ (eJ.o _ (by with_reducible assumption))).mono ?_;rintro e w6 ⟨rfl,rfl⟩))
 have gK:=η bQ;clear bQ hdd uR yI cY;cases hh:hw with
 |true=>
  subst hh;rw [ifP rfl] at HE;go_wp2_with fail
  go_ret2;exact zC.o 14 HE.o (by decide) _ (eJ.o _ gK.o)
 |false=>
  subst hh;rw [ifN (by simp)] at HE;have b2:=(fQ.o _ gK.o).2.2.1;by_cases h3:sv=0
  ·subst h3;rw [ifP rfl] at HE;go_wp2_with (go_at_call 69;refine(UA.o _ (eJ.o _ gK.o)).mono ?_;rintro e w7 ⟨rfl,ft⟩;have vB:=τ gK ft;clear ft)
   go_ret2;exact zC.o 8 HE.o (by decide) _ (eJ.o _ vB.o)
  have X5:(sv==0)=aP:=by simpa using h3
  rw [ifN h3] at HE;clear h3;go_upto_region 11 with (go_at_call 69;refine(UA.o _ (eJ.o _ gK.o)).mono ?_;rintro e w7 ⟨rfl,ft⟩;have vB:=τ gK ft;clear ft)
  clear UA gK b2;have zP:Hid (∀W,β w4 W->W.cell? ⟨db,10,aB⟩=aC (π p.xb)/\W.cell? ⟨bx,0,aB⟩=aC (ν ds)/\W.cell? ⟨bx,1,aB⟩=aC (ν dm)/\W.cell? ⟨bx,2,aB⟩=aC (ν dc)/\W.cell? ⟨bx,3,aB⟩=aC (ν dq)/\W.cell? ⟨bx,4,aB⟩=aC (ν dp)):=η (λW hW=>⟨(HC.o W (eJ.o W hW)).c10,fQ.o W hW⟩);have ZH:Hid (∀W,β w4 W->aQ aM 90 #[π p.xb,bP #[ν ds,ν dm,ν dc,ν dq,ν dp]] W λe W'=>∃(n er:Int),e=aT (bC #[ν n,ν er])/\(W'.cell? ⟨db,10,aB⟩=aC (π p.xb)/\W'.cell? ⟨bx,0,aB⟩=aC (ν ds)/\W'.cell? ⟨bx,1,aB⟩=aC (ν dm)/\W'.cell? ⟨bx,2,aB⟩=aC (ν dc)/\W'.cell? ⟨bx,3,aB⟩=aC (ν dq)/\W'.cell? ⟨bx,4,aB⟩=aC (ν dp))/\((er≠0/\n=0/\ee=er/\β w4 W')\/(er=0/\n=(aA D.bx:Int)+1/\ee=0/\aq db p {D with bx:=D.bx++ [⟨(aA D.bx:Int)+1,dm,dc,dq,dp⟩]} w W'))):=η (λW hW=>by
   refine(HAD.o W (eJ.o W hW)).mono ?_;rintro e W' (⟨q1,rfl,q2⟩|⟨q1,v',rfl,q2,q3,q4⟩)
   ·have hb:β w4 W':=hW.trans (q2.mono hW.size);exact⟨0,_,rfl,zP.o W' hb,.inl ⟨q1,rfl,HE.o,hb⟩⟩
   have hd:=(HF.o.below (eJ.o W hW)).boxed q2 q3 q4;have rC:aq db p {D with bx:=D.bx++ [⟨(aA D.bx:Int)+1,dm,dc,dq,dp⟩]} w W':=aq.trans (bA.bY _ (eJ.o W hW)) (λ_ h=> .inl h) ⟨rfl,rfl,rfl,rfl⟩ hd;have hz:=cL mh hW.size;obtain⟨_,r0,r1,r2,r3,r4⟩:=zP.o W hW;refine⟨_,0,rfl,⟨?_,(hd.cell 0 hz bX.o).trans r0,(hd.cell 1 hz bX.o).trans r1,(hd.cell 2 hz bX.o).trans r2,(hd.cell 3 hz bX.o).trans r3,(hd.cell 4 hz bX.o).trans r4⟩,.inr ⟨rfl,rfl,HE.o.trans q1,rC⟩⟩;obtain⟨p3,H3,f1,f2,f3,f4,_⟩:=hd;rw [<-f3];exact H3.cells.c10)
  have bQ:β w4 w7.drew:=vB.o.drew;have hdd:=zP.o _ bQ;clear HAD HE HC;go_region_held3 (λW=>W.cell? ⟨db,10,aB⟩=aC (π p.xb)/\W.cell? ⟨bx,0,aB⟩=aC (ν ds)/\W.cell? ⟨bx,1,aB⟩=aC (ν dm)/\W.cell? ⟨bx,2,aB⟩=aC (ν dc)/\W.cell? ⟨bx,3,aB⟩=aC (ν dq)/\W.cell? ⟨bx,4,aB⟩=aC (ν dp)) (first|(with_reducible assumption)) ((go_at_call 90;refine(ZH.o _ (by with_reducible assumption)).mono ?_;rintro e w8 ⟨n,er,rfl,hcc,hor⟩))
  obtain⟨_,m0,m1,m2,m3,m4⟩:=hcc;clear bQ hdd ZH zP;rcases hor with⟨q1,rfl,q2,q3⟩|⟨rfl,rfl,q2,q3⟩
  ·have kY:(er==0)=aP:=by simpa using q1
   have HB:=η (kh q1 (kh q2 q3));clear q1 q2 q3;go_wp2_with fail
   go_ret2;exact zC.o er HB.o.2.1 HB.o.1 _ (eJ.o _ HB.o.2.2)
  have HZ:=η q2;obtain⟨p3,q3⟩:=q3.q;have HQ:=η q3;clear q2 q3;have ki:=η (HQ.o.at.below ((aX w8.heap.size w8).alloc (aZ _) (aK #[ν 11,ν dm,ν dc,ν dq,ν ((aA D.bx:Int)+1)] 45)));have km:=η (xP db p3 {D with bx:=D.bx++ [⟨(aA D.bx:Int)+1,dm,dc,dq,dp⟩]} [⟨11,dm,dc,dq,(aA D.bx:Int)+1⟩] w8.heap.size 1 _ ki.o (dS w8 45 #[ν 11,ν dm,ν dc,ν dq,ν ((aA D.bx:Int)+1)] rfl) (by simp) (by simp) (by have:=BB.o;simp only;omega));have sZ:=η (HQ.o.below ((aX w8.heap.size w8).alloc (aZ _) (aK #[ν 11,ν dm,ν dc,ν dq,ν ((aA D.bx:Int)+1)] 45)));clear HQ ki;go_wp2_with (go_at_call 55;refine km.o.mono ?_;rintro e w9 ⟨rfl,h9⟩;obtain⟨p9,yi,_⟩:=sZ.o.then h9;have lU:=η yi;clear h9 yi)
  go_ret2;exact TY.o HZ.o _ lU.o.p
structure uE(w:aJ)(lb:Nat)(v:aN)(es:List En)(W:aJ):Prop where
 bl:β w W
 blk:W.heap[lb]? =aC (aK #[v] 101 (0,0))
 own:W.ownsRow w.heap.size 103 4 v (aA es) (qy es)
 lo:w.heap.size<=lb
theorem uE.lt {w W:aJ} {lb:Nat} {v:aN} {es:List En}(h:uE w lb v es W):lb<W.heap.size:=(fY.1 h.blk).1
theorem uE.below {w W W':aJ} {lb:Nat} {v:aN} {es:List En}(h:uE w lb v es W)(hb:aa W.heap.size W W'):uE w lb v es W':=
 ⟨h.bl.trans (hb.mono h.bl.size),(hb.block _ h.lt).trans h.blk,iJ h.own hb,h.lo⟩
def gg(fk fm tk tm n:Int):List En:= [⟨fk,fm,0,-n⟩,⟨tk,tm,0,n⟩]
theorem aFK:(aM.info? 103).map (λi=>(i.zero,i.size,i.bytes))=aC (aC (bP #[aG aF 0,aG aF 0,aG aF 0,aG aF 0]),4,32):=by kernel_rfl
theorem aFL(es:List En):∀u∈qy es,u.oneCell'=aO:=by intro u hu;obtain⟨x,_,hx⟩:=List.mem_flatMap.1 hu;simp [En.cells] at hx;rcases hx with rfl|rfl|rfl|rfl<;>rfl
theorem Q7(w:aJ)(lb:Nat)(v:aN)(es:List En)(fk fm tk tm n:Int)(W:aJ)(h:uE w lb v es W)(hn:aL n)(mE:0<=n)(hl:aA es<=1000):
 aQ aM 48 #[bP #[ν fk,ν fm],bP #[ν tk,ν tm],ν n,π lb] W λe W'=>e=aT (bC #[])/\∃v',uE w lb v' (es++gg fk fm tk tm n) W'/\bA (λk=>k=lb\/v.ownBlock=aC k) W W':=by
 obtain⟨i0,bu,hz0,hz1,hz2⟩:=dP aFK;have N9:aF.wrap (-n)= -n:=uy (by unfold aL at*;omega);have af:Hid (β W (((W.alloc (aK #[ν fk,ν fm] 51)).alloc (aK #[ν tk,ν tm] 51)).alloc (aK #[ν fk,ν fm,ν 0,ν (-n),ν tk,ν tm,ν 0,ν n] 103))):=η ((σ.alloc (by simp) _).alloc (by simp;omega) _);have aV:Hid (β W ((W.alloc (aK #[ν fk,ν fm] 51)).alloc (aK #[ν tk,ν tm] 51))):=η (σ.alloc (by simp) _);have rO:=η (h.below af.o);have c2:((W.alloc (aK #[ν fk,ν fm] 51)).alloc (aK #[ν tk,ν tm] 51)).cell? ⟨lb,0,aB⟩=aC v:=bH _ _ _ _ _ (0,0) (h.below aV.o).blk;have HN:Hid (∀j u,([ν fk,ν fm,ν 0,ν (-n),ν tk,ν tm,ν 0,ν n]:List aN)[j]? =aC u->(((W.alloc (aK #[ν fk,ν fm] 51)).alloc (aK #[ν tk,ν tm] 51)).alloc (aK #[ν fk,ν fm,ν 0,ν (-n),ν tk,ν tm,ν 0,ν n] 103)).cell? ((⟨W.heap.size+1+1,0,aB⟩:ai).add j)=aC u):=η (dS _ 103 #[ν fk,ν fm,ν 0,ν (-n),ν tk,ν tm,ν 0,ν n] (by simp));go_enter func48,ntmps48
 go_wp2_with (at_builtin;refine jC _ rfl _ _ 101 rfl w.heap.size 103 i0 _ 4 32 underlying101 bu hz0 hz1 hz2 rfl (by decide) v (aA es) (qy es) rfl rO.o.own _ 2 _ [ν fk,ν fm,ν 0,ν (-n),ν tk,ν tm,ν 0,ν n] rfl rfl HN.o (aFL (gg fk fm tk tm n)) (by simp only [bO];omega) (by omega) rO.o.bl.size ?_)
 intro v' w4 iC hg4 _;obtain⟨A4,k4,hv4⟩:=bL iC;subst hv4;have hne:v.ownBlock≠aC lb:=gS rO.o.own rO.o.blk (by decide);have hb4:=(hg4.block lb rO.o.lt (λe=>hne e.symm)).trans rO.o.blk;have c4:w4.cell? ⟨lb,0,aB⟩=aC v:=ρ hb4;have f4:w4.frozen? ⟨lb,0,aB⟩=aP:=by simp [iO,hb4]
 have hBL:β w w4:=Es rO.o.bl hg4 (λk hk=>(rO.o.own.lt k hk).1) rO.o.bl.size;have HR:Hid (uE w lb (aH A4 (aA es+2) k4) (es++gg fk fm tk tm n) (w4.setCell ⟨lb,0,aB⟩ (aH A4 (aA es+2) k4))):=η (by
  have iY:w4.ownsRow w.heap.size 103 4 (aH A4 (aA es+2) k4) (aA (es++gg fk fm tk tm n)) (qy (es++gg fk fm tk tm n)):=by rw [show aA (es++gg fk fm tk tm n)=aA es+2 from by simp [gg],show qy (es++gg fk fm tk tm n)=qy es++ [ν fk,ν fm,ν 0,ν (-n),ν tk,ν tm,ν 0,ν n] from by simp [qy,gg,En.cells]];exact iC
  exact⟨uX _ hBL rO.o.lo,(lz hb4 0 _).trans rfl,kP iY (gS iY hb4 (by decide)) _,rO.o.lo⟩)
 have HU:Hid (bA (λk=>k=lb\/v.ownBlock=aC k) W (w4.setCell ⟨lb,0,aB⟩ (aH A4 (aA es+2) k4))):=η (((bA.bY _ af.o).trans (bA.Iy hg4 (λk hk=> .inl (.inr hk))) (λk hk=> .inl hk)).setCell (p:=⟨lb,0,aB⟩) (.inl (.inl rfl)) _);go_wp2
 go_end0
 exact⟨rfl,_,HR.o,HU.o⟩
def lB(D:Dk)(k:Nat):Pr:=D.x.ms.getD k ⟨0,0⟩
def DY(D:Dk)(k:Nat):Bool:=decide ((lB D k).a>1099511627776-balA (aA D.x.ms) (aA D.x.ss+1) D.l 8 ((k:Int)+1) 0)
def Ew(D:Dk):Bool:=(dQ (aA D.x.ms)).any (DY D)
def ng(D:Dk):Nat->List En
 |0=> []
 |k+1=>ng D k++gg 7 ((k:Int)+1) 8 ((k:Int)+1) (lB D k).a++gg 7 ((k:Int)+1) 9 ((k:Int)+1) (lB D k).b
def fX(D:Dk):List En:=ng D (aA D.x.ms)++gg 5 0 3 0 D.x.line++gg 6 0 4 0 D.x.bW
def Mb(D:Dk):Dk:= {D with en:=aO,l:=eX D (fX D)}
def Mc(D:Dk):Int:=if D.en=aO then 7 else if Ew D=aO then 2 else lf (aA D.x.ms) (aA D.x.ss+1) D.l D.h (fX D)
def vX(D:Dk):Dk:=if D.en=aO then D else if Ew D=aO then D else Mb D
theorem a3F(D:Dk)(k:Nat):aA (ng D k)=4*k:=by
 induction k with
 |zero=>rfl
 |succ k ih=>unfold ng;rw [cN,cN,ih];simp [gg];omega
structure JL(D:Dk):Prop where
 ok:fZ D
 ml:aA D.x.ms<=100
 bI:∀k:Nat,k<aA D.x.ms->aL (1099511627776-balA (aA D.x.ms) (aA D.x.ss+1) D.l 8 ((k:Int)+1) 0)
 mI:∀x∈D.x.ms,(aL x.a/\0<=x.a)/\aL x.b/\0<=x.b
 li:aL D.x.line/\0<=D.x.line
 ca:aL D.x.bW/\0<=D.x.bW
theorem Rk {fk fm tk tm n:Int}(h1:aL fk)(h2:aL fm)(h3:aL tk)(h4:aL tm)(h5:aL n)(h6:0<=n):∀x∈gg fk fm tk tm n,x.ok:=by
 intro x hx;simp only [gg,fG,List.not_mem_nil,or_false] at hx;rcases hx with rfl|rfl
 ·exact⟨h1,h2,(by decide:aL 0),(by unfold aL at*;simp only;omega)⟩
 exact⟨h3,h4,(by decide:aL 0),h5⟩
theorem a5s {D:Dk}(P:JL D) {k:Nat}(hk:k<aA D.x.ms):(aL (lB D k).a/\0<=(lB D k).a)/\aL (lB D k).b/\0<=(lB D k).b:=by unfold lB;rw [tC,iG hk];exact P.mI _ (cK hk)
theorem a3G {D:Dk}(P:JL D):∀k,k<=aA D.x.ms->∀x∈ng D k,x.ok
 |0,_,x,hx=>by cases hx
 |k+1,hk,x,hx=>by
  have hI:aL ((k:Int)+1):=by have:=P.ml;unfold aL;omega
  obtain⟨⟨m1,m2⟩,m3,m4⟩:=a5s P (k:=k) (by omega);unfold ng at hx;rcases gN.1 hx with hx|hx
  ·rcases gN.1 hx with hx|hx
   ·exact a3G P k (by omega) x hx
   exact Rk (by decide) hI (by decide) hI m1 m2 x hx
  exact Rk (by decide) hI (by decide) hI m3 m4 x hx
theorem aFN {D:Dk}(P:JL D):∀x∈fX D,x.ok:=by
 intro x hx;unfold fX at hx;rcases gN.1 hx with hx|hx
 ·rcases gN.1 hx with hx|hx
  ·exact a3G P _ (aZ _) x hx
  exact Rk (by decide) (by decide) (by decide) (by decide) P.li.1 P.li.2 x hx
 exact Rk (by decide) (by decide) (by decide) (by decide) P.ca.1 P.ca.2 x hx
theorem bV.aFJ {w:aJ} {db:Nat} {p:Dp} {D:Dk}(H:bV w db p D)(b:Bool):dB db p p {D with en:=b} w (w.setCell ⟨db,14,aB⟩ (bK b)):=
 ⟨H.Pz 14 (bK b) rfl rfl rfl rfl rfl rfl ⟨rfl,rfl,rfl,rfl,rfl,rfl,rfl⟩ H.who H.log,rfl,rfl,rfl,rfl,(bA.refl _ _).setCell (p:=⟨db,14,aB⟩) (.inl (.inl rfl)) _,λ_ h=> .inl h⟩
theorem a2e(db:Nat)(p:Dp)(D:Dk)(w:aJ)(H:bV w db p D)(P:JL D):
 aQ aM 25 #[π db] w λe w'=>e=aT (ν (Mc D))/\aq db p (vX D) w w':=by
 have HF:=η H;have HP:=η P;have HE:Hid (Mc D=if D.en=aO then 7 else if Ew D=aO then 2 else lf (aA D.x.ms) (aA D.x.ss+1) D.l D.h (fX D)):=η rfl;have HW:Hid (vX D=if D.en=aO then D else if Ew D=aO then D else Mb D):=η rfl;have TN:Hid (Ew D=(dQ (aA D.x.ms)).any (DY D)):=η rfl;have fC:=η (λW (hW:β w W) m (hm:aL m)=>zq db p D 8 m 0 W (H.below hW) (by decide) hm);have Jd:=η (λW (hW:β w W)=>(aW.cB (H.below hW).cf.m));have HC:=η (λW (hW:β w W)=>(H.below hW).cells);have xU:=H.lt;have c14:=H.cells.c14;have ir:aA D.x.ms<=100:=P.ml;clear H P;generalize Mc D=ee at*;generalize vX D=DW at*;generalize Ew D=eb at*;go_enter func25,ntmps25
 generalize hen:D.en=en at*;cases en with
 |true=>
  rw [ifP rfl] at HE HW;clear hen;go_wp2_with fail
  go_ret;exact⟨cW HE.o.symm,by rw [HW.o];exact aq.refl HF.o⟩
 |false=>
  rw [ifN (by simp)] at HE HW;have iy:=η hen;clear hen;have c0:=(HC.o w (aX _ _)).c0;generalize hM:aA D.x.ms=M at*;go_upto_region 6 with (fail)
  clear c0 c14;have om:Hid (∀j,j<0->DY D j=aP):=η (λj hj=>absurd hj (Nat.not_lt_zero _));have aY:Hid (β w w):=η (aX _ _);go_loopw [3,4,23] (λ_ _ i wr=>∃k:Nat,k<=M/\i=ν (k:Int)/\Hid (∀j,j<k->DY D j=aP)/\Hid (β w wr)) (λ_ _ i _=>M-(ag i).toNat)
  case atStart=>exact⟨0,bM _,rfl,om,aY⟩
  case round=>
   clear om aY;obtain⟨k,hk,rfl,HN,HB⟩:=hrel;by_cases hlt:k<M
   ·have yh:k<aA D.x.ms:=by rw [hM];exact hlt
    obtain⟨bl,ol,kJ,hbl,l0,l1⟩:=Fs (Jd.o _ HB.o) yh;have ej:(0:Int)<=(k:Int):=by omega
    have hkb:(k:Int)<(M:Int):=by omega
    have pn:Hid (DY D k=decide ((D.x.ms[k]).a>1099511627776-balA M (aA D.x.ss+1) D.l 8 ((k:Int)+1) 0)):=η (by unfold DY lB;rw [tC,iG yh,hM];rfl);have zD:Hid (aL (1099511627776-balA M (aA D.x.ss+1) D.l 8 ((k:Int)+1) 0)):=η (by have h:=HP.o.bI k yh;rw [hM] at h;exact h);have FM:aL ((k:Int)+1):=by unfold aL;omega
    have pj:=η (λW hW=>fC.o W hW ((k:Int)+1) FM);have Bh:aF.wrap ((k:Int)+1)=(k:Int)+1:=uy FM;generalize D.x.ms[k]=x at*;obtain⟨xa,xb⟩:=x;simp only at l0 l1;generalize balA M (aA D.x.ss+1) D.l 8 ((k:Int)+1) 0=bq at*;have yP:Hid (aF.wrap (1099511627776-bq)=1099511627776-bq):=η (uy zD.o);rw [<-Bh] at pj;clear Bh FM;rw [kJ] at*;have gK:Hid (β wr (wr.alloc (aK #[ν xa,ν xb] 67))):=η σ;have qj:Hid ((wr.alloc (aK #[ν xa,ν xb] 67)).heap[wr.heap.size]? =aC (aK #[ν xa,ν xb] 67 (0,0))):=η (cQ wr _);have wD:wr.heap.size<(wr.alloc (aK #[ν xa,ν xb] 67)).heap.size:=by simp
    go_upto_region 8 with (fail)
    generalize wr.alloc (aK #[ν xa,ν xb] 67)=w6 at*;obtain⟨bx,bU⟩:∃bx,bx=wr.heap.size:=⟨_,rfl⟩;rw [<-bU] at qj wD ⊢;clear bU l0 l1;have cC:Hid (β w w6):=η (HB.o.trans (gK.o.mono HB.o.size));have fQ:Hid (∀W,β w6 W->W.cell? ⟨bx,0,aB⟩=aC (ν xa)):=η (λW hW=>bH _ _ _ _ _ (0,0) ((hW.block bx wD).trans qj.o));have eJ:Hid (∀W,β w6 W->β w W):=η (λW hW=>cC.o.trans (hW.mono cC.o.size));have bQ:β w6 w6.drew:=(aX _ _).drew;have hdd:=fQ.o _ bQ;clear HB gK qj;go_region_held3 (λW=>W.cell? ⟨bx,0,aB⟩=aC (ν xa)) (first|(with_reducible assumption)) (first|(go_at_call 47;with_reducible refine uD (zj (aF.wrap ((k:Int)+1)) _) ?_;rintro e wa ⟨rfl,nG⟩;have ye:β w6 wa:=kB (by with_reducible assumption) (nG.mono (gX (by with_reducible assumption)));have rA:=fQ.o _ ye)|(go_at_call 46;with_reducible refine uD (pj.o _ (eJ.o _ (by with_reducible assumption))) ?_;rintro e wb ⟨rfl,j6⟩;have s6:β w6 wb:=kB (by with_reducible assumption) (j6.mono (gX (by with_reducible assumption)));have hcb:=fQ.o _ s6))
    all_goals
     rw [yP.o];by_cases hc:1099511627776-bq<xa
     ·have LR:Hid (eb=aO):=η (by rw [TN.o];exact a1i hlt (by rw [pn.o];exact decide_eq_true hc));have mr:Hid (ee=2):=η (by rw [HE.o,ifP LR.o]);have gF:Hid (DW=D):=η (by rw [HW.o,ifP LR.o]);have rM:=η (eJ.o _ s6);clear nG ye rA j6 s6 hcb bQ hdd;go_wp2_with fail
      go_ret;exact⟨cW mr.o.symm,by rw [gF.o];exact aq.bY HF.o rM.o⟩
     have hc2:xa<=1099511627776-bq:=by omega
     have vH:Hid (∀i,i<k+1->DY D i=aP):=η (λi hi=>by
      rcases Nat.lt_succ_iff_lt_or_eq.1 hi with h|rfl
      ·exact HN.o i h
      rw [pn.o];exact decide_eq_false (by simpa using hc))
     have rM:=η (eJ.o _ s6);clear nG ye rA j6 s6 hcb bQ hdd HN;go_wp2_with fail
     go_roundw
     case rel=>exact⟨k+1,by omega,by go_num,vH,rM⟩
     case measure=>simp [ag];omega
   obtain rfl:k=M:=by omega
   have LR:Hid (¬eb=aO):=η (by rw [TN.o,a1j (λi hi=>HN.o i hi)];simp);rw [ifN LR.o] at HE HW;clear HN TN LR fC;have aR:Hid (uE w wr.heap.size (aH aB 0 0) (ng D 0) (wr.alloc (aK #[aH aB 0 0] 101))):=η ⟨HB.o.trans ((aX _ _).alloc HB.o.size _),cQ wr _,gG _ _ _ _,HB.o.size⟩;have hzl:wr.heap.size<(wr.alloc (aK #[aH aB 0 0] 101)).heap.size:=by simp
   go_upto_region 13 with (fail)
   generalize wr.alloc (aK #[aH aB 0 0] 101)=w2 at*;obtain⟨lb,hlb⟩:∃lb,lb=wr.heap.size:=⟨_,rfl⟩;rw [<-hlb] at aR hzl ⊢;clear hlb HB;have c0:=(HC.o w2 aR.o.bl).c0;rw [hM] at c0;go_upto_region 14 with (fail)
   clear c0;have iF:Hid (∃v,uE w lb v (ng D 0) w2):=η ⟨_,aR.o⟩;clear aR;go_loopw [7,8,45] (λ_ _ i wr=>∃j:Nat,j<=k/\i=ν (j:Int)/\Hid (∃v,uE w lb v (ng D j) wr)) (λ_ _ i _=>k-(ag i).toNat)
   case atStart=>exact⟨0,bM _,rfl,iF⟩
   case round=>
    clear iF;obtain⟨j,hj,rfl,vE⟩:=hrel;obtain⟨v,hv⟩:=vE.o;have HI:=η hv;clear vE hv;by_cases hlt:j<k
    ·have yh:j<aA D.x.ms:=by rw [hM];exact hlt
     obtain⟨bl,ol,kJ,hbl,l0,l1⟩:=Fs (Jd.o _ HI.o.bl) yh;have ej:(0:Int)<=(j:Int):=by omega
     have hkb:(j:Int)<(k:Int):=by omega
     have Zr:Hid (lB D j=D.x.ms[j]):=η (by unfold lB;rw [tC,iG yh];rfl);have vG:=η (a5s HP.o yh);have Ca:Hid (ng D (j+1)=ng D j++gg 7 ((j:Int)+1) 8 ((j:Int)+1) (lB D j).a++gg 7 ((j:Int)+1) 9 ((j:Int)+1) (lB D j).b):=η rfl;rw [Zr.o] at vG Ca;have hjw:(j:Int)+1=aF.wrap ((j:Int)+1):=(uy (by unfold aL;omega)).symm;rw [hjw] at Ca;have CZ:Hid (aA (ng D j)<=400):=η (by rw [a3F];omega);clear hjw Zr;generalize D.x.ms[j]=x at*;obtain⟨xa,xb⟩:=x;simp only at l0 l1;rw [kJ] at*;have gK:Hid (β wr (wr.alloc (aK #[ν xa,ν xb] 67))):=η σ;have qj:Hid ((wr.alloc (aK #[ν xa,ν xb] 67)).heap[wr.heap.size]? =aC (aK #[ν xa,ν xb] 67 (0,0))):=η (cQ wr _);have wD:wr.heap.size<(wr.alloc (aK #[ν xa,ν xb] 67)).heap.size:=by simp
     go_upto_region 16 with (fail)
     generalize wr.alloc (aK #[ν xa,ν xb] 67)=w6 at*;obtain⟨bx,bU⟩:∃bx,bx=wr.heap.size:=⟨_,rfl⟩;rw [<-bU] at qj wD ⊢;clear bU l0 l1;have uL:=η (HI.o.below gK.o);have fQ:Hid (∀W,β w6 W->W.cell? ⟨bx,0,aB⟩=aC (ν xa)):=η (λW hW=>bH _ _ _ _ _ (0,0) ((hW.block bx wD).trans qj.o));have LN:Hid (∀W,β w6 W->aQ aM 48 #[bP #[ν 7,ν (aF.wrap ((j:Int)+1))],bP #[ν 8,ν (aF.wrap ((j:Int)+1))],ν xa,π lb] W λe W'=>e=aT (bC #[])/\(∃v',uE w lb v' (ng D j++gg 7 (aF.wrap ((j:Int)+1)) 8 (aF.wrap ((j:Int)+1)) xa) W')/\W'.heap[bx]? =aC (aK #[ν xa,ν xb] 67 (0,0))/\W'.cell? ⟨bx,0,aB⟩=aC (ν xa)):=η (λW hW=>by
      have hE:=uL.o.below hW;have oN:=(hW.block bx wD).trans qj.o;refine(Q7 w lb v (ng D j) 7 (aF.wrap ((j:Int)+1)) 8 (aF.wrap ((j:Int)+1)) xa W hE vG.o.1.1 vG.o.1.2 (by have:=CZ.o;omega)).mono ?_;rintro e W' ⟨q1,v',q2,q3⟩;have Qb:W'.heap[bx]? =aC (aK #[ν xa,ν xb] 67 (0,0)):=(q3.keep bx (fY.1 oN).1 (λh=>by
       rcases h with h|h
       ·subst h;have:=oN.symm.trans hE.blk;simp at this
       exact gS hE.own oN (by decide) h)).trans oN
      exact⟨q1,⟨v',q2⟩,Qb,ρ Qb⟩)
     have bQ:β w6 w6.drew:=(aX _ _).drew;have hdd:=fQ.o _ bQ;clear HI gK;go_region_held3 (λW=>W.cell? ⟨bx,0,aB⟩=aC (ν xa)) (first|(with_reducible assumption)) (first|(go_at_call 47;with_reducible refine uD (zj (aF.wrap ((j:Int)+1)) _) ?_;rintro e wa ⟨rfl,nG⟩;have ye:β w6 wa:=kB (by with_reducible assumption) (nG.mono (gX (by with_reducible assumption)));have rA:=fQ.o _ ye)|(go_at_call 49;with_reducible refine uD (Et (aF.wrap ((j:Int)+1)) _) ?_;rintro e wb ⟨rfl,j6⟩;have s6:β w6 wb:=kB (by with_reducible assumption) (j6.mono (gX (by with_reducible assumption)));have hcb:=fQ.o _ s6)|(go_at_call 48;with_reducible refine uD (LN.o _ (by with_reducible assumption)) ?_;rintro e wc ⟨rfl,WM,a4E,WK⟩))
     all_goals
      have Zc:=η WM;have dJ:=η a4E;clear WM a4E WK nG ye rA j6 s6 hcb bQ hdd fQ LN qj uL;obtain⟨v8,RI⟩:=Zc.o;have Oa:=η RI;have hz8:bx<wc.heap.size:=(fY.1 dJ.o).1;clear RI Zc wD;go_upto_region 17 with (fail)
      have fQ:Hid (∀W,β wc W->W.cell? ⟨bx,1,aB⟩=aC (ν xb)):=η (λW hW=>bH _ _ _ _ _ (0,0) ((hW.block bx hz8).trans dJ.o));have LN:Hid (∀W,β wc W->aQ aM 48 #[bP #[ν 7,ν (aF.wrap ((j:Int)+1))],bP #[ν 9,ν (aF.wrap ((j:Int)+1))],ν xb,π lb] W λe W'=>e=aT (bC #[])/\(∃v',uE w lb v' (ng D (j+1)) W')/\W'.cell? ⟨bx,1,aB⟩=aC (ν xb)):=η (λW hW=>by
       have hE:=Oa.o.below hW;have oN:=(hW.block bx hz8).trans dJ.o;refine(Q7 w lb v8 _ 7 (aF.wrap ((j:Int)+1)) 9 (aF.wrap ((j:Int)+1)) xb W hE vG.o.2.1 vG.o.2.2 (by rw [cN];have:=CZ.o;simp [gg];omega)).mono ?_;rintro e W' ⟨q1,v',q2,q3⟩;have Qb:W'.heap[bx]? =aC (aK #[ν xa,ν xb] 67 (0,0)):=(q3.keep bx (fY.1 oN).1 (λh=>by
        rcases h with h|h
        ·subst h;have:=oN.symm.trans hE.blk;simp at this
        exact gS hE.own oN (by decide) h)).trans oN
       exact⟨q1,⟨v',by rw [Ca.o];exact q2⟩,ρ Qb⟩)
      have bQ:β wc wc.drew:=(aX _ _).drew;have hdd:=fQ.o _ bQ;go_region_held3 (λW=>W.cell? ⟨bx,1,aB⟩=aC (ν xb)) (first|(with_reducible assumption)) (first|(go_at_call 49;with_reducible refine uD (Et (aF.wrap ((j:Int)+1)) _) ?_;rintro e wd ⟨rfl,j6⟩;have s6:β wc wd:=kB (by with_reducible assumption) (j6.mono (gX (by with_reducible assumption)));have hcb:=fQ.o _ s6)|(go_at_call 48;with_reducible refine uD (LN.o _ (by with_reducible assumption)) ?_;rintro e we ⟨rfl,WN,WK⟩))
      all_goals
       have HIE:=η WN;clear WN WK j6 s6 hcb bQ hdd fQ LN;go_wp2_with fail
       go_roundw
       case rel=>exact⟨j+1,by omega,by go_num,HIE⟩
       case measure=>simp [ag];omega
    obtain rfl:j=k:=by omega
    have ES:Hid (fX D=ng D j++gg 5 0 3 0 D.x.line++gg 6 0 4 0 D.x.bW):=η (by unfold fX;rw [hM]);have vD:Hid (aA (ng D j)<=400):=η (by rw [a3F];omega);have ZM:=η (λW v (h:uE w lb v (ng D j) W)=>Q7 w lb v (ng D j) 5 0 3 0 D.x.line W h HP.o.li.1 HP.o.li.2 (by have:=vD.o;omega));have od:=η (λW v (h:uE w lb v (ng D j++gg 5 0 3 0 D.x.line) W)=>Q7 w lb v _ 6 0 4 0 D.x.bW W h HP.o.ca.1 HP.o.ca.2 (by rw [cN];have:=vD.o;simp [gg];omega));rw [<-ES.o] at od;have c3:=(HC.o _ HI.o.bl).c3;have aGP:=(HF.o.below HI.o.bl).lt;clear Jd ES;go_upto_region 20 with (go_at_call 48;refine(ZM.o _ v HI.o).mono ?_;rintro e w3 ⟨rfl,v3,s7,_⟩;have qX:=η s7;clear s7)
    have c4:=(HC.o _ qX.o.bl).c4;have aGQ:=(HF.o.below qX.o.bl).lt;clear c3 aGP HI;go_upto_region 21 with (go_at_call 48;refine(od.o _ v3 qX.o).mono ?_;rintro e w4 ⟨rfl,v4,vn,_⟩;have wX:=η vn;clear vn)
    have qC:=η (dB.bY HF.o wX.o.bl);clear c4 aGQ qX ZM od;have aGR:=qC.o.at.lt;have c14:=qC.o.at.cells.c14;have f14:w4.frozen? ⟨db,14,aB⟩=aP:=by have hb:=qC.o.at.blk;simp [iO,hb]
    go_upto_region 22 with (fail)
    obtain⟨A4,k4,hv4⟩:=bL wX.o.own;subst hv4;have ow:=η (qC.o.trans (qC.o.at.aFJ aO));have aGk:lb≠db:=by rintro rfl;have:=qC.o.at.blk.symm.trans wX.o.blk;simp at this
    have dA:(w4.setCell ⟨db,14,aB⟩ (bK aO)).heap[lb]? =aC (aK #[aH A4 (aA (fX D)) k4] 101 (0,0)):=(nR _ _ _ _ aGk).trans wX.o.blk;have fP:Hid ((w4.setCell ⟨db,14,aB⟩ (bK aO)).ownsRow w.heap.size 103 4 (aH A4 (aA (fX D)) k4) (aA (fX D)) (qy (fX D))):=η (kP wX.o.own (gS wX.o.own qC.o.at.blk (by decide)) _);have cY:=η dA;have BD:Hid (w.heap.size<=lb):=η wX.o.lo;clear dA wX qC c14 f14 aGR;generalize w4.setCell ⟨db,14,aB⟩ (bK aO)=w5 at*;have NV:lb<w5.heap.size:=(fY.1 cY.o).1;have yK:Hid (∀W,β w5 W->W.cell? ⟨db,8,aB⟩=aC (π p.vb)/\W.cell? ⟨lb,0,aB⟩=aC (aH A4 (aA (fX D)) k4)):=η (λW hW=>⟨(ow.o.at.below hW).cells.c8,bH _ _ _ _ _ (0,0) ((hW.block lb NV).trans cY.o)⟩);have dT:Hid (fZ {D with en:=aO}):=η ⟨HP.o.ok.lI,HP.o.ok.hl,HP.o.ok.wl,HP.o.ok.gl,HP.o.ok.ob,HP.o.ok.bl,HP.o.ok.st⟩;have ZU:Hid (∀x∈fX D,x.ok):=η (aFN HP.o);have ZT:Hid (aA (fX D)<=1000):=η (by unfold fX;rw [cN,cN,hM];have:=vD.o;simp [gg];omega);have HPT:Hid (∀W,β w5 W->aQ aM 50 #[π p.vb,aH A4 (aA (fX D)) k4] W λe W'=>e=aT (ν ee)/\aq db p (Mb D) W W'/\W'.cell? ⟨db,8,aB⟩=aC (π p.vb)/\W'.cell? ⟨lb,0,aB⟩=aC (aH A4 (aA (fX D)) k4)):=η (λW hW=>by
     have HH:=ow.o.at.below hW;refine(Yk p.vb p.vp (aA D.x.ms) (aA D.x.ss+1) (aA D.x.ms) D.l D.h (fX D) A4 k4 W HH.vt (aW.cB (iJ fP.o hW)) ZU.o dT.o.lI (by have:=dT.o.hl;simp only at this;omega) (by have:=ZT.o;omega)).mono ?_;intro e W' h;obtain⟨q1,q2⟩:=HH.moved h;have hn:¬eW db p lb:=λh=>by have h1:=HF.o.td h;have h2:=BD.o;omega
     obtain⟨_,r1⟩:=yK.o W hW;have r2:=(q2.cell 0 (cL NV hW.size) hn).trans r1;obtain⟨p3,H3,f1,f2,f3,f4,qU,hs3⟩:=q2;exact⟨by rw [HE.o,<-hM];exact q1,⟨p3,H3,f1,f2,f3,f4,qU,hs3⟩,by rw [<-f1];exact H3.cells.c8,r2⟩)
    have bQ:β w5 w5.drew:=(aX _ _).drew;have hdd:=yK.o _ bQ;clear dT ZU ZT fP vD;go_region_held3 (λW=>W.cell? ⟨db,8,aB⟩=aC (π p.vb)/\W.cell? ⟨lb,0,aB⟩=aC (aH A4 (aA (fX D)) k4)) (first|(with_reducible assumption)) ((go_at_call 50;with_reducible refine uD (HPT.o _ (by with_reducible assumption)) ?_;rintro e w6 ⟨rfl,hpt,We⟩))
    obtain⟨p6,q6,_⟩:=(ow.o.below bQ).then hpt;have oz:=η q6;clear q6 hpt We bQ hdd HPT yK ow;go_wp2_with fail
    go_ret;exact⟨rfl,by rw [HW.o];exact oz.o.p⟩
section
theorem a8d {w:aJ} {ops:Array Oper} {rest:List Oper} {o:Oper} {a:Act} {Q:Exit->Act->aJ->Prop}(hgd:o.guard=aB)(s x:Operand)
 (ho:o.op= .call {callee:= .builtin .append,args:= #[s,x],argTypes:= #[39,39]}) (base:Nat)
 (v:aN) (n:Nat) (xs:List aN) (hs:a.eval s=v) (hown:w.ownsRow base 76 3 v n xs)
 (A:Option ai) (c:Nat) (L:List Lg) (hx:a.eval x=aH A (aA L) c) (hz:su w A c L) (hlen:n+aA L<=1000000) (hbase:base<=w.heap.size)
 (h:∀v' w',w'.ownsRow base 76 3 v' (n+aA L) (xs++bB L)->w.grownBy w' v.ownBlock->(v'.ownBlock=v.ownBlock\/v'.ownBlock=aC w.heap.size)->wpList aM ops Q rest (a.put o.dst v') w'):wpList aM ops Q (o::rest) a w:=by
 obtain⟨i0,bu,hz0,hz1,hz2⟩:=dP Nf;cases A with
 |none=>
  obtain⟨h1,rfl⟩:=hz.nil rfl;obtain rfl:L= []:=nU h1;refine wpList_append_own_none hgd s x 39 ho base 76 i0 3 tG bu v n xs hs hown hx (h v w (by simpa [bB] using hown) ⟨rfl,rfl,rfl,aZ _,λ_ _ _=>rfl⟩ (.inl rfl))
 |some ad=>
  refine wpList_append_own_at w hgd s x 39 ho base 76 i0 _ 3 24 tG bu hz0 hz1 hz2 rfl (by decide) v n xs hs hown ad (aA L) c (bB L) hx (a5X L) ?_ (a5Y L) (by simp only [bO];omega) (by omega) hbase ?_
  ·intro j u hu;obtain⟨b,o',e,_,hc⟩:=hz.eA j u hu;have e:=pH e;subst e;have ea:(⟨b,o',aB⟩:ai).add j=⟨b,o'+j,aB⟩:=by unfold Addr.add;split<;>simp_all
   rw [ea];exact hc
  intro v' w' h1 h2 _ h4;exact h v' w' h1 h2 h4
def TL:List bZ:= [76,39]
theorem bV.far {w w':aJ} {db:Nat} {p:Dp} {D:Dk}(H:bV w db p D) {S:Nat->Prop}(hu:bA S w w')(hS:∀k,S k->Ty w TL k):bV w' db p D:=by
 have no:∀ {T:List bZ} {k:Nat},Ty w T k->(∀t∈T,t∉TL)->¬S k:=λhk hd hs=>hk.apart (hS _ hs) hd
 exact⟨(hu.keep db H.lt (no H.ty (by decide))).trans H.blk,H.cf.upd hu (λk hk=>no hk (by decide)),H.vt.upd hu (λk hk=>no (H.vt.ty hk) (by decide)),H.sh.upd hu (λk hk=>no hk (by decide)),H.bx.upd hu (λk hk=>no hk (by decide)),H.CN.upd hu (λk hk=>no hk (by decide)),H.same,hu.own H.who (λk hk=>no (Ty.own H.who hk) (by decide)),hu.own H.log (λk hk=>no (Ty.own H.log hk) (by decide))⟩
theorem dB.far {w wr w':aJ} {db:Nat} {p pk:Dp} {D:Dk}(hq:dB db p pk D w wr) {S:Nat->Prop}(hu:bA S wr w')(hS:∀k,S k->Ty wr TL k)(hn:∀k,S k->w.heap.size<=k):dB db p pk D w w':=by obtain⟨H,e1,e2,e3,e4,sD,vx⟩:=hq;refine⟨H.far hu hS,e1,e2,e3,e4, ?_,vx⟩;exact sD.trans hu (λk hk=> .inr (hn k hk))
structure nB(w:aJ)(db:Nat)(pk:Dp)(gb:Nat)(cs:List aN)(GS:List (List Lg))(lv:aN)(LK:List Lg)(wr:aJ):Prop where
 Bf:wr.heap[gb]? =aC (aK cs.toArray 39 (0,0))
 KL:¬eW db pk gb
 Mj:w.heap.size<=gb
 len:aA cs=aA GS
 each:∀j (h:j<aA GS),∃A c,cs[j]? =aC (aH A (aA (GS[j])) c)/\iM db pk wr A (bB GS[j])/\(bB GS[j]≠ []->∀q,A=aC q->q.block≠gb/\lv.ownBlock≠aC q.block)
 own:wr.ownsRow w.heap.size 76 3 lv (aA LK) (bB LK)
 Nq:∀k,lv.ownBlock=aC k->¬eW db pk k
section
variable {w wr w':aJ} {db:Nat} {pk:Dp} {gb:Nat} {cs:List aN} {GS:List (List Lg)} {lv:aN} {LK:List Lg} (H:nB w db pk gb cs GS lv LK wr)
include H
theorem nB.yc:gb<wr.heap.size:=(fY.1 H.Bf).1
theorem nB.step {p':Dp} {D':Dk}(hq:dB db pk p' D' wr w'):nB w db p' gb cs GS lv LK w':=by
 have hq':=hq;obtain⟨_,_,_,_,_,hu,hs⟩:=hq;refine⟨(hu.keep gb H.yc H.KL).trans H.Bf,λh=> ?_,H.Mj,H.len,λj h=> ?_,hu.own H.own H.Nq,λk hk h=> ?_⟩
 ·rcases hs _ h with h1|h1
  ·exact H.KL h1
  have:=H.yc;omega
 ·obtain⟨A,c,h1,h2,h3⟩:=H.each j h;exact⟨A,c,h1,h2.step hq',h3⟩
 rcases hs _ h with h1|h1
 ·exact H.Nq k hk h1
 have:=(H.own.lt k hk).2;omega
theorem nB.below(hb:aa wr.heap.size wr w'):nB w db pk gb cs GS lv LK w':=by refine⟨(hb.block gb H.yc).trans H.Bf,H.KL,H.Mj,H.len,λj h=> ?_,iJ H.own hb,H.Nq⟩;obtain⟨A,c,h1,h2,h3⟩:=H.each j h;exact⟨A,c,h1,h2.below hb,h3⟩
theorem nB.cell {j:Nat}(h:j<aA GS):∃A c,wr.cell? ⟨gb,j,aB⟩=aC (aH A (aA (GS[j])) c)/\iM db pk wr A (bB GS[j]):=by obtain⟨A,c,h1,h2,_⟩:=H.each j h;refine⟨A,c, ?_,h2⟩;rw [bH wr gb j _ _ (0,0) H.Bf];simpa using h1
theorem nB.ngl:lv.ownBlock≠aC gb:=gS H.own H.Bf (by decide)
theorem nB.put {j:Nat}(hj:j<aA GS) {A:Option ai} {c:Nat} {G:List Lg} {w0:aJ}(ho:oF db pk w0 wr A c G)(hg:gb<w0.heap.size)(hl:∀k,lv.ownBlock=aC k->k<w0.heap.size):nB w db pk gb (cs.set j (aH A (aA G) c)) (GS.set j G) lv LK (wr.setCell ⟨gb,j,aB⟩ (aH A (aA G) c)):=by
 have hb:∀k,k≠gb->(wr.setCell ⟨gb,j,aB⟩ (aH A (aA G) c)).heap[k]? =wr.heap[k]? :=λk hk=>nR _ _ _ _ hk
 have hsz:(wr.setCell ⟨gb,j,aB⟩ (aH A (aA G) c)).heap.size=wr.heap.size:=by simp
 have Kg:∀ {B:Option ai} {xs:List aN},iM db pk wr B xs->(xs≠ []->∀q,B=aC q->q.block≠gb)->iM db pk (wr.setCell ⟨gb,j,aB⟩ (aH A (aA G) c)) B xs:=by intro B xs h1 h2;refine⟨?_,h1.o⟩;rw [hsz];intro i u hu;obtain⟨b,o,e,hb',hc⟩:=h1.eA i u hu;refine⟨b,o,e,hb', ?_⟩;rw [<-hc];exact gu (a:=⟨b,o+i,aB⟩) (hb b (h2 (by rintro rfl;simp at hu) _ e))
 refine⟨?_,H.KL,H.Mj,by rw [xD,xD];exact H.len,λi hi=> ?_,kP H.own H.ngl _,H.Nq⟩
 ·rw [lz H.Bf j _];simp
 rw [xD] at hi;by_cases s8:j=i
 ·subst s8;refine⟨A,c,by rw [List.getElem?_set];simp [H.len,hi], ?_, ?_⟩
  ·rw [a0J];exact Kg ho.o (λ_ q hq e=>by have:=ho.new q hq;omega)
  rw [a0J];exact λ_ q hq=>⟨λe=>by have:=ho.new q hq;omega,λe=>by have h1:=ho.new q hq;have h2:=hl _ e;omega⟩
 obtain⟨B,d,h1,h2,h3⟩:=H.each i hi;refine⟨B,d,by rw [List.getElem?_set,ifN s8];rw [a0I s8];exact h1, ?_, ?_⟩
 ·rw [a0I s8];exact Kg h2 (λhx q hq=>(h3 hx q hq).1)
 rw [a0I s8];exact h3
theorem nB.more {yo:aN} {K:List Lg} {n:Nat}(hn:n=aA (LK++K))(ho:w'.ownsRow w.heap.size 76 3 yo n (bB (LK++K)))(hg:wr.grownBy w' lv.ownBlock)(ha:yo.ownBlock=lv.ownBlock\/yo.ownBlock=aC wr.heap.size)(hlt:∀k,eW db pk k->k<wr.heap.size):nB w db pk gb cs GS yo (LK++K) w':=by
 subst hn;refine⟨(hg.block gb H.yc (λe=>H.ngl e.symm)).trans H.Bf,H.KL,H.Mj,H.len,λj h=> ?_,ho,λk hk h=> ?_⟩
 ·obtain⟨A,c,h1,h2,h3⟩:=H.each j h;refine⟨A,c,h1,⟨?_,h2.o⟩,λhx q hq=>⟨(h3 hx q hq).1,λe=> ?_⟩⟩
  ·intro i u hu;obtain⟨b,o,e,hb,hc⟩:=h2.eA i u hu;refine⟨b,o,e,cL hb hg.size, ?_⟩;rw [<-hc];have hx:bB GS[j]≠ []:=by intro e0;rw [e0] at hu;simp at hu
   exact gu (a:=⟨b,o+i,aB⟩) (hg.block b hb (λe'=>(h3 hx _ e).2 e'.symm))
  rcases ha with ha|ha
  ·rw [ha] at e;exact(h3 hx q hq).2 e
  rw [ha] at e;injection e with e;have:=a7P h2.eA hx q hq;omega
 rcases ha with ha|ha
 ·exact H.Nq k (ha▸hk) h
 rw [ha] at hk;injection hk with hk;have:=hlt k h;omega
theorem nB.upd {n:Nat} {D:Dk} {p:Dp}(hq:dB db p pk D w wr)(hg:wr.grownBy w' lv.ownBlock):dB db p pk D w w':=
 hq.far (S:=λk=>lv.ownBlock=aC k) (bA.Iy hg (λk hk=> .inl hk)) (λk hk=>(Ty.own H.own hk).mono (by decide)) (λk hk=>(H.own.lt k hk).1)
theorem nB.a8S {D:Dk} {p:Dp}(hq:dB db p pk D w wr)(j:Nat)(u:aN):dB db p pk D w (wr.setCell ⟨gb,j,aB⟩ u):=
 hq.far (S:=λk=>k=gb) ((bA.refl (λk=>k=gb) wr).setCell (p:=⟨gb,j,aB⟩) (.inl rfl) u) (λk hk=>⟨_,_,by decide,hk▸H.Bf⟩) (λk hk=>hk▸H.Mj)
end
end
inductive wP(D:Dk):Nat->Dk->Prop
 |zero:wP D 0 D
 |succ {n:Nat} {E E':Dk}:wP D n E->JG E ((n:Int)+1) E'->wP D (n+1) E'
def hands(E:Dk):Nat->Dk
 |0=>E
 |n+1=>FB (hands E n) ((n:Int)+1)
def ry(E:Dk)(N:Nat):Nat->List (List Lg)
 |0=>gP (N+1) []
 |k+1=>(ry E N k).set (k+1) (ja (hands E k) ((k:Int)+1))
def iZ(E:Dk):Nat->List Lg
 |0=> []
 |k+1=>iZ E k++oM (hands E k) ((k:Int)+1)
theorem aG8(E:Dk)(N k:Nat):aA (ry E N k)=N+1:=by
 induction k with
 |zero=>simp [ry]
 |succ k ih=>unfold ry;rw [xD];exact ih
def Fl(GS:List (List Lg))(lost:List Lg)(E:Dk)(x:Ob):Dk:= {E with ob:=lY x.m x.a (sP x.a (-x.az) (ofV x.m (GS.getD x.a.toNat [])) (decide (ofV x.m lost>0))) (Bu (-x.az) (ofV x.m (GS.getD x.a.toNat []))) E.ob}
def sO(GS:List (List Lg))(lost:List Lg)(E:Dk)(L:List Ob):Dk:=L.foldl (Fl GS lost) E
theorem aHz {GS:List (List Lg)} {lost:List Lg} {E:Dk} {L:List Ob} {k:Nat}(h:k<aA L):sO GS lost E (L.take (k+1))=Fl GS lost (sO GS lost E (L.take k)) L[k]:=by rw [fH h];unfold sO;rw [List.foldl_append];rfl
def tO(D:Dk):List Ob:=D.ob.filter λx=>x.st==1&&(λx=>decide (x.az<0)) x
def o6(E:Dk):Dk:=hands E (aA E.x.ss)
def pY(E:Dk):List Lg:=iZ E (aA E.x.ss)
def eZ(E:Dk):Dk:=J2 (o6 E) (pY E)
def uA(E:Dk):List (List Lg):=(ry E (aA E.x.ss) (aA E.x.ss)).set 0 (jA (o6 E) (pY E))
def CF(E:Dk):List Lg:=mj (o6 E) (pY E)
def iu(E:Dk):Dk:=sO (uA E) (CF E) (eZ E) (tO (eZ E))
def O4(E:Dk):Dk:=leaveD (iu E) ((iu E).x.ss.length+1)
def pX(E:Dk):Dk:= {O4 E with bx:= [],st:=0}
def K0(D D':Dk):Prop:=(D.st≠2/\D'=D)\/(D.st=2/\∃E,wP D (aA D.x.ss) E/\D'=pX E)
def J7(D:Dk):Int:=if D.st=2 then 0 else 11
structure P9(D:Dk)(s:Int):Prop where
 b:aL (balA (aA D.x.ms) (aA D.x.ss+1) D.l 1 0 s)
 O:∀k,k<=aA (ja D s)->fZ (j5 D ((ja D s).take k))
 I:∀x∈ja D s,aL x.m/\aL x.a/\aL x.n/\0<=x.n
 l:aA (ja D s)<=80000
 g:(j5 D (ja D s)).log.length+aA (oM D s)<=90000
 k:aA (oM D s)<=400
structure a0T(E:Dk):Prop where
 sl:aA E.x.ss<=1000
 hand:∀k,k<aA E.x.ss->P9 (hands E k) ((k:Int)+1)
 lk:∀k,k<=aA E.x.ss->aA (iZ E k)<=400
 pay:PN (o6 E) (pY E)
 ol:(eZ E).ob.length<=1024
 cl:∀x∈tO (eZ E),0<=x.a/\x.a<((aA E.x.ss+1:Nat):Int)/\aL x.az/\gA<x.az
 mO:∀k,k<=aA (tO (eZ E))->fZ (sO (uA E) (CF E) (eZ E) ((tO (eZ E)).take k))
 gl:∀G∈uA E,aA G<=100000
 ll:aA (CF E)<=100000
 vO:∀k,k<=(iu E).x.ss.length+1->fZ (leaveD (iu E) k)
 vI:∀k,k<=(iu E).x.ss.length->aL (balA (iu E).x.ms.length ((iu E).x.ss.length+1) (leaveD (iu E) k).l 1 0 (k:Int))
 vs:(iu E).x.ss.length<=100000
structure Ud(D:Dk):Prop where
 sl:aA D.x.ss<=1000
 Px:∀n E,n<aA D.x.ss->wP D n E->Sy E ((n:Int)+1)
 rest:∀E,wP D (aA D.x.ss) E->a0T E
theorem oF.a7R {db:Nat} {p:Dp} {w0 wr:aJ} {A:Option ai} {c:Nat} {L:List Lg}(h:oF db p w0 wr A c L) {gb:Nat}(hg:gb<w0.heap.size)(j:Nat)(u:aN):oF db p w0 (wr.setCell ⟨gb,j,aB⟩ u) A c L:=by
 refine⟨⟨?_,h.o.o⟩,h.new,h.nil⟩;have hsz:(wr.setCell ⟨gb,j,aB⟩ u).heap.size=wr.heap.size:=by simp
 rw [hsz];intro i v hv;obtain⟨b,o,e,hb,hc⟩:=h.o.eA i v hv;refine⟨b,o,e,hb, ?_⟩;rw [<-hc];exact gu (a:=⟨b,o+i,aB⟩) (nR _ _ _ _ (λe'=>by have h1:w0.heap.size<=b:=h.new _ e;simp only at e';omega))
theorem aHt(n:Nat):madeCells (aH aB 0 0).cells n=jh n (aH aB 0 0):=by apply Array.toList_inj.1;have e:(aH aB 0 0).cells= #[aH aB 0 0]:=rfl;rw [e,toList_madeCells_one];simp
theorem aHv(n:Nat)(hn:n<=100000)(W:aJ):(PB 124 (aG aF (n:Int)) (aG aF (n:Int))).run aM W= .ok (aH (aC ⟨W.heap.size,0,aB⟩) n n) (W.alloc (aK (jh n (aH aB 0 0)) 39)):=by
 have inf:(aM.info? 39).map (λi=>(i.zero,i.size,i.bytes))=aC (aC (aH aB 0 0),1,24):=by kernel_rfl
 obtain⟨i0,hi,hz0,hz1,hz2⟩:=dP inf;have h:=run_makeSlice (P:=aM) W 124 39 i0 _ underlying124 hi hz0 aF aF n n (by omega) (dM _) (by rw [hz1];simp;omega) (by rw [hz2];simp;omega) (by omega);rw [hz1] at h;simp only [Int.toNat_natCast,Nat.mul_one] at h;rw [aHt] at h;exact h
theorem aHw(n:Nat)(hn:n<=10000)(W:aJ):(PB 124 (aG aF ((n:Int)+1)) (aG aF ((n:Int)+1))).run aM W= .ok (aH (aC ⟨W.heap.size,0,aB⟩) (n+1) (n+1)) (W.alloc (aK (jh (n+1) (aH aB 0 0)) 39)):=by have h:=aHv (n+1) (by omega) W;rw [show (((n+1:Nat):Int))=(n:Int)+1 from by omega] at h;exact h
theorem bV.cleared {w:aJ} {db:Nat} {p:Dp} {D:Dk}(H:bV w db p D)(h:jD (w.setCell ⟨p.xb,8,aB⟩ (aH aB 0 0)) p.xb p.xc (aH aB 0 0) []):aq db p {D with bx:= []} w (w.setCell ⟨p.xb,8,aB⟩ (aH aB 0 0)):=
 H.boxed h ((bA.refl _ _).setCell (p:=⟨p.xb,8,aB⟩) (.inl (.inl rfl)) _) (λk hk=>by simp [eF] at hk)
theorem a2g(db:Nat)(p:Dp)(D:Dk)(w:aJ)(H:bV w db p D)(hP:D.st=2->Ud D):
 aQ aM 29 #[bD (aC ⟨db,0,aB⟩)] w λe w'=>e=aT (aG aF (J7 D))/\∃D',K0 D D'/\aq db p D' w w':=by
 have hb0:aa w.heap.size w (w.alloc (aK #[aG aF 2] 3)):=(aX _ _).alloc (aZ _) _;have jS:=η (KD db p D 2 (aC ⟨w.heap.size,0,aB⟩) 1 _ (H.below hb0) (λj u hu=>⟨w.heap.size,0,rfl,by simp,by
  match j,hu with
  |0,hu=>exact(cM w #[aG aF 2] 3 0 rfl).trans (by simpa using hu)
  |j+1,hu=>simp at hu⟩))
 have HF:=η H;have aY:=η hb0;clear hb0 H;by_cases h1:D.st=2
 case neg=>
  have e2:J7 D=11:=by unfold J7;rw [ifN h1]
  have HR:Hid (K0 D D):=η (.inl ⟨h1,rfl⟩);rw [ifN h1] at jS;rw [e2];clear h1 e2 hP;go_enter aB8,aBt
  go_wp2_with (go_at_call 51;refine jS.o.mono ?_;rintro e w1 ⟨rfl,hb1⟩;have aR:=τ aY hb1;clear hb1)
  go_ret;exact⟨rfl,D,HR.o,aq.bY HF.o aR.o⟩
 have HP:=η (hP h1);have e2:J7 D=0:=by unfold J7;rw [ifP h1]
 have HR:Hid (∀E,wP D (aA D.x.ss) E->K0 D (pX E)):=η (λE h=> .inr ⟨h1,E,h,rfl⟩);rw [ifP h1] at jS;rw [e2];have jt:aA D.x.ss<=1000:=HP.o.sl;clear h1 e2 hP;go_enter aB8,aBt
 go_upto_region 4 with (go_at_call 51;refine jS.o.mono ?_;rintro e w1 ⟨rfl,hb1⟩;have aR:=τ aY hb1;clear hb1)
 clear jS aY;have iF:Hid (∃E,wP D 0 E/\dB db p p E w w1):=η ⟨D,.zero,dB.bY HF.o aR.o⟩;have xU:=(HF.o.below aR.o).lt;have c1:=(HF.o.below aR.o).cells.c1;clear HF aR;generalize hN:aA D.x.ss=N at*;go_upto_region 5 with (fail)
 clear c1 xU;go_loopw [4,27] (λ_ i wr=>∃(k:Nat) (pk:Dp),k<=N/\i=aG aF (k:Int)/\Hid (∃E,wP D k E/\dB db p pk E w wr)) (λ_ i _=>N-(ag i).toNat)
 case atStart=>exact⟨0,p,bM _,rfl,iF⟩
 case round=>
  clear iF;obtain⟨k,pk,hk,rfl,HQ⟩:=hrel;by_cases hlt:k<N
  ·have ej:(0:Int)<=(k:Int):=by omega
   have hkb:(k:Int)<(N:Int):=by omega
   have LL:Hid (aQ aM 70 #[bD (aC ⟨db,0,aB⟩),aG aF ((k:Int)+1)] wr λe w'=>e=aT (bC #[])/\∃p',∃E,wP D (k+1) E/\dB db p p' E w w'):=η (by obtain⟨E,hE,hq⟩:=HQ.o;refine(aEt db pk E ((k:Int)+1) wr hq.at (HP.o.Px k E (by rw [hN];exact hlt) hE)).mono ?_;rintro e w' ⟨h1,E',h2,h3⟩;obtain⟨p',h4,_⟩:=hq.then h3;exact⟨h1,p',E',.succ hE h2,h4⟩);go_wp2_with (go_at_call 70;refine LL.o.mono ?_;rintro e w2 ⟨rfl,p2,h2⟩;have lT:=η h2;clear h2)
   go_roundw
   case rel=>exact⟨k+1,p2,by omega,by go_num,lT⟩
   case measure=>simp [ag];omega
  obtain rfl:k=N:=by omega
  obtain⟨E,hE,hq⟩:=HQ.o;have BH:=η hq;have U4:=η (HR.o E (by rw [hN] at*;exact hE));have dT:=η (HP.o.rest E (by rw [hN];exact hE));clear hE hq HQ HR HP hN hk hlt jt;have jt:aA E.x.ss<=1000:=dT.o.sl;have xU:=BH.o.at.lt;have c1:=BH.o.at.cells.c1;have kT:Hid (∀k,k<=aA E.x.ss->aA (iZ E k)<=400):=η dT.o.lk;have OZ:Hid (∀k,k<aA E.x.ss->P9 (hands E k) ((k:Int)+1)):=η dT.o.hand;have mk:=aHw (aA E.x.ss) (by omega) wr;have hG0:ry E (aA E.x.ss) 0=gP (aA E.x.ss+1) []:=rfl;have B8:=η hG0;clear hG0;have LY:Hid (hands E 0=E):=η rfl;have Le:Hid (iZ E 0= []):=η rfl;have yI:Hid (∀k,hands E (k+1)=FB (hands E k) ((k:Int)+1)):=η (λ_=>rfl);have Za:Hid (∀N k,ry E N (k+1)=(ry E N k).set (k+1) (ja (hands E k) ((k:Int)+1))):=η (λ_ _=>rfl);have GN:Hid (∀k,iZ E (k+1)=iZ E k++oM (hands E k) ((k:Int)+1)):=η (λ_=>rfl);have Ta:Hid (o6 E=hands E (aA E.x.ss)):=η rfl;have Oe:Hid (pY E=iZ E (aA E.x.ss)):=η rfl;have TU:Hid (uA E=(ry E (aA E.x.ss) (aA E.x.ss)).set 0 (jA (o6 E) (pY E))):=η rfl;have BB:Hid (∀k,aA (ry E (aA E.x.ss) k)=aA E.x.ss+1):=η (λk=>aG8 E _ k);generalize hM:aA E.x.ss=M at*;have lT:Hid (dB db p pk (hands E 0) w (wr.alloc (aK (jh (M+1) (aH aB 0 0)) 39))):=η (by rw [LY.o];exact BH.o.below ((aX _ _).alloc (aZ _) _));have fg:Hid (nB w db pk wr.heap.size (gP (M+1) (aH aB 0 0)) (ry E M 0) (aH aB 0 0) (iZ E 0) (wr.alloc (aK (jh (M+1) (aH aB 0 0)) 39))):=η (by
   rw [B8.o,Le.o];refine⟨?_,λh=>by have:=BH.o.at.td h;omega,BH.o.size,by simp,λj h=>⟨aB,0, ?_, ?_, ?_⟩,gG _ _ _ _,λk hk=>by simp [eF] at hk⟩
   ·rw [List.toArray_replicate];exact cQ wr _
   ·have hj:j<M+1:=by simpa using h
    rw [List.getElem?_replicate,ifP hj,PG];rfl
   ·rw [PG];exact iM.nil
   rw [PG];exact λh=>absurd rfl h)
  go_upto_region 9 with (fail)
  go_upto_region 10 with (fail)
  clear mk;generalize (wr.alloc (aK (jh (M+1) (aH aB 0 0)) 39))=w2 at*;obtain⟨gb,hgb⟩:∃gb,gb=wr.heap.size:=⟨_,rfl⟩;rw [<-hgb] at fg ⊢;generalize gP (M+1) (aH aB 0 0)=cs0 at*;have xU:=lT.o.at.lt;have c1:=lT.o.at.cells.c1;rw [LY.o,hM] at c1;clear hgb B8 Le BH;go_upto_region 12 with (fail)
  clear c1 xU;have nA:Hid (∃cs,nB w db pk gb cs (ry E M 0) (aH aB 0 0) (iZ E 0) w2):=η ⟨_,fg.o⟩;clear fg;go_loopw [6,7,8,9,49] (λlv _ _ _ i wr=>∃(k:Nat) (pk:Dp),k<=M/\i=aG aF (k:Int)/\Hid (dB db p pk (hands E k) w wr)/\Hid (∃cs,nB w db pk gb cs (ry E M k) lv (iZ E k) wr)) (λ_ _ _ _ i _=>M-(ag i).toNat)
  case atStart=>exact⟨0,pk,bM _,rfl,lT,nA⟩
  case round=>
   clear nA lT;obtain⟨k,pk,hk,rfl,HQ,vE⟩:=hrel;by_cases hlt:k<M
   ·have ej:(0:Int)<=(k:Int):=by omega
    have hkb:(k:Int)<(M:Int):=by omega
    obtain⟨cs,hi⟩:=vE.o;have HI:=η hi;clear hi vE;have EO:=η (OZ.o k hlt);have Zb:=η (aEz db pk (hands E k) ((k:Int)+1) wr HQ.o.at EO.o.b EO.o.O EO.o.I EO.o.l EO.o.g (by have:=EO.o.k;omega));have a9S:=η (yI.o k);have a9Q:=η (Za.o M k);have a9V:=η (GN.o k);have a9W:Hid (aA (iZ E k)<=400):=η (kT.o k (by omega));have a9U:Hid (aA (oM (hands E k) ((k:Int)+1))<=400):=η EO.o.k;have TW:=η (BB.o k);clear EO;generalize ja (hands E k) ((k:Int)+1)=G at*;generalize oM (hands E k) ((k:Int)+1)=K at*;generalize FB (hands E k) ((k:Int)+1)=E3 at*;go_upto_region 15 with (go_at_call 71;refine Zb.o.mono ?_;rintro e w3 ⟨A3,k3,B3,d3,p3,rfl,Kc,nu,Bi⟩;have Ji:=η (HQ.o.trans Kc);have qX:=η (HI.o.step Kc);have iV:=η nu;have Zp:=η Bi;clear Kc nu Bi)
    clear Zb HQ;have rD:k+1<aA (ry E M k):=by rw [TW.o];omega
    have La:=η rD;obtain⟨A9,n9,c9,g9⟩:∃A n c,w3.cell? ⟨gb,k+1,aB⟩=aC (aH A n c):=by obtain⟨A,c,h,_⟩:=qX.o.cell rD;exact⟨A,_,c,h⟩
    have f9:w3.frozen? ⟨gb,k+1,aB⟩=aP:=by have hb:=qX.o.Bf;simp [iO,hb]
    have NQ:((k:Int)+1).toNat=k+1:=by omega
    have aGc:=qX.o.yc;clear rD;go_upto_region 16 with (fail)
    have wX:=η (qX.o.put La.o iV.o HI.o.yc (λj hj=>(HI.o.own.lt j hj).2));have qC:=η (qX.o.a8S Ji.o (k+1) (aH A3 (aA G) k3));have Tl:=η (Zp.o.a7R HI.o.yc (k+1) (aH A3 (aA G) k3));clear qX Ji Zp iV HI g9 f9 NQ aGc La;generalize (w3.setCell ⟨gb,k+1,aB⟩ (aH A3 (aA G) k3))=w4 at*;go_wp2_with (at_builtin;refine a8d rfl _ _ rfl w.heap.size _ (aA (iZ E k)) (bB (iZ E k)) rfl wX.o.own B3 d3 K rfl ⟨Tl.o.o.eA,Tl.o.nil⟩ (by have:=a9W.o;have:=a9U.o;omega) qC.o.size ?_)
    intro yo w5 iY fA ha5;have GK:Hid (∃cs,nB w db p3 gb cs (ry E M (k+1)) yo (iZ E (k+1)) w5):=η ⟨_,by rw [a9Q.o,a9V.o];exact wX.o.more (n:=aA (iZ E k)+aA K) (by simp) (by rw [show bB (iZ E k++K)=bB (iZ E k)++bB K from by simp [bB]];exact iY) fA ha5 (λj hj=>qC.o.at.td hj)⟩;have ow:Hid (dB db p p3 (hands E (k+1)) w w5):=η (by rw [a9S.o];exact wX.o.upd (n:=0) qC.o fA);clear iY fA ha5 wX qC Tl;go_wp2_with fail
    go_roundw
    case rel=>exact⟨k+1,p3,by omega,by go_num,ow,GK⟩
    case measure=>simp [ag];omega
   obtain rfl:k=M:=by omega
   obtain⟨cs,hi⟩:=vE.o;obtain⟨Al,cl,hlv⟩:=bL hi.own;subst hlv;have HI:=η hi;have jr:=HI.o.yc;clear hi vE OZ kT Za GN yI;have Co:Hid (PN (hands E k) (iZ E k)):=η (by have h:=dT.o.pay;rw [Ta.o,Oe.o] at h;exact h);have EZ:=η (aF8 db pk (hands E k) (iZ E k) Al cl wr HQ.o.at (aW.cB HI.o.own) Co.o);rw [<-Ta.o,<-Oe.o] at EZ;have hsp:eZ E=J2 (o6 E) (pY E):=rfl;have a4c:CF E=mj (o6 E) (pY E):=rfl;rw [<-hsp,<-a4c] at EZ;have TW:=η (BB.o k);have Tk:Hid (aA (uA E)=k+1):=η (by rw [TU.o,xD];exact BB.o k);have uO:Hid ((eZ E).ob.length<=1000000):=η (by have:=dT.o.ol;omega);have eK:aA (pY E)=aA (iZ E k):=by rw [Oe.o]
   rw [eK] at EZ;clear Co hsp a4c eK BB LY;go_upto_region 19 with (go_at_call 72;refine EZ.o.mono ?_;rintro e w6 ⟨A6,c6,B6,d6,p6,rfl,FW,hn6,hm6⟩;have oz:=η (HQ.o.trans FW);have uL:=η (HI.o.step FW);have wZ:=η hn6;have Jc:=η hm6;clear FW hn6 hm6)
   clear EZ HQ;have rD:0<aA (ry E k k):=by rw [TW.o];omega
   have La:=η rD;obtain⟨A9,n9,c9,g9⟩:∃A n c,w6.cell? ⟨gb,0,aB⟩=aC (aH A n c):=by obtain⟨A,c,h,_⟩:=uL.o.cell rD;exact⟨A,_,c,h⟩
   have f9:w6.frozen? ⟨gb,0,aB⟩=aP:=by have hb:=uL.o.Bf;simp [iO,hb]
   have aGd:=uL.o.yc;clear rD;go_upto_region 20 with (fail)
   have GL:Hid (∃cs,nB w db p6 gb cs (uA E) (aH Al (aA (iZ E k)) cl) (iZ E k) (w6.setCell ⟨gb,0,aB⟩ (aH A6 (aA (jA (o6 E) (pY E))) c6))):=η ⟨_,by rw [TU.o];exact uL.o.put La.o wZ.o HI.o.yc (λj hj=>(HI.o.own.lt j hj).2)⟩;have qg:=η (uL.o.a8S oz.o 0 (aH A6 (aA (jA (o6 E) (pY E))) c6));have Oo:=η (Jc.o.a7R HI.o.yc 0 (aH A6 (aA (jA (o6 E) (pY E))) c6));clear uL oz Jc wZ HI g9 f9 aGd La TU;generalize (w6.setCell ⟨gb,0,aB⟩ (aH A6 (aA (jA (o6 E) (pY E))) c6))=w7 at*;have c9':=qg.o.at.cells.c9;have aGS:=qg.o.at.lt;have TJ:=η (aIZ (eZ E).ob p6.sv p6.sb 0 w7 qg.o.at.sh uO.o);have hce:((eZ E).ob.filter λx=>x.st==1&&(λx=>decide (x.az<0)) x)=tO (eZ E):=rfl;rw [hce] at TJ;have kL:aA (tO (eZ E))<=100000:=by have h1:aA (tO (eZ E))<=(eZ E).ob.length:=qo _ _;have:=dT.o.ol;omega
   have OO:Hid (∀x∈tO (eZ E),0<=x.a/\x.a<((k+1:Nat):Int)/\aL x.az/\gA<x.az):=η (by have h:=dT.o.cl;rw [hM] at h;exact h);have vG:Hid (∀j,j<=aA (tO (eZ E))->fZ (sO (uA E) (CF E) (eZ E) ((tO (eZ E)).take j))):=η dT.o.mO;have OY:Hid (∀G∈uA E,aA G<=100000):=η dT.o.gl;have nH:aA (CF E)<=100000:=dT.o.ll;have mP:=η nH;have zJ:Hid (iu E=sO (uA E) (CF E) (eZ E) (tO (eZ E))):=η rfl;have HVE:Hid (O4 E=leaveD (iu E) ((iu E).x.ss.length+1)):=η rfl;have GI:Hid (pX E= {O4 E with bx:= [],st:=0}):=η rfl;have lR:=η (λW p' (h:bV W db p' (iu E))=>aF2 db p' (iu E) W h dT.o.vO dT.o.vI dT.o.vs);rw [<-HVE.o] at lR;clear hce uO dT jr hM Ta Oe HVE nH;go_upto_region 21 with (go_at_call 73;refine TJ.o.mono ?_;rintro e w8 ⟨v8,rfl,Ww,kK⟩;obtain⟨A8,k8,RI⟩:=bL Ww;subst RI;have uN:=η (iM.cB qg.o.at Ww);have pA:=η (qg.o.below kK);have Oa:Hid (∃cs,nB w db p6 gb cs (uA E) (aH Al (aA (iZ E k)) cl) (iZ E k) w8):=η (Exists.imp (λ_ h=>nB.below h kK) GL.o);have Zq:=η (Oo.o.below kK);clear Ww kK)
   clear TJ c9' aGS qg GL Oo;generalize uA E=GS at*;generalize CF E=lost at*;generalize eZ E=P2 at*;generalize tO P2=L at*;have eB:Hid (dB db p p6 (sO GS lost P2 (L.take 0)) w w8):=η pA.o;have mN:Hid (iM db p6 w8 B6 (bB lost)):=η Zq.o.o;clear pA Zq;go_loopw [13,14,83] (λ_ _ i wr=>∃(j:Nat) (pk:Dp),j<=aA L/\i=aG aF (j:Int)/\Hid (dB db p pk (sO GS lost P2 (L.take j)) w wr)/\Hid (∃cs,nB w db pk gb cs GS (aH Al (aA (iZ E k)) cl) (iZ E k) wr)/\Hid (iM db pk wr B6 (bB lost))/\Hid (iM db pk wr A8 (fN L))) (λ_ _ i _=>aA L-(ag i).toNat)
   case atStart=>exact⟨0,p6,bM _,rfl,eB,Oa,mN,uN⟩
   case round=>
    clear eB Oa mN uN;obtain⟨j,pk,hj,rfl,HQ,vE,Oi,OP⟩:=hrel;by_cases hlt:j<aA L
    ·obtain⟨bl,ol,kJ,hbl,l0,l1,l2,l3,l4,l5⟩:=xw OP.o.eA hlt;have AE:(0:Int)<=(j:Int):=by omega
     have hjb:(j:Int)<(aA L:Int):=by omega
     have HL:=η (aHz (GS:=GS) (lost:=lost) (E:=P2) hlt);have a9a:=η (vG.o j hj);have HX:=η (OO.o _ (cK hlt));obtain⟨cs,hi⟩:=vE.o;have HI:=η hi;clear hi vE;have my:Hid (∀i,eW db pk i->i<wr.heap.size):=η (λi hi=>HQ.o.at.td hi);subst kJ;generalize sO GS lost P2 (L.take j)=E1 at*;generalize L[j]=x at*;obtain⟨xc,xm,xa,xn,xd,xs⟩:=x;simp only at l0 l1 l2 l3 l4 l5;obtain⟨na,hna⟩:∃na:Nat,xa=(na:Int):=⟨xa.toNat,by have h:0<=xa:=HX.o.1;omega⟩;subst hna;have pP:na<k+1:=by have h:(na:Int)<((k+1:Nat):Int):=HX.o.2.1;omega
     have Wv:na<aA GS:=by rw [Tk.o];exact pP
     have HM1:Hid (Fl GS lost E1 ⟨xc,xm,(na:Int),xn,xd,xs⟩= {E1 with ob:=lY xm (na:Int) (sP (na:Int) (-xn) (ofV xm GS[na]) (decide (ofV xm lost>0))) (Bu (-xn) (ofV xm GS[na])) E1.ob}):=η (by unfold Fl;simp only [Int.toNat_natCast];rw [show GS.getD na []=GS[na] from by rw [tC,iG Wv];rfl]);obtain⟨Ag,cg,hgc,hgo⟩:=HI.o.cell Wv;have HGO:=η hgo;have ZY:=η hgc;have HGM:Hid (aA GS[na]<=100000):=η (OY.o _ (cK Wv));have hwn:aF.wrap (-xn)= -xn:=uy (by have h:aL xn/\gA<xn:=HX.o.2.2;unfold gA aL at*;omega);have mE:(0:Int)<=(na:Int):=by omega
     have mF:(na:Int)<(k:Int)+1:=by omega
     have yG:Hid (gb<wr.heap.size/\¬eW db pk gb):=η ⟨HI.o.yc,HI.o.KL⟩;clear hgc hgo HX;generalize GS[na]=Gn at*;have gL:Hid (aa wr.heap.size wr ((wr.alloc (aK #[aG aF xc,aG aF xm,aG aF (na:Int),aG aF xn,aG aF xd,aG aF xs] 59)).alloc (aK #[aG aF xm,aG aF (na:Int),aG aF (-xn)] 76))):=η (((aX _ _).alloc (aZ _) _).alloc (by simp) _);have P6:Hid (((wr.alloc (aK #[aG aF xc,aG aF xm,aG aF (na:Int),aG aF xn,aG aF xd,aG aF xs] 59)).alloc (aK #[aG aF xm,aG aF (na:Int),aG aF (-xn)] 76)).heap[wr.heap.size]? =aC (aK #[aG aF xc,aG aF xm,aG aF (na:Int),aG aF xn,aG aF xd,aG aF xs] 59 (0,0))):=η ((fL _ _ (by simp)).trans (cQ wr _));have HY9:Hid (((wr.alloc (aK #[aG aF xc,aG aF xm,aG aF (na:Int),aG aF xn,aG aF xd,aG aF xs] 59)).alloc (aK #[aG aF xm,aG aF (na:Int),aG aF (-xn)] 76)).heap[wr.heap.size+1]? =aC (aK #[aG aF xm,aG aF (na:Int),aG aF (-xn)] 76 (0,0))):=η (N2 _ _ (by simp));have NW:wr.heap.size+1<((wr.alloc (aK #[aG aF xc,aG aF xm,aG aF (na:Int),aG aF xn,aG aF xd,aG aF xs] 59)).alloc (aK #[aG aF xm,aG aF (na:Int),aG aF (-xn)] 76)).heap.size:=by simp
     go_upto_region 23 with (fail)
     have e1:(wr.alloc (aK #[aG aF xc,aG aF xm,aG aF (na:Int),aG aF xn,aG aF xd,aG aF xs] 59)).cell? ⟨wr.heap.size,1,aB⟩=aC (aG aF xm):=bH _ _ _ _ _ (0,0) (cQ wr _);have e2:(wr.alloc (aK #[aG aF xc,aG aF xm,aG aF (na:Int),aG aF xn,aG aF xd,aG aF xs] 59)).cell? ⟨wr.heap.size,2,aB⟩=aC (aG aF (na:Int)):=bH _ _ _ _ _ (0,0) (cQ wr _);have e3:(wr.alloc (aK #[aG aF xc,aG aF xm,aG aF (na:Int),aG aF xn,aG aF xd,aG aF xs] 59)).cell? ⟨wr.heap.size,3,aB⟩=aC (aG aF xn):=bH _ _ _ _ _ (0,0) (cQ wr _);go_upto_region 24 with (fail)
     clear e1 e2 e3 l0 l1 l2 l3 l4 l5;generalize ((wr.alloc (aK #[aG aF xc,aG aF xm,aG aF (na:Int),aG aF xn,aG aF xd,aG aF xs] 59)).alloc (aK #[aG aF xm,aG aF (na:Int),aG aF (-xn)] 76))=w9 at*;obtain⟨bx,bU⟩:∃bx,bx=wr.heap.size:=⟨_,rfl⟩;have dJ:=η bU;rw [<-bU] at P6 HY9 NW ⊢;clear bU;have HF9:=η (HQ.o.at.below gL.o);have bX:Hid (¬eW db pk bx/\¬eW db pk (bx+1)):=η ⟨λh=>by have:=my.o bx h;rw [dJ.o] at this;omega,λh=>by have:=my.o _ h;rw [dJ.o] at this;omega⟩;obtain⟨gl,jr⟩:∃gl,gl=aA Gn:=⟨_,rfl⟩;have LW:=η jr;rw [<-jr] at ZY;have bJ:Hid (∀W,aa w9.heap.size w9 W->W.cell? ⟨bx+1,0,aB⟩=aC (aG aF xm)/\W.cell? ⟨bx+1,1,aB⟩=aC (aG aF (na:Int))/\W.cell? ⟨bx+1,2,aB⟩=aC (aG aF (-xn))/\W.cell? ⟨bx,1,aB⟩=aC (aG aF xm)/\W.cell? ⟨bx,2,aB⟩=aC (aG aF (na:Int))/\W.cell? ⟨gb,na,aB⟩=aC (aH Ag gl cg)):=η (λW hW=>by have hd:=(hW.block bx (by omega)).trans P6.o;have rC:=(hW.block (bx+1) NW).trans HY9.o;have hg:=(hW.cell (p:=⟨gb,na,aB⟩) (cL yG.o.1 gL.o.size)).trans ((gL.o.cell (p:=⟨gb,na,aB⟩) yG.o.1).trans ZY.o);exact⟨bH _ _ _ _ _ (0,0) rC,bH _ _ _ _ _ (0,0) rC,bH _ _ _ _ _ (0,0) rC,bH _ _ _ _ _ (0,0) hd,bH _ _ _ _ _ (0,0) hd,hg⟩);have cF:Hid (∀W,aa w9.heap.size w9 W->aQ aM 75 #[aH Ag gl cg,aG aF xm] W λe w'=>e=aT (aG aF (ofV xm Gn))/\aa W.heap.size W w'):=η (λW hW=>by rw [LW.o];exact a2V Gn xm Ag cg W (((HGO.o.below gL.o).below hW).eA) HGM.o);have dG:Hid (∀W,aa w9.heap.size w9 W->aQ aM 75 #[aH B6 (aA lost) d6,aG aF xm] W λe w'=>e=aT (aG aF (ofV xm lost))/\aa W.heap.size W w'):=η (λW hW=>a2V lost xm B6 d6 W (((Oi.o.below gL.o).below hW).eA) mP.o);have rQ:Hid (∀W,aa w9.heap.size w9 W->aQ aM 74 #[bD (aC ⟨db,0,aB⟩),bP #[aG aF xm,aG aF (na:Int),aG aF (-xn)],aG aF (ofV xm Gn),bK (decide (ofV xm lost>0))] W λe W'=>e=aT (bC #[])/\aq db pk {E1 with ob:=lY xm (na:Int) (sP (na:Int) (-xn) (ofV xm Gn) (decide (ofV xm lost>0))) (Bu (-xn) (ofV xm Gn)) E1.ob} W W'/\W'.cell? ⟨bx+1,0,aB⟩=aC (aG aF xm)/\W'.cell? ⟨bx+1,1,aB⟩=aC (aG aF (na:Int))/\W'.cell? ⟨bx+1,2,aB⟩=aC (aG aF (-xn))/\W'.cell? ⟨bx,1,aB⟩=aC (aG aF xm)/\W'.cell? ⟨bx,2,aB⟩=aC (aG aF (na:Int))/\W'.cell? ⟨gb,na,aB⟩=aC (aH Ag gl cg)):=η (λW hW=>by refine(aF4 db pk E1 xm (na:Int) (-xn) (ofV xm Gn) (decide (ofV xm lost>0)) W (HF9.o.below hW) a9a.o).mono ?_;rintro e W' ⟨q1,q2⟩;have hz:=cL NW hW.size;have hzg:=cL yG.o.1 (bz gL.o.size hW.size);obtain⟨r0,r1,r2,r3,r4,r5⟩:=bJ.o W hW;exact⟨q1,q2,(q2.cell 0 hz bX.o.2).trans r0,(q2.cell 1 hz bX.o.2).trans r1,(q2.cell 2 hz bX.o.2).trans r2,(q2.cell 1 (by omega) bX.o.1).trans r3,(q2.cell 2 (by omega) bX.o.1).trans r4,(q2.cell na hzg yG.o.2).trans r5⟩);generalize ofV xm Gn=v1 at*;generalize ofV xm lost=v2 at*;clear jr;have bQ:aa w9.heap.size w9 w9.drew:=(aX _ _).drew;have hdd:=bJ.o _ bQ;go_region_held3 (λW=>W.cell? ⟨bx+1,0,aB⟩=aC (aG aF xm)/\W.cell? ⟨bx+1,1,aB⟩=aC (aG aF (na:Int))/\W.cell? ⟨bx+1,2,aB⟩=aC (aG aF (-xn))/\W.cell? ⟨bx,1,aB⟩=aC (aG aF xm)/\W.cell? ⟨bx,2,aB⟩=aC (aG aF (na:Int))/\W.cell? ⟨gb,na,aB⟩=aC (aH Ag gl cg)) (first|(with_reducible assumption)) (first|(go_at_call 75;with_reducible refine uD (cF.o _ (by with_reducible assumption)) ?_;rintro e wa ⟨rfl,nG⟩;have ye:aa w9.heap.size w9 wa:=kB (by with_reducible assumption) (nG.mono (gX (by with_reducible assumption)));have rA:=bJ.o _ ye)|(go_at_call 75;with_reducible refine uD (dG.o _ (by with_reducible assumption)) ?_;rintro e wb ⟨rfl,j6⟩;have s6:aa w9.heap.size w9 wb:=kB (by with_reducible assumption) (j6.mono (gX (by with_reducible assumption)));have hcb:=bJ.o _ s6)|(go_at_call 74;refine(rQ.o _ (by with_reducible assumption)).mono ?_;rintro e wc ⟨rfl,AL,AJ⟩))
     all_goals
      have Cn:Hid (aq db pk (Fl GS lost E1 ⟨xc,xm,(na:Int),xn,xd,xs⟩) wr wc):=η (by rw [HM1.o];exact aq.trans (bA.bY _ (gL.o.trans (Below.mono (by with_reducible assumption) gL.o.size))) (λ_ h=> .inl h) ⟨rfl,rfl,rfl,rfl⟩ AL);obtain⟨pc,NJ,R9⟩:=HQ.o.then Cn.o;have Tz:Hid (dB db p pc (sO GS lost P2 (L.take (j+1))) w wc):=η (by rw [HL.o];exact NJ);have Te:Hid (∃cs,nB w db pc gb cs GS (aH Al (aA (iZ E k)) cl) (iZ E k) wc):=η ⟨_,HI.o.step R9⟩;have HLC:=η (Oi.o.step R9);have B4:=η (OP.o.step R9);clear AL AJ nG ye rA j6 s6 hcb bQ hdd bJ cF dG rQ HQ HI Oi OP NJ R9 Cn;go_wp2_with fail
      go_roundw
      case rel=>exact⟨j+1,pc,by omega,by go_num,Tz,Te,HLC,B4⟩
      case measure=>simp [ag];omega
    obtain rfl:j=aA L:=by omega
    rw [cU,<-zJ.o] at HQ;clear vE Oi OP vG OO OY zJ;go_upto_region 27 with (go_at_call 76;refine(lR.o _ pk HQ.o.at).mono ?_;rintro e wa ⟨rfl,ha⟩;obtain⟨pa,R7,_⟩:=HQ.o.then ha;have lU:=η R7;clear ha R7)
    have c10:=lU.o.at.cells.c10;have aGT:=lU.o.at.lt;have Lz:=η (aMD pa.xc pa.xv (O4 E).bx pa.xb wa lU.o.at.bx);have ZK:Hid (jD (wa.setCell ⟨pa.xb,8,aB⟩ (aH aB 0 0)) pa.xb pa.xc (aH aB 0 0) []->aq db pa {O4 E with bx:= []} wa (wa.setCell ⟨pa.xb,8,aB⟩ (aH aB 0 0))):=η (λh=>lU.o.at.cleared h);go_upto_region 28 with (go_at_call 77;refine Lz.o.mono ?_;rintro e wb ⟨rfl,rfl,bU⟩;obtain⟨pb,Kd,_⟩:=lU.o.then (ZK.o bU);have Cp:=η Kd;clear bU Kd)
    clear Lz ZK c10 aGT;generalize (wa.setCell ⟨pa.xb,8,aB⟩ (aH aB 0 0))=wb at*;have f13:wb.frozen? ⟨db,13,aB⟩=aP:=by have hb:=Cp.o.at.blk;simp [iO,hb]
    have c13:=Cp.o.at.cells.c13;have aMr:=Cp.o.at.lt;go_wp2_with fail
    go_ret;refine⟨rfl,pX E,U4.o, ?_⟩;rw [GI.o];exact(Cp.o.trans (Cp.o.at.SM 0)).p
section
def kW(x:Ev):Int:=if x.k=5\/x.k=10\/x.k=12 then x.n else if x.k=6\/x.k=13\/x.k=16\/x.k=19 then-x.n else 0
def dt:List Ev->Int->Int
 | [],_=>0
 |x::l,a=>(if x.a=a then kW x else 0)+dt l a
theorem Bb(l r:List Ev)(a:Int):dt (l++r) a=dt l a+dt r a:=by
 induction l with
 |nil=>simp [dt]
 |cons x l ih=>grind [dt]
theorem Bc(e:Ev)(a:Int):dt [e] a=if e.a=a then kW e else 0:=by simp [dt]
def I5(S:Nat)(x:Ev):Prop:=0<=x.a/\x.a<=(S:Int)/\(1<=x.n\/x.k=4\/x.k=8)
structure M7(S:Nat)(log:List Ev):Prop where
 ev:∀x∈log,I5 S x
 pre:∀k a,0<=dt (log.take k) a/\dt (log.take k) a<=5000000000000000000
theorem M7.snoc {S:Nat} {log:List Ev} {e:Ev}(h:M7 S log)(he:I5 S e)(hp:∀a,0<=dt (log++ [e]) a/\dt (log++ [e]) a<=5000000000000000000):M7 S (log++ [e]):=by
 refine⟨λx hx=> ?_,λk a=> ?_⟩
 ·rcases gN.1 hx with hx|hx
  ·exact h.ev x hx
  grind
 by_cases hk:k<=aA log
 ·rw [a0M hk];exact h.pre k a
 grind [List.take_of_length_le]
theorem Hj {M A:Nat} {l:List Int} {k m a:Int}(h:plcA M A k m a=aB):balA M A l k m a=0:=by unfold balA;rw [h]
theorem WL {h:List Hr} {k m a:Int}(hh:∀r∈h,r.s=8)(hk:k≠8):iR h k m a=0:=by
 suffices H:∀(h:List Hr) (n:Int),(∀r∈h,r.s=8)->h.foldl (λn r=>if r.s==k&&r.m==m&&r.a==a then fV (n+r.n) else n) n=n from H h 0 hh
 intro h;induction h with
 |nil=>intro n _;rfl
 |cons r h ih=>
  grind
structure PC(M A:Nat)(C F:Int)(l:List Int):Prop where
 ok:nT M A l
 tP:∀m a,balA M A l 8 m a<=1099511627776
 zu:∀m a,balA M A l 9 m a<=F
 AU:∀a,balA M A l 3 0 a<=F
 cap:∀a,balA M A l 4 0 a<=F
 lo:∀m a,-C<=balA M A l 7 m a+balA M A l 8 m a-balA M A l 1 0 a
 hi:∀m a,balA M A l 7 m a+balA M A l 8 m a+balA M A l 1 0 a<=C
 es:∀a,balA M A l 2 0 a+balA M A l 1 0 a<=C
 big:C<=4611686018427387904+1125899906842624
 F0:F<=1099511627776
theorem nT.nn {M A:Nat} {l:List Int}(h:nT M A l) {k:Int}(hk:tU k=aP)(m a:Int):0<=balA M A l k m a:=by
 cases hp:plcA M A k m a with
 |none=>grind [Hj]
 |some n=>exact h.pos k m a n hp hk
theorem PC.wide {M A:Nat} {C C' F:Int} {l:List Int}(h:PC M A C F l)(hc:C<=C')(hb:C'<=4611686018427387904+1125899906842624):PC M A C' F l:=
 ⟨h.ok,h.tP,h.zu,h.AU,h.cap,λm a=>by have:=h.lo m a;omega,λm a=>by have:=h.hi m a;omega,λa=>by have:=h.es a;omega,hb,h.F0⟩
theorem Rl {D:Dk} {fk fm tk tm a n:Int} {i j:Nat}(h:uo D fk fm tk tm a n=0)(hlen:aA D.l=(aA D.x.ss+1)*(6+3*aA D.x.ms))(hf:plcA (aA D.x.ms) (aA D.x.ss+1) fk fm a=aC i)(ht:plcA (aA D.x.ms) (aA D.x.ss+1) tk tm a=aC j)(k m b:Int):
 balA (aA D.x.ms) (aA D.x.ss+1) (bj D fk fm tk tm a n) k m b=balA (aA D.x.ms) (aA D.x.ss+1) D.l k m b+((if k=fk/\m=fm/\b=a then-n else 0)+(if k=tk/\m=tm/\b=a then n else 0)):=by
 cases hp:plcA (aA D.x.ms) (aA D.x.ss+1) k m b with
 |some z=>
  rw [aIE h hlen hp];grind
 |none=>
  grind [Hj]
structure Gd(x:ak):Prop where
 ml:2<=aA x.ms/\aA x.ms<=16
 sl:1<=aA x.ss/\aA x.ss<=8
 cl:aA x.cy<=4
 mI:∀y∈x.ms,(0<=y.a/\y.a<=1099511627776)/\0<=y.b/\y.b<=1099511627776
 sI:∀y∈x.ss,(1<=y.a/\y.a<=1048576)/\y.a<=y.b/\y.b<=1048576
 li:0<=x.line/\x.line<=1099511627776
 ca:0<=x.bW/\x.bW<=1099511627776
 bd:1<=x.bT/\x.bT<=32
structure ML(M:Nat)(L:List Int):Prop where
 up:L.Pairwise (· < ·)
 pS:∀m∈L,1<=m/\m<=(M:Int)
theorem Sk:∀ {L:List Int} {k:Nat} {lo:Int},L.Pairwise (· < ·)->(∀m∈L,lo<m/\m<=lo+(k:Int))->aA L<=k
 | [],k,_,_,_=>bM _
 |x::L,k,lo,h,hi=>by have hx:=hi x (by simp);rw [kp] at h;have:=Sk (L:=L) (k:=k-1) (lo:=x) h.2 (λm hm=>⟨h.1 m hm,by grind⟩);grind
theorem ML.len {M:Nat} {L:List Int}(h:ML M L):aA L<=M:=Sk (lo:=0) h.up (λm hm=>by have:=h.pS m hm;omega)
def dW(f:Ob->Int)(L:List Ob):Int:=(L.map f).sum
def qN(a:Int)(x:Ob):Int:=if x.st=1/\x.az<0/\x.a=a then-x.az else 0
def vW(a:Int)(x:Ob):Int:=if x.st=1/\0<x.az/\x.a=a then x.az else 0
def oJ(a:Int)(x:Ob):Int:=if x.st=1/\0<x.az/\x.a=a then x.done else 0
def oI(m a:Int)(x:Ob):Int:=if x.st=1/\0<x.az/\x.m=m/\x.a=a then x.done else 0
structure MA(M S:Nat)(aj:Int)(who:List Int)(x:Ob):Prop where
 m:1<=x.m/\x.m<=(M:Int)
 a:0<=x.a/\x.a<=(S:Int)
 big: -kf x.a<=x.az/\x.az<=kf x.a
 c:x.c<=aj
 st:1<=x.st/\x.st<=5
 a7S:x.st=2->x.done=x.size
 o:x.st=3->hasB who x.m=aO/\(x.az<0->x.done=0)/\(0<x.az->x.done<x.az)
 cmp:(x.st=4\/x.st=5)->x.az<0/\x.done< -x.az/\(x.st=4->x.a≠0)
def aJ1(x y:Ob):Prop:=ew x=aO->ew y=aO->x.m<y.m\/(x.m=y.m/\x.a<y.a)
structure kq(M S:Nat)(aj:Int)(who:List Int)(L:List Ob):Prop where
 each:∀x∈L,MA M S aj who x
 ok:∀x∈L,x.ok
 ord:L.Pairwise aJ1
 cl:∀a,dW (qN a) L<=kf a
 db:∀a,dW (vW a) L<=kf a
 len:(aA L:Int)<=120*aj
theorem kq.fine {M S:Nat} {aj:Int} {who:List Int} {L:List Ob}(h:kq M S aj who L)(hc:aj<=4):sX L:=by refine⟨h.ok,λj k hj hk hjk h1 h2=> ?_,by have:=h.len;omega⟩;have:=(vQ.1 h.ord) j k hj hk hjk h1 h2;omega
def Yx(x:ak)(d:Bd):Prop:=(1<=d.m/\d.m<=(aA x.ms:Int))/\(1<=d.c/\d.c<=(aA x.ss:Int))/\(1<=d.q/\d.q<=274877906944)/\(1<=d.p/\d.p<=1048576)/\aL d.s
structure aw(C:Int)(g:Nat)(D:Dk):Prop where
 hs:Gd D.x
 bF:PC (aA D.x.ms) (aA D.x.ss+1) C (if D.en=aO then 1099511627776 else 0) D.l
 h8:∀r∈D.h,r.s=8
 hl:aA D.h<=16
 fl:∀a,dt D.log a=balA (aA D.x.ms) (aA D.x.ss+1) D.l 1 0 a
 lg:M7 (aA D.x.ss) D.log
 gl:aA D.log<=g
 who:ML (aA D.x.ms) D.who
 ob:kq (aA D.x.ms) (aA D.x.ss) D.aj D.who D.ob
 bx:∀d∈D.bx,Yx D.x d
 bl:aA D.bx<=32
 st:0<=D.st/\D.st<=2
 aj:0<=D.aj/\D.aj<=4
theorem aw.ok {C:Int} {g:Nat} {D:Dk}(H:aw C g D)(hg:g<=90000):fZ D:=
 ⟨H.bF.ok.I,by have:=H.hl;omega,by have:=H.who.len;have:=H.hs.ml;omega,by have:=H.gl;omega,H.ob.fine H.aj.2,by have:=H.bl;omega,by have:=H.st;unfold aL;omega⟩
theorem aw.wide {C C':Int} {g g':Nat} {D:Dk}(H:aw C g D)(hc:C<=C')(hb:C'<=4611686018427387904+1125899906842624)(hg:g<=g'):aw C' g' D:=
 ⟨H.hs,H.bF.wide hc hb,H.h8,H.hl,H.fl,H.lg,by have:=H.gl;omega,H.who,H.ob,H.bx,H.bl,H.st,H.aj⟩
section
variable {C:Int} {g:Nat} {D:Dk}
theorem aw.house(H:aw C g D)(a:Int):0<=(balA (aA D.x.ms) (aA D.x.ss+1) D.l) 1 0 a/\(balA (aA D.x.ms) (aA D.x.ss+1) D.l) 1 0 a<=C:=by refine⟨H.bF.ok.nn rfl 0 a, ?_⟩;have h1:=H.bF.lo 0 a;have h2:=H.bF.hi 0 a;omega
theorem aw.own(H:aw C g D)(m a:Int): -C-1099511627776<=(balA (aA D.x.ms) (aA D.x.ss+1) D.l) 7 m a/\(balA (aA D.x.ms) (aA D.x.ss+1) D.l) 7 m a+(balA (aA D.x.ms) (aA D.x.ss+1) D.l) 1 0 a<=C:=by have h1:=H.bF.lo m a;have h2:=H.bF.hi m a;have h3:=H.bF.ok.nn (k:=8) rfl m a;have h4:=H.bF.tP m a;have h5:=H.bF.ok.nn (k:=1) rfl 0 a;omega
theorem L3 {M A:Nat} {a:Int}(h:0<=a)(h':a<(A:Int)):∃n,plcA M A 1 0 a=aC n:=by unfold plcA jw;simp [h,h']
theorem aJd {M A:Nat} {a:Int}(h:0<=a)(h':a<(A:Int)):∃n,plcA M A 2 0 a=aC n:=by unfold plcA jw;simp [h,h']
theorem aJe {M A:Nat} {a:Int}(h:0<=a)(h':a<(A:Int)):∃n,plcA M A 3 0 a=aC n:=by unfold plcA jw;simp [h,h']
theorem aJc {M A:Nat} {a:Int}(h:0<=a)(h':a<(A:Int)):∃n,plcA M A 4 0 a=aC n:=by unfold plcA jw;simp [h,h']
theorem CD {M A:Nat} {k m a:Int}(hk:k=7\/k=8\/k=9)(hm:1<=m/\m<=(M:Int))(h:0<=a)(h':a<(A:Int)):∃n,plcA M A k m a=aC n:=by unfold plcA jw;rcases hk with rfl|rfl|rfl<;>simp [h,h',hm.1,hm.2]
theorem aw.goes(H:aw C g D) {tk tm a n:Int} {e:Ev}(ht:(tk=7/\1<=tm/\tm<=(aA D.x.ms:Int))\/(tk=2/\tm=0))(ha:0<=a/\a<=(aA D.x.ss:Int))(h1:1<=n)(h2:n<=(balA (aA D.x.ms) (aA D.x.ss+1) D.l) 1 0 a)(he:e.a=a/\e.n=n/\kW e= -n):
 uo D 1 0 tk tm a n=0/\aw C (g+1) {D with l:=bj D 1 0 tk tm a n,log:=D.log++ [e]}/\∀k m b,balA (aA D.x.ms) (aA D.x.ss+1) (bj D 1 0 tk tm a n) k m b=(balA (aA D.x.ms) (aA D.x.ss+1) D.l) k m b+((if k=1/\m=0/\b=a then-n else 0)+(if k=tk/\m=tm/\b=a then n else 0)):=by
 obtain⟨i,hi⟩:=L3 (M:=aA D.x.ms) (A:=aA D.x.ss+1) ha.1 (by omega);have hj:∃j,plcA (aA D.x.ms) (aA D.x.ss+1) tk tm a=aC j:=by
  rcases ht with⟨rfl,h⟩|⟨rfl,rfl⟩
  ·exact CD (.inl rfl) h ha.1 (by omega)
  exact aJd ha.1 (by omega)
 obtain⟨j,hj⟩:=hj;have hb:=H.bF.big;have hle:=H.bF.es a;have hes:=H.bF.ok.nn (k:=2) rfl 0 a;have hr2:aL ((balA (aA D.x.ms) (aA D.x.ss+1) D.l) tk tm a+n):=by
  rcases ht with⟨rfl,_⟩|⟨rfl,rfl⟩
  ·have:=H.own tm a;unfold aL;omega
  unfold aL;omega
 have Qh:=Ni hi hj (by omega) (by omega) (by unfold aL;omega) (.inr ⟨h2,by rw [WL H.h8 (by decide)];omega⟩) (by unfold aL;omega) hr2 H.bF.ok.len;have hd:=Rl Qh H.bF.ok.len hi hj;have dU:nT (aA D.x.ms) (aA D.x.ss+1) (bj D 1 0 tk tm a n):=nT.mv H.bF.ok H.hs.sl.2;refine⟨Qh,⟨H.hs,⟨dU, ?_, ?_, ?_, ?_, ?_, ?_, ?_,H.bF.big,H.bF.F0⟩,H.h8,H.hl, ?_, ?_, ?_,H.who,H.ob,H.bx,H.bl,H.st,H.aj⟩,hd⟩
 ·intro m b;show balA (aA D.x.ms) (aA D.x.ss+1) (bj D 1 0 tk tm a n) 8 m b<=_;rw [hd];have:=H.bF.tP m b;split<;>split<;>omega
 ·intro m b;show balA (aA D.x.ms) (aA D.x.ss+1) (bj D 1 0 tk tm a n) 9 m b<=_;rw [hd,ifN (by omega),ifN (by omega)];have:=H.bF.zu m b;simpa using this
 ·intro b;show balA (aA D.x.ms) (aA D.x.ss+1) (bj D 1 0 tk tm a n) 3 0 b<=_;rw [hd,ifN (by omega),ifN (by omega)];have:=H.bF.AU b;simpa using this
 ·intro b;show balA (aA D.x.ms) (aA D.x.ss+1) (bj D 1 0 tk tm a n) 4 0 b<=_;rw [hd,ifN (by omega),ifN (by omega)];have:=H.bF.cap b;simpa using this
 ·intro m b;show _<=balA (aA D.x.ms) (aA D.x.ss+1) (bj D 1 0 tk tm a n) 7 m b+balA (aA D.x.ms) (aA D.x.ss+1) (bj D 1 0 tk tm a n) 8 m b-balA (aA D.x.ms) (aA D.x.ss+1) (bj D 1 0 tk tm a n) 1 0 b;rw [hd 7,hd 8,hd 1];have:=H.bF.lo m b;repeat' split
  all_goals omega
 ·intro m b;show balA (aA D.x.ms) (aA D.x.ss+1) (bj D 1 0 tk tm a n) 7 m b+balA (aA D.x.ms) (aA D.x.ss+1) (bj D 1 0 tk tm a n) 8 m b+balA (aA D.x.ms) (aA D.x.ss+1) (bj D 1 0 tk tm a n) 1 0 b<=_;rw [hd 7,hd 8,hd 1];have:=H.bF.hi m b;repeat' split
  all_goals omega
 ·intro b;show balA (aA D.x.ms) (aA D.x.ss+1) (bj D 1 0 tk tm a n) 2 0 b+balA (aA D.x.ms) (aA D.x.ss+1) (bj D 1 0 tk tm a n) 1 0 b<=_;rw [hd 2,hd 1];have:=H.bF.es b;repeat' split
  all_goals omega
 ·intro b;show dt (D.log++ [e]) b=balA (aA D.x.ms) (aA D.x.ss+1) (bj D 1 0 tk tm a n) 1 0 b;rw [Bb,Bc,H.fl b,hd,he.1,he.2.2];repeat' split
  all_goals omega
 ·refine H.lg.snoc ⟨by rw [he.1];exact ha.1,by rw [he.1];exact ha.2,.inl (by rw [he.2.1];exact h1)⟩ (λb=> ?_);have h9:dt (D.log++ [e]) b=balA (aA D.x.ms) (aA D.x.ss+1) (bj D 1 0 tk tm a n) 1 0 b:=by
   rw [Bb,Bc,H.fl b,hd,he.1,he.2.2];repeat' split
   all_goals omega
  rw [h9];refine⟨dU.nn rfl 0 b, ?_⟩;rw [hd];have:=H.house b;repeat' split
  all_goals omega
 show aA (D.log++ [e])<=g+1;rw [cN];have:=H.gl;simp;omega
end
end
def a2u(l:List Dw)(k m:Int):Int:=l.foldl (λs x=>if x.k=k/\x.m=m then fV (s+x.n) else s) 0
def jg(p:cA)(k m:Int):Int:=
 if 1<=m/\m<=aA p.co/\k=8 then cV p.co m else if 1<=m/\m<=aA p.co/\k=9 then cV p.fu m else if m=0/\k=3 then p.line else if m=0/\k=4 then p.cap else-1
def oV(os:List Int)(k m:Int):Int:=if k=8 then m else if k=9 then (if os.contains m then fV (100+m) else 200) else if k=3 then 300 else 400
structure vS(y:List Dw):Prop where
 pos:∀x∈y,0<=x.n/\x.n<=1099511627776
 len:aA y<=1000
theorem a2w:∀y:List Dw,sumI (fj y)=(y.map (·.n)).sum
 | []=>rfl
 |x::y=>by show x.n+sumI (fj y)=_;rw [a2w y];simp
theorem VV:∀ {y:List Dw},(∀x∈y,0<=x.n/\x.n<=1099511627776)->0<=sumI (fj y)/\sumI (fj y)<=1099511627776*(aA y:Int)
 | [],_=>by simp [fj,sumI]
 |x::y,h=>by
  have h1:=VV (y:=y) λz hz=>h z (by simp [hz])
  grind [sumI,fj]
theorem a2K {y:List Dw} {nd:Int}(h:vS y)(hn:0<=nd):iP nd (fj y)=0:=by
 have hb:=VV h.pos;have hl:=h.len;have hlen:aA (fj y)=aA y:=by simp [fj]
 unfold iP;rw [ifN (by omega),ifN,(eH (by unfold aL;omega)).2];rintro (h1|h1)
 ·omega
 unfold xl at h1;obtain⟨x,hx,mf⟩:=kE.1 h1;obtain⟨z,hz,rfl⟩:=di.1 hx;have:=(h.pos z hz).1;simp at mf;omega
theorem Ma(x:Dw)(y:List Dw)(n:Int)(zs:List Int):iz (x::y) (n::zs)=(if 0<n then [⟨x.k,x.m,n⟩] else [])++iz y zs:=by grind [iz,Ek]
theorem a2z:∀ {y:List Dw} {zs:List Int} {z:Dw},z∈iz y zs->0<z.n/\∃x∈y,z.k=x.k/\z.m=x.m
 | [],_,z,h=>by simp [iz] at h
 |_::_,[],z,h=>by simp [iz] at h
 |x::y,n::zs,z,h=>by
  rw [Ma] at h;rcases gN.1 h with h|h
  ·grind
  obtain⟨h1,u,hu,e⟩:=a2z h;grind
theorem a3C:∀ {y:List Dw} {zs:List Int},aA zs=aA y->(∀z∈zs,0<=z)->cd (iz y zs)=sumI zs
 | [],[],_,_=>rfl
 | [],_::_,h,_=>by simp at h
 |_::_,[],h,_=>by simp at h
 |x::y,n::zs,h,hz=>by
  have hr:=a3C (y:=y) (zs:=zs) (by simpa using h) λz hz'=>hz z (by simp [hz'])
  have hn:=hz n (by simp);grind [Ma,sumI,cd]
theorem a3A:∀y:List Dw,iz y (fj y)=y.filter λx=>decide (0<x.n)
 | []=>rfl
 |x::y=>by show iz (x::y) (x.n::fj y)=_;rw [Ma,a3A y,List.filter_cons];by_cases h:0<x.n<;>simp [h]
structure a8s(y:List Dw)(nd:Int):Prop where
 mem:∀z∈nE y nd,0<z.n/\∃x∈y,z.k=x.k/\z.m=x.m
 CI:cd (nE y nd)=min nd (sumI (fj y))
 full:sumI (fj y)<=nd->nE y nd=y.filter λx=>decide (0<x.n)
 Fy:0<=sumI (fj y)
theorem F4 {y:List Dw} {nd:Int}(h:vS y)(hn:0<=nd):a8s y nd:=by
 have hc:=a2K h hn;have G:=F5 hc;refine⟨λz hz=>a2z hz, ?_,λhs=> ?_,(VV h.pos).1⟩
 ·unfold nE;rw [a3C (by rw [G.len];simp [fj]) λz hz=> ?_,G.sum];obtain⟨i,hi,rfl⟩:=List.getElem_of_mem hz;exact(G.bd i hi (by rw [<-G.len];exact hi)).1
 grind [nE,dN,a3A]
def gl:Int->List (List Dw)->List Dw
 |_,[]=> []
 |nd,y::ys=>nE y nd++gl (nd-min nd (sumI (fj y))) ys
theorem Yg(a b:List Dw):cd (a++b)=cd a+cd b:=by grind [cd]
theorem QM:∀(ys:List (List Dw)) (nd:Int) (L:List Dw),(∀y∈ys,vS y)->0<=nd->aL nd->(ys.foldl yv (nd,L)).2=L++gl nd ys
 | [],nd,L,_,_,_=>by simp [gl]
 |y::ys,nd,L,h,hn,hI=>by
  have F:=F4 (h y (by simp)) hn;have hs:=F.Fy;have ht:sU (nE y nd)=min nd (sumI (fj y)):=by unfold aL at hI;rw [Sj (by rw [F.CI];omega),F.CI]
  have hw:aF.wrap (nd-min nd (sumI (fj y)))=nd-min nd (sumI (fj y)):=sr _ (by grind [aL]);rw [D3];have e:yv (nd,L) y=(nd-min nd (sumI (fj y)),L++nE y nd):=by grind [yv]
  rw [e,QM ys _ _ (λz hz=>h z (by simp [hz])) (by omega) (by grind [aL])];simp [gl]
theorem a3i:∀ {ys:List (List Dw)},(∀y∈ys,vS y)->gl 0 ys= []
 | [],_=>rfl
 |y::ys,h=>by
  have F:=F4 (nd:=0) (h y (by simp)) (dM _);have hs:=F.Fy;have e:nE y 0= []:=by
   cases hg:nE y 0 with
   |nil=>rfl
   |cons z l=>
    have h1:=(F.mem z (by rw [hg];simp)).1;have h2:=F.CI;rw [hg] at h2;have h3:cd (z::l)=max z.n 0+cd l:=by simp [cd]
    have h4:=JD l;omega
  unfold gl;rw [e,show (0:Int)-min 0 (sumI (fj y))=0 by omega,a3i λz hz=>h z (by simp [hz])];rfl
theorem QL:∀ {ys:List (List Dw)} {nd:Int},(∀y∈ys,vS y)->0<=nd->∀z∈gl nd ys,0<z.n/\∃y∈ys,∃x∈y,z.k=x.k/\z.m=x.m
 | [],_,_,_,z,hz=>by simp [gl] at hz
 |y::ys,nd,h,hn,z,hz=>by
  have F:=F4 (h y (by simp)) hn;have hs:=F.Fy;unfold gl at hz;rcases gN.1 hz with hz|hz
  ·obtain⟨h1,x,hx,e⟩:=F.mem z hz;grind
  obtain⟨h1,y',hy,x,hx,e⟩:=QL (λz hz=>h z (by simp [hz])) (by omega) z hz;grind
theorem a3f:∀ {ys:List (List Dw)} {nd:Int},(∀y∈ys,vS y)->0<=nd->cd (gl nd ys)<=nd
 | [],nd,_,hn=>by grind [gl,cd]
 |y::ys,nd,h,hn=>by have F:=F4 (h y (by simp)) hn;have hs:=F.Fy;have:=a3f (ys:=ys) (nd:=nd-min nd (sumI (fj y))) (λz hz=>h z (by simp [hz])) (by omega);unfold gl;rw [Yg,F.CI];omega
structure Gt(f:Int->Int->Int)(ys:List (List Dw)):Prop where
 up:ys.Pairwise λy y'=>∀x∈y,∀x'∈y',f x.k x.m<f x'.k x'.m
 eq:∀y∈ys,∀x∈y,∀x'∈y,f x.k x.m=f x'.k x'.m
 uniq:∀y∈ys,y.Pairwise λx x'=>¬(x.k=x'.k/\x.m=x'.m)
theorem Gt.tail {f:Int->Int->Int} {y:List Dw} {ys:List (List Dw)}(h:Gt f (y::ys)):Gt f ys:=
 ⟨(kp.1 h.up).2,λy' hy=>h.eq y' (by simp [hy]),λy' hy=>h.uniq y' (by simp [hy])⟩
theorem a3h {f:Int->Int->Int}:∀ {ys:List (List Dw)} {nd:Int},(∀y∈ys,vS y)->Gt f ys->0<=nd->(gl nd ys).Pairwise λz z'=>f z.k z.m<=f z'.k z'.m
 | [],_,_,_,_=>by simp [gl]
 |y::ys,nd,h,hr,hn=>by
  have F:=F4 (h y (by simp)) hn;have hs:=F.Fy;have dU:∀z∈ys,vS z:=λz hz=>h z (by simp [hz])
  unfold gl;rw [M6];refine⟨?_,a3h dU hr.tail (by omega),λz hz z' hz'=> ?_⟩
  ·rw [List.pairwise_iff_forall_sublist];intro a b hab;have ha:=hab.subset (by simp:a∈ [a,b]);have hb:=hab.subset (by simp:b∈ [a,b]);obtain⟨_,x,hx,e1,e2⟩:=F.mem a ha;obtain⟨_,x',mf,e3,e4⟩:=F.mem b hb;rw [e1,e2,e3,e4];exact rX (hr.eq y (by simp) x hx x' mf)
  obtain⟨_,x,hx,e1,e2⟩:=F.mem z hz;obtain⟨_,y',hy',x',mf,e3,e4⟩:=QL dU (by omega) z' hz';have:=(kp.1 hr.up).1 y' hy' x hx x' mf;grind
def xO(l:List Dw)(k m:Int):Int:=(l.map λx=>if x.k=k/\x.m=m then x.n else 0).sum
theorem aFB(a b:List Dw)(k m:Int):xO (a++b) k m=xO a k m+xO b k m:=by grind [xO]
theorem Q8(x:Dw)(l:List Dw)(k m:Int):xO (x::l) k m=(if x.k=k/\x.m=m then x.n else 0)+xO l k m:=by simp [xO]
theorem Q9:∀ {l:List Dw} {k m:Int},(∀z∈l,¬(z.k=k/\z.m=m))->xO l k m=0
 | [],_,_,_=>rfl
 |x::l,k,m,h=>by rw [Q8,ifN (h x (by simp)),Q9 λz hz=>h z (by simp [hz])];rfl
theorem VT:∀ {l:List Dw} {k m s:Int},(∀z∈l,0<=z.n)->0<=s->s+cd l<=9223372036854775807->l.foldl (λs x=>if x.k=k/\x.m=m then fV (s+x.n) else s) s=s+xO l k m
 | [],k,m,s,_,_,_=>by simp [xO]
 |x::l,k,m,s,h,h0,hb=>by
  have hx:=h x (by simp);have ht:cd (x::l)=max x.n 0+cd l:=by simp [cd]
  have hl:=JD l;rw [D3,Q8];by_cases hc:x.k=k/\x.m=m
  ·rw [ifP hc,ifP hc,show fV (s+x.n)=s+x.n from by unfold fV;omega,VT (λz hz=>h z (by simp [hz])) (by omega) (by omega)];omega
  rw [ifN hc,ifN hc,VT (λz hz=>h z (by simp [hz])) h0 (by omega)];omega
theorem a2t:∀ {y:List Dw} {x:Dw},(∀z∈y,0<=z.n)->(y.Pairwise λx x'=>¬(x.k=x'.k/\x.m=x'.m))->x∈y->xO (y.filter λx=>decide (0<x.n)) x.k x.m=x.n
 | [],_,_,_,h=>by simp at h
 |u::y,x,h0,hp,hx=>by
  obtain⟨h1,h2⟩:=kp.1 hp;have hu:=h0 u (by simp);rcases fG.1 hx with rfl|hx
  ·have hno:xO (y.filter λz=>decide (0<z.n)) x.k x.m=0:=Q9 λz hz e=>h1 z (jG.1 hz).1 ⟨e.1.symm,e.2.symm⟩
   grind [Q8]
  have hr:=a2t (λz hz=>h0 z (by simp [hz])) h2 hx;grind [Q8]
theorem a3d {f:Int->Int->Int}:∀ {ys:List (List Dw)} {nd:Int},(∀y∈ys,vS y)->Gt f ys->0<=nd->∀z∈gl nd ys,∀y∈ys,∀x∈y,f x.k x.m<f z.k z.m->xO (gl nd ys) x.k x.m=x.n
 | [],_,_,_,_,z,hz,_,_,_,_,_=>by simp [gl] at hz
 |y0::ys,nd,h,hr,hn,z,hz,y,hy,x,hx,hlt=>by
  have F:=F4 (h y0 (by simp)) hn;have hs:=F.Fy;have dU:∀z∈ys,vS z:=λz hz=>h z (by simp [hz])
  have vz:=(kp.1 hr.up).1;unfold gl at hz ⊢;rw [aFB];rcases gN.1 hz with hz|hz
  ·obtain⟨_,u,hu,e1,e2⟩:=F.mem z hz;rw [e1,e2] at hlt;rcases fG.1 hy with rfl|hy
   ·have:=hr.eq y (by simp) x hx u hu;omega
   grind
  have Qy:sumI (fj y0)<=nd:=by grind [a3i]
  have vw:0<=nd-min nd (sumI (fj y0)):=by omega
  rcases fG.1 hy with rfl|hy
  ·rw [F.full Qy,a2t (λz hz=>((h y (by simp)).pos z hz).1) (hr.uniq y (by simp)) hx,Q9]
   ·omega
   intro z' hz' e;obtain⟨_,y',hy',x',mf,e3,e4⟩:=QL dU vw z' hz';grind
  rw [a3d dU hr.tail vw z hz y hy x hx hlt,Q9]
  ·omega
  intro z' hz' e;obtain⟨_,u,hu,e3,e4⟩:=F.mem z' hz';grind
theorem Xl {p:cA} {os:List Int}(h:gJ p os=0):os.Pairwise (· < ·):=by
 have h0:jB p=0:=by grind [gJ]
 have step:∀k (hk:k+1<aA os),os[k]<os[k+1]:=λk hk=>by grind [th,Xb]
 have all:∀k (hk:k<aA os) i (hi:i<aA os),i<k->os[i]<os[k]:=by
  intro k;induction k with
  |zero=>intro _ i _ h;omega
  |succ k ih=>
   grind
 grind [vQ]
theorem SA(os:List Int)(m:Int):oV os 8 m=m:=by grind [oV]
theorem SB {os:List Int} {m:Int}(h:m∈os)(h1:1<=m)(h2:m<=1000):oV os 9 m=100+m:=by unfold oV;rw [ifN (by decide),ifP rfl,ifP (UQ.2 h)];unfold fV;omega
theorem a6r {os:List Int} {m:Int}(h:os.contains m=aP):oV os 9 m=200:=by grind [oV]
theorem Y6(os:List Int):oV os 3 0=300:=by grind [oV]
theorem Y7(os:List Int):oV os 4 0=400:=by grind [oV]
theorem Ns {fu os:List Int}:∀ {k:Nat} {x:Dw},x∈kO fu os k->∃i:Nat,i<k/\os.contains ((i:Int)+1)=aP/\x=⟨9,(i:Int)+1,fu.getD i 0⟩:=by grind [kO]
theorem aJ7 {fu os:List Int} {k i:Nat}(hi:i<k)(hc:os.contains ((i:Int)+1)=aP):(⟨9,(i:Int)+1,fu.getD i 0⟩:Dw)∈kO fu os k:=by grind [kO]
theorem a6R(fu os:List Int):∀k,(kO fu os k).Pairwise λx x'=>¬(x.k=x'.k/\x.m=x'.m)
 |0=>by simp [kO]
 |k+1=>by
  have ih:=a6R fu os k;have e:kO fu os (k+1)=kO fu os k++(if os.contains ((k:Int)+1) then [] else [⟨9,(k:Int)+1,fu.getD k 0⟩]):=by grind [kO,List.range_succ]
  grind [Ns]
theorem O7 {p:cA} {os:List Int} {y:List Dw}(h:y∈fU p os):(∃m∈os,y= [⟨8,m,cV p.co m⟩])\/(∃m∈os,y= [⟨9,m,cV p.fu m⟩])\/y=wG p.fu os\/y= [⟨3,0,p.line⟩]\/y= [⟨4,0,p.cap⟩]:=by grind [fU]
theorem Eo {l:List Int} {m:Int}(h1:1<=m)(h2:m<=aA l):cV l m∈l:=by obtain⟨s,hs,rfl⟩:∃s:Nat,s<aA l/\m=(s:Int)+1:=⟨(m-1).toNat,by omega,by omega⟩;grind [K5]
theorem YP {p:cA} {os:List Int}(F:Gk p os):∀y∈fU p os,vS y:=by
 have hc:∀x∈p.co,0<=x/\x<=1099511627776:=λx hx=>F.all x (by simp [gT,hx])
 have hf:∀x∈p.fu,0<=x/\x<=1099511627776:=λx hx=>F.all x (by simp [gT,hx])
 have hlen:=F.len;have l7:=F.big;intro y hy;rcases O7 hy with⟨m,hm,rfl⟩|⟨m,hm,rfl⟩|rfl|rfl|rfl
 ·have:=F.os1 m hm;exact⟨λx hx=>by grind [Eo],by simp⟩
 ·have:=F.os1 m hm;exact⟨λx hx=>by grind [Eo],by simp⟩
 ·refine⟨λx hx=> ?_,by grind [Kz,wG]⟩;obtain⟨i,hi,_,rfl⟩:=Ns hx;grind [cK]
 ·exact⟨λx hx=>by simp at hx;subst hx;exact F.all _ (by simp [gT]),by simp⟩
 exact⟨λx hx=>by simp at hx;subst hx;exact F.all _ (by simp [gT]),by simp⟩
theorem a7k {p:cA} {os:List Int}(h:gJ p os=0):Gt (oV os) (fU p os):=by
 have F:=AW h;have hu:=Xl h;have hb:=F.big;have h1:∀m∈os,1<=m/\m<=16:=λm hm=>by have:=F.os1 m hm;omega
 have aN8:∀x∈wG p.fu os,oV os x.k x.m=200:=λx hx=>by obtain⟨i,_,hc,rfl⟩:=Ns hx;exact a6r hc
 refine⟨?_,λy hy x hx x' mf=> ?_,λy hy=> ?_⟩
 ·unfold fU;rw [M6,M6,BO,BO];refine⟨⟨hu.imp_of_mem λ{a b} ha hb' hab x hx x' mf=> ?_,hu.imp_of_mem λ{a b} ha hb' hab x hx x' mf=> ?_,λy hy y' hy' x hx x' mf=> ?_⟩, ?_,λy hy y' hy' x hx x' mf=> ?_⟩
  ·grind [SA]
  ·grind [SB]
  ·grind [SA,SB]
  ·grind [kp,Y6,Y7]
  grind [SA,SB,Y6,Y7]
 ·grind [O7]
 rcases O7 hy with⟨m,hm,rfl⟩|⟨m,hm,rfl⟩|rfl|rfl|rfl
 ·simp
 ·simp
 ·exact a6R _ _ _
 ·simp
 simp
def Ux(os:List Int)(k:Nat):List (Int×Int):=(dQ k).flatMap λ(i:Nat)=>(if os.contains ((i:Int)+1) then [(8,(i:Int)+1)] else [])++ [(9,(i:Int)+1)]
def Pk(os:List Int)(n:Nat):List (Int×Int):=Ux os n++ [(3,0),(4,0)]
theorem aCW {os:List Int} {n:Nat} {a:Int×Int}(h:a∈Ux os n):∃i:Nat,i<n/\((os.contains ((i:Int)+1)=aO/\a=(8,(i:Int)+1))\/a=(9,(i:Int)+1)):=by grind [Ux]
theorem Sh {p:cA} {m:Int}(h1:1<=m)(h2:m<=aA p.co):jg p 8 m=cV p.co m:=by grind [jg]
theorem LA {p:cA} {m:Int}(h1:1<=m)(h2:m<=aA p.co):jg p 9 m=cV p.fu m:=by grind [jg]
theorem Sd(p:cA):jg p 3 0=p.line:=by grind [jg]
theorem Sg(p:cA):jg p 4 0=p.cap:=by grind [jg]
theorem a1b {p:cA} {os:List Int}(F:Gk p os) {a:Int×Int}(h:a∈Pk os (aA p.co)):∃y∈fU p os,∃x∈y,x.k=a.1/\x.m=a.2/\x.n=jg p a.1 a.2:=by
 have hlen:=F.len;unfold Pk at h;rcases gN.1 h with h|h
 ·obtain⟨i,hi,⟨hc,rfl⟩|rfl⟩:=aCW h
  ·have hm:=UQ.1 hc;exact⟨[⟨8,(i:Int)+1,cV p.co ((i:Int)+1)⟩],by grind [fU],⟨8,(i:Int)+1,cV p.co ((i:Int)+1)⟩,by simp,rfl,rfl,(Sh (by omega) (by omega)).symm⟩
  cases hc:os.contains ((i:Int)+1) with
  |true=>
   have hm:=UQ.1 hc;exact⟨[⟨9,(i:Int)+1,cV p.fu ((i:Int)+1)⟩],by grind [fU],⟨9,(i:Int)+1,cV p.fu ((i:Int)+1)⟩,by simp,rfl,rfl,(LA (by omega) (by omega)).symm⟩
  |false=>
   refine⟨wG p.fu os,by unfold fU;simp,⟨9,(i:Int)+1,p.fu.getD i 0⟩,aJ7 (by omega) hc,rfl,rfl, ?_⟩;grind [LA,K5]
 simp at h;rcases h with rfl|rfl
 ·exact⟨[⟨3,0,p.line⟩],by unfold fU;simp,⟨3,0,p.line⟩,by simp,rfl,rfl,(Sd p).symm⟩
 exact⟨[⟨4,0,p.cap⟩],by unfold fU;simp,⟨4,0,p.cap⟩,by simp,rfl,rfl,(Sg p).symm⟩
structure aAT(p:cA)(os:List Int)(l:List Dw):Prop where
 up:∀i j (hi:i<aA l) (hj:j<aA l),i<j->oV os l[i].k l[i].m<=oV os l[j].k l[j].m
 pos:∀z∈l,0<=oV os z.k z.m
 acc:∀a∈Pk os (aA p.co),0<=oV os a.1 a.2
 full:∀z∈l,∀a∈Pk os (aA p.co),oV os a.1 a.2<oV os z.k z.m->a2u l a.1 a.2=jg p a.1 a.2
 len:aA l<=1000
theorem a6s {p:cA} {os:List Int}(h:gJ p os=0) {y:List Dw}(hy:y∈fU p os) {x:Dw}(hx:x∈y):0<=oV os x.k x.m:=by
 have F:=AW h;have hb:=F.big;have h1:∀m∈os,1<=m/\m<=16:=λm hm=>by have:=F.os1 m hm;omega
 rcases O7 hy with⟨m,hm,rfl⟩|⟨m,hm,rfl⟩|rfl|rfl|rfl
 ·grind [SA]
 ·grind [SB]
 ·obtain⟨i,_,hc,rfl⟩:=Ns hx;rw [a6r hc];omega
 ·grind [Y6]
 grind [Y7]
theorem aJ0 {p:cA} {os:List Int} {need:Int}(h:sS p os need=0)(hI:aL need)(l9:aA os<=100):aAT p os (oU p os need):=by
 have hm:gJ p os=0:=by grind [sS]
 have hn:0<=need:=by grind [sS]
 have F:=AW hm;have dU:=YP F;have hr:=a7k hm;have hL:oU p os need=gl need (fU p os):=by grind [oU,tj,QM]
 have hlen:aA (oU p os need)<=1000:=by unfold oU;rw [ifP h];have h1:=a6b (fU p os) (need,[]);have h2:=a7l p os;have h3:=F.len;have h4:=F.big;grind [tj]
 rw [hL] at hlen ⊢;have vz:=vQ.1 (a3h (f:=oV os) dU hr hn);have Ws:=QL (nd:=need) dU hn;refine⟨λi j hi hj s8=>vz i j hi hj s8,λz hz=> ?_,λa ha=> ?_,λz hz a ha hlt=> ?_,hlen⟩
 ·obtain⟨_,y,hy,x,hx,e1,e2⟩:=Ws z hz;rw [e1,e2];exact a6s hm hy hx
 ·obtain⟨y,hy,x,hx,e1,e2,_⟩:=a1b F ha;rw [<-e1,<-e2];exact a6s hm hy hx
 obtain⟨y,hy,x,hx,e1,e2,e3⟩:=a1b F ha;rw [<-e1,<-e2] at hlt;have h1:=a3d (f:=oV os) dU hr hn z hz y hy x hx hlt;have h2:=VT (l:=gl need (fU p os)) (k:=a.1) (m:=a.2) (s:=0) (λz hz=>by grind) (dM _) (by have:=a3f (ys:=fU p os) dU hn;unfold aL at hI;omega);grind [a2u]
def wL(p:cA)(os:List Int):Nat->Int
 |0=>p.line+p.cap
 |k+1=>wL p os k+cV p.fu ((k:Int)+1)+(if os.contains ((k:Int)+1) then cV p.co ((k:Int)+1) else 0)
theorem mem_co {p:cA} {k:Nat}(hk:k<aA p.co):p.co[k]∈gT p:=by grind [gT]
theorem aI4 {p:cA} {k:Nat}(hk:k<aA p.fu):p.fu[k]∈gT p:=by grind [gT]
theorem YE {p:cA} {os:List Int}(h:Gk p os):∀k,k<=aA p.co->0<=wL p os k/\wL p os k<=(2+2*(k:Int))*1099511627776
 |0,_=>by have h1:=h.all p.line (by simp [gT]);have h2:=h.all p.cap (by simp [gT]);unfold wL;omega
 |k+1,hk=>by
  have ih:=YE h k (by omega);have hf:k<aA p.fu:=by have:=h.len;omega
  have h1:=h.all _ (mem_co (show k<(aA p.co) by omega));have h2:=h.all _ (aI4 hf);grind [wL,K5]
def pW(f:Int->Int)(os:List Int):Nat->Int
 |0=>0
 |k+1=>pW f os k+(if os.contains ((k:Int)+1) then f ((k:Int)+1) else 0)
theorem a6X {f:Int->Int} {a b:List Int}:∀k:Nat,(∀i:Nat,i<k->a.contains ((i:Int)+1)=b.contains ((i:Int)+1))->pW f a k=pW f b k
 |0,_=>rfl
 |k+1,h=>by unfold pW;rw [a6X k (λi hi=>h i (by omega)),h k (by omega)]
theorem a6Y(f:Int->Int):∀k,pW f [] k=0
 |0=>rfl
 |k+1=>by unfold pW;rw [a6Y f k];rfl
theorem L0(f:Int->Int):∀(n:Nat) (os:List Int),os.Pairwise (· < ·)->(∀m∈os,1<=m/\m<=(n:Int))->(os.map f).sum=pW f os n
 |0,os,_,h=>by
  cases os with
  |nil=>rfl
  |cons a l=>grind [pG]
 |n+1,os,hp,h=>by
  rcases PF os with rfl|⟨zs,z,rfl⟩
  ·rw [a6Y];rfl
  rw [PE] at*;have hz:=h z (by simp);obtain⟨p1,_,p3⟩:=M6.1 hp;have hlt:∀m∈zs,m<z:=λm hm=>p3 m hm z (by simp)
  by_cases Du:z=(n:Int)+1
  ·have ih:=L0 f n zs p1 λm hm=>⟨(h m (by simp [hm])).1,by grind⟩
   have hc:pW f (zs++ [z]) n=pW f zs n:=a6X n λi hi=>by grind
   grind [pW]
  have ih:=L0 f n (zs++ [z]) hp λm hm=>⟨(h m hm).1,by grind⟩
  grind [pW]
theorem Yb:∀ys:List (List Dw),0<=(ys.map cd).sum
 | []=>dM 0
 |y::ys=>by have h1:=Yb ys;have h2:=JD y;grind
theorem a7C:∀(ys:List (List Dw)) (n:Int),0<=n->n+(ys.map cd).sum<=9223372036854775807->ys.foldl (λn y=>aF.wrap (n+sU y)) n=n+(ys.map cd).sum
 | [],n,_,_=>by simp
 |y::ys,n,h0,h=>by rw [yS,Ej] at h;have h1:=Yb ys;have h2:=JD y;rw [D3,Sj (by omega),sr _ (by omega),a7C ys (n+cd y) (by omega) (by omega),yS,Ej];omega
theorem Yh(k m n:Int)(h:0<=n):cd [⟨k,m,n⟩]=n:=by grind [cd]
theorem Np(k:Int)(f:Int->Int):∀os:List Int,(∀m∈os,0<=f m)->((os.map λm=> [(⟨k,m,f m⟩:Dw)]).map cd).sum=(os.map f).sum
 | [],_=>rfl
 |m::os,h=>by rw [yS,yS,Ej,Np k f os λm' hm=>h m' (dx _ hm),Yh _ _ _ (h m (pG ..)),yS,Ej]
def Be(fu:List Int):Nat->Int
 |0=>0
 |k+1=>Be fu k+cV fu ((k:Int)+1)
theorem Xn {fu os:List Int}(h:∀x∈fu,0<=x):∀k,k<=aA fu->cd (kO fu os k)+pW (cV fu) os k=Be fu k
 |0,_=>rfl
 |k+1,hk=>by have ih:=Xn (os:=os) h k (by omega);have hx:=h _ (cK (show k<(aA fu) by omega));unfold pW Be;rw [a6Q (show k<(aA fu) by omega) _ rfl,Yg,K5 (show k<(aA fu) by omega)];grind [cd]
theorem O2(p:cA)(os:List Int):∀k,wL p os k=p.line+p.cap+Be p.fu k+pW (cV p.co) os k
 |0=>by grind [wL,Be,pW]
 |k+1=>by unfold wL Be pW;rw [O2 p os k];omega
theorem YC {p:cA} {os:List Int}(h:gJ p os=0):rH p os=wL p os (aA p.co):=by
 have F:=AW h;have vz:=Xl h;have IX:=F.all p.line (by simp [gT]);have hcp:=F.all p.cap (by simp [gT]);have rB:∀x∈p.co,0<=x:=λx hx=>(F.all x (by simp [gT,hx])).1
 have Dh:∀x∈p.fu,0<=x:=λx hx=>(F.all x (by simp [gT,hx])).1
 have e1:=Np 8 (cV p.co) os λm hm=>rB _ (Eo (F.os1 m hm).1 (F.os1 m hm).2)
 have e2:=Np 9 (cV p.fu) os λm hm=>Dh _ (Eo (F.os1 m hm).1 (by have:=(F.os1 m hm).2;have:=F.len;omega))
 have e3:=L0 (cV p.co) (aA p.co) os vz F.os1;have e4:=L0 (cV p.fu) (aA p.co) os vz F.os1;have e5:=Xn (os:=os) Dh (aA p.co) (by have:=F.len;omega);have e6:=O2 p os (aA p.co);have hb:=YE F (aA p.co) (aZ _);have l7:=F.big;have hs:((fU p os).map cd).sum=wL p os (aA p.co):=by unfold fU wG;rw [dh,dh,D6,D6,e1,e2,F.len];grind [Yh]
 grind [rH,CE,a7C]
def kQ(q:cA)(x:Dw):cA:=
 if 1<=x.m/\x.m<=aA q.co/\x.k=8 then {q with co:=q.co.set (x.m-1).toNat (cV q.co x.m-x.n)}
 else if 1<=x.m/\x.m<=aA q.co/\x.k=9 then {q with fu:=q.fu.set (x.m-1).toNat (cV q.fu x.m-x.n)}
 else if x.m=0/\x.k=3 then {q with line:=q.line-x.n}
 else {q with cap:=q.cap-x.n}
def Rn:cA:=⟨[],aB,0,[],aB,0,0,0⟩
def Rg:cA->List Dw->cA×Int
 |q,[]=>(q,0)
 |q,x::l=>if jg q x.k x.m<0 then (Rn,8) else if x.n<0 then (Rn,1) else if jg q x.k x.m<x.n then (Rn,12) else Rg (kQ q x) l
def a5U(p:cA)(l:List Dw):cA×Int:=if jB p≠0 then (Rn,jB p) else Rg p l
theorem YO {q:cA} {k m:Int}(h:0<=jg q k m):(1<=m/\m<=aA q.co/\k=8)\/(1<=m/\m<=aA q.co/\k=9)\/(m=0/\k=3)\/(m=0/\k=4):=by grind [jg]
theorem YS {q:cA} {x:Dw}(h:1<=x.m/\x.m<=aA q.co/\x.k=8):kQ q x= {q with co:=q.co.set (x.m-1).toNat (cV q.co x.m-x.n)}:=by grind [kQ]
theorem YT {q:cA} {x:Dw}(h:1<=x.m/\x.m<=aA q.co/\x.k=9):kQ q x= {q with fu:=q.fu.set (x.m-1).toNat (cV q.fu x.m-x.n)}:=by grind [kQ]
theorem YQ {q:cA} {x:Dw}(h:x.m=0/\x.k=3):kQ q x= {q with line:=q.line-x.n}:=by grind [kQ]
theorem YR {q:cA} {x:Dw}(h:x.m=0/\x.k=4):kQ q x= {q with cap:=q.cap-x.n}:=by grind [kQ]
theorem YU(q:cA)(x:Dw):(kQ q x).co.length=aA q.co/\(kQ q x).fu.length=aA q.fu:=by grind [kQ]
theorem V9 {l:List Int} {m v m':Int}(h1:1<=m)(h2:m<=aA l)(h3:1<=m'):cV (l.set (m-1).toNat v) m'=if m'=m then v else cV l m':=by
 unfold cV;rw [tC,List.getElem?_set,tC];by_cases e:m'=m
 ·grind
 rw [ifN e,ifN (by omega)]
theorem a8J {q:cA} {x:Dw}(hf:aA q.fu=aA q.co)(hx:0<=jg q x.k x.m)(k m:Int):jg (kQ q x) k m=if k=x.k/\m=x.m then jg q k m-x.n else jg q k m:=by grind [YS,jg,V9,YT,YQ,YR]
theorem a5Z:∀(l:List Dw) (q:cA),aA q.fu=aA q.co->(l.Pairwise λx x'=>¬(x.k=x'.k/\x.m=x'.m))->(∀z∈l,0<=z.n/\z.n<=jg q z.k z.m)->Rg q l=(l.foldl kQ q,0)
 | [],_,_,_,_=>rfl
 |x::l,q,hf,hp,h=>by
  obtain⟨h1,h2⟩:=h x (pG ..);obtain⟨hx,nw⟩:=kp.1 hp;unfold Rg;rw [ifN (by omega),ifN (by omega),ifN (by omega),D3];refine a5Z l _ (by grind [YU]) nw λz hz=> ?_
  grind [a8J]
theorem aFp(l:List Dw):∀q:cA,(l.foldl kQ q).co.length=aA q.co/\(l.foldl kQ q).fu.length=aA q.fu:=by
 induction l with
 |nil=>grind
 |cons x l ih=>
  grind [YU]
def LC(q:cA):Prop:=∀x∈gT q,0<=x/\x<=1099511627776
theorem aCi {q:cA} {x:Dw}(hf:aA q.fu=aA q.co)(h:LC q)(hx:0<=x.n/\x.n<=jg q x.k x.m):LC (kQ q x):=by
 have hb:∀v∈q.co++q.fu++ [q.line,q.cap],0<=v/\v<=1099511627776:=h;have key:0<=jg q x.k x.m:=by omega
 intro v hv;rcases YO key with g|g|g|g
 ·have ht:jg q x.k x.m=cV q.co x.m:=by grind [Sh]
  have hm:=hb _ (vP _ (vP _ (Eo g.1 g.2.1)));rw [YS g] at hv;unfold gT at hv
  dsimp only at hv
  rcases gN.1 hv with hv|hv
  ·rcases gN.1 hv with hv|hv
   ·rcases List.mem_or_eq_of_mem_set hv with hv|hv
    ·exact hb _ (vP _ (vP _ hv))
    omega
   exact hb _ (vP _ (Gh _ hv))
  exact hb _ (Gh _ hv)
 ·have ht:jg q x.k x.m=cV q.fu x.m:=by grind [LA]
  have hm:=hb _ (vP _ (Gh _ (Eo (l:=q.fu) g.1 (by omega))));rw [YT g] at hv;unfold gT at hv
  dsimp only at hv
  rcases gN.1 hv with hv|hv
  ·rcases gN.1 hv with hv|hv
   ·exact hb _ (vP _ (vP _ hv))
   rcases List.mem_or_eq_of_mem_set hv with hv|hv
   ·exact hb _ (vP _ (Gh _ hv))
   omega
  exact hb _ (Gh _ hv)
 ·have ht:jg q x.k x.m=q.line:=by grind [Sd]
  have hm:=hb q.line (by simp);have xW:=hb q.cap (by simp);rw [YQ g] at hv;unfold gT at hv
  dsimp only at hv
  rcases gN.1 hv with hv|hv
  ·exact hb _ (vP _ hv)
  grind
 have ht:jg q x.k x.m=q.cap:=by grind [Sg]
 have hm:=hb q.cap (by simp);have xW:=hb q.line (by simp);rw [YR g] at hv;unfold gT at hv
 dsimp only at hv
 rcases gN.1 hv with hv|hv
 ·exact hb _ (vP _ hv)
 grind
theorem aCh {q:cA}(h1:aA q.co=aA q.fu)(h2:aA q.co<=16)(h:LC q):jB q=0:=Xx h1 h2 λk hk=>by have:=h _ (cK hk);grind [xx]
theorem a3S {l:List Int} {m v:Int}(h1:1<=m)(h2:m<=aA l):∀k:Nat,Be (l.set (m-1).toNat v) k=if m<=k then Be l k-cV l m+v else Be l k
 |0=>by rw [ifN (by omega)];rfl
 |k+1=>by unfold Be;rw [a3S h1 h2 k,V9 h1 h2 (by omega)];grind
theorem a6Z {l os:List Int} {m v:Int}(h1:1<=m)(h2:m<=aA l)(ho:os.contains m=aO):∀k:Nat,pW (cV (l.set (m-1).toNat v)) os k=if m<=k then pW (cV l) os k-cV l m+v else pW (cV l) os k
 |0=>by rw [ifN (by omega)];rfl
 |k+1=>by unfold pW;rw [a6Z h1 h2 ho k,V9 h1 h2 (by omega)];grind
theorem aKK {q:cA} {x:Dw} {os:List Int}(hf:aA q.fu=aA q.co)(hx:0<=jg q x.k x.m)(ho:x.k=8->os.contains x.m=aO):wL (kQ q x) os (aA q.co)=wL q os (aA q.co)-x.n:=by rw [O2,O2];grind [YO,YS,a6Z,YT,a3S,YQ,YR]
theorem a5R:∀(l:List Dw) (q:cA) (os:List Int),aA q.fu=aA q.co->LC q->(l.Pairwise λx x'=>¬(x.k=x'.k/\x.m=x'.m))->(∀z∈l,0<=z.n/\z.n<=jg q z.k z.m/\(z.k=8->os.contains z.m=aO))->
 LC (l.foldl kQ q)/\wL (l.foldl kQ q) os (aA q.co)=wL q os (aA q.co)-cd l
 | [],q,os,_,ha,_,_=>⟨ha,by simp [cd]⟩
 |x::l,q,os,hf,ha,hp,h=>by
  obtain⟨h1,h2,h3⟩:=h x (pG ..);obtain⟨hx,nw⟩:=kp.1 hp;have hl:=YU q x;rw [D3];obtain⟨i1,i2⟩:=a5R l (kQ q x) os (by omega) (aCi hf ha ⟨h1,h2⟩) nw λz hz=>by grind [a8J]
  grind [cd,aKK]
def Fj(z:Dw):Int×Int:=(z.k,z.m)
theorem a3B:∀(y:List Dw) (zs:List Int),((iz y zs).map Fj).Sublist (y.map Fj)
 | [],zs=>by simp [iz]
 |x::y,[]=>by simp [iz]
 |x::y,n::zs=>by
  rw [Ma,dh];have ih:=a3B y zs;by_cases h:0<n
  ·rw [ifP h];exact ih.cons_cons _
  grind
theorem a2y:∀ {y:List Dw} {zs:List Int} {z:Dw},(∀i (h:i<aA zs) (h':i<aA y),zs[i]<=y[i].n)->z∈iz y zs->0<z.n/\∃x∈y,z.k=x.k/\z.m=x.m/\z.n<=x.n
 | [],zs,z,_,hz=>by simp [iz] at hz
 |x::y,[],z,_,hz=>by simp [iz] at hz
 |x::y,n::zs,z,h,hz=>by
  rw [Ma] at hz;rcases gN.1 hz with hz|hz
  ·grind [pG]
  obtain⟨h1,x',mf,h2⟩:=a2y (λi hi hi'=>h (i+1) (by simpa using hi) (by simpa using hi')) hz;grind
theorem aG0 {y:List Dw} {nd:Int}(h:vS y)(hn:0<=nd) {z:Dw}(hz:z∈nE y nd):0<z.n/\∃x∈y,z.k=x.k/\z.m=x.m/\z.n<=x.n:=by have G:=F5 (a2K h hn);refine a2y (λi hi hi'=> ?_) hz;have:=(G.bd i hi (by grind [fj])).2;grind [fj]
theorem Vm:∀(ys:List (List Dw)) (nd:Int),((gl nd ys).map Fj).Sublist (ys.flatten.map Fj)
 | [],nd=>by simp [gl]
 |y::ys,nd=>by unfold gl;rw [List.flatten_cons,dh,dh];exact(a3B y _).append (Vm ys _)
theorem a3e:∀ {ys:List (List Dw)} {nd:Int},(∀y∈ys,vS y)->0<=nd->∀z∈gl nd ys,0<z.n/\∃y∈ys,∃x∈y,z.k=x.k/\z.m=x.m/\z.n<=x.n
 | [],_,_,_,z,hz=>by simp [gl] at hz
 |y::ys,nd,h,hn,z,hz=>by
  have F:=F4 (h y (by simp)) hn;have hs:=F.Fy;unfold gl at hz;rcases gN.1 hz with hz|hz
  ·obtain⟨h1,x,hx,e⟩:=aG0 (h y (by simp)) hn hz;grind
  obtain⟨h1,y',hy,x,hx,e⟩:=a3e (λz hz=>h z (by simp [hz])) (by omega) z hz;grind
theorem aL7 {y:List Dw}(h:∀x∈y,0<=x.n):sumI (fj y)=cd y:=by grind [a2w,cd,Jv]
theorem a3g:∀ {ys:List (List Dw)} {nd:Int},(∀y∈ys,vS y)->0<=nd->cd (gl nd ys)=min nd ((ys.map cd).sum)
 | [],nd,_,hn=>by show (0:Int)=min nd 0;omega
 |y::ys,nd,h,hn=>by
  have F:=F4 (h y (by simp)) hn;have hs:=F.Fy;have e:=aL7 λx hx=>((h y (by simp)).pos x hx).1
  have ih:=a3g (ys:=ys) (nd:=nd-min nd (sumI (fj y))) (λz hz=>h z (by simp [hz])) (by omega);have h0:=Yb ys;unfold gl;rw [Yg,F.CI,ih,yS,Ej,<-e];omega
theorem aFj {f:Int->Int->Int} {ys:List (List Dw)}(h:Gt f ys):(ys.flatten.map Fj).Pairwise (· ≠ ·):=by
 rw [BO,List.pairwise_flatten];refine⟨λy hy=>(h.uniq y hy).imp λhne he=> ?_,h.up.imp λhlt x hx x' mf he=> ?_⟩
 ·grind [Fj]
 grind [Fj]
theorem aKC {p:cA} {os:List Int}(h:gJ p os=0):((fU p os).map cd).sum=rH p os:=by
 have F:=AW h;have vz:=Xl h;have IX:=F.all p.line (by simp [gT]);have hcp:=F.all p.cap (by simp [gT]);have rB:∀x∈p.co,0<=x:=λx hx=>(F.all x (by simp [gT,hx])).1
 have Dh:∀x∈p.fu,0<=x:=λx hx=>(F.all x (by simp [gT,hx])).1
 have e1:=Np 8 (cV p.co) os λm hm=>rB _ (Eo (F.os1 m hm).1 (F.os1 m hm).2)
 have e2:=Np 9 (cV p.fu) os λm hm=>Dh _ (Eo (F.os1 m hm).1 (by have:=(F.os1 m hm).2;have:=F.len;omega))
 have e3:=L0 (cV p.co) (aA p.co) os vz F.os1;have e4:=L0 (cV p.fu) (aA p.co) os vz F.os1;have e5:=Xn (os:=os) Dh (aA p.co) (by have:=F.len;omega);have e6:=O2 p os (aA p.co);rw [YC h];unfold fU wG;rw [dh,dh,D6,D6,e1,e2,F.len];grind [Yh]
theorem aL0 {p:cA} {os:List Int}(F:Gk p os) {y:List Dw}(hy:y∈fU p os) {x:Dw}(hx:x∈y):x.n=jg p x.k x.m/\(x.k=8->os.contains x.m=aO):=by
 have hl:=F.len;rcases O7 hy with⟨m,hm,rfl⟩|⟨m,hm,rfl⟩|rfl|rfl|rfl
 ·simp at hx;subst hx;have:=F.os1 m hm;grind [Sh]
 ·simp at hx;subst hx;have:=F.os1 m hm;grind [LA]
 ·obtain⟨i,hi,_,rfl⟩:=Ns hx;grind [LA,cV]
 ·grind [Sd]
 grind [Sg]
structure a8k(p:cA)(os:List Int)(need:Int)(l:List Dw):Prop where
 len:aA l<=1000
 one:∀z∈l,0<z.n/\z.n<=jg p z.k z.m/\(z.k=8->os.contains z.m=aO)
 uniq:l.Pairwise λx x'=>¬(x.k=x'.k/\x.m=x'.m)
 CI:cd l=min need (rH p os)
theorem a1w {p:cA} {os:List Int} {need:Int}(h:sS p os need=0)(hI:aL need)(l9:aA os<=100):a8k p os need (oU p os need):=by
 have O:=aJ0 h hI l9;have hm:gJ p os=0:=by grind [sS]
 have hn:0<=need:=by grind [sS]
 have F:=AW hm;have dU:=YP F;have e:oU p os need=gl need (fU p os):=by grind [oU,tj,QM]
 refine⟨O.len, ?_, ?_, ?_⟩
 ·rw [e];intro z hz;obtain⟨h1,y,hy,x,hx,e1,e2,e3⟩:=a3e dU hn z hz;grind [aL0]
 ·rw [e];have:=(aFj (a7k hm)).sublist (Vm (fU p os) need);grind [Fj]
 grind [a3g,aKC]
structure a8l(p:cA)(os:List Int)(need:Int)(l:List Dw):Prop where
 less:a5U p l=(l.foldl kQ p,0)
 may:gJ (l.foldl kQ p) os=0
 room:rH (l.foldl kQ p) os=rH p os-cd l
 chk:jB (l.foldl kQ p)=0
 CI:sU l=min need (rH p os)
 cd:cd l=min need (rH p os)
 aNK:gJ p os=0
 aNH:0<=need
theorem aDI {p:cA} {os:List Int} {need:Int}(h:sS p os need=0)(hI:aL need)(l9:aA os<=100):a8l p os need (oU p os need):=by
 have B:=a1w h hI l9;have hm:gJ p os=0:=by grind [sS]
 have hn:0<=need:=by grind [sS]
 have F:=AW hm;generalize oU p os need=l at*;have hl:=aFp l p;obtain⟨a1,a2⟩:=a5R l p os F.len F.all B.uniq λz hz=>⟨by have:=(B.one z hz).1;omega,(B.one z hz).2.1,(B.one z hz).2.2⟩
 have Ie:jB p=0:=by grind [gJ]
 have hce:=aCh (by rw [hl.1,hl.2];exact F.len.symm) (by rw [hl.1];exact F.big) a1;have hme:gJ (l.foldl kQ p) os=0:=by grind [gJ]
 refine⟨?_,hme, ?_,hce, ?_,B.CI,hm,hn⟩
 ·unfold a5U;rw [ifN (by omega)];exact a5Z l p F.len B.uniq λz hz=>⟨by have:=(B.one z hz).1;omega,(B.one z hz).2.1⟩
 ·grind [YC]
 have:=B.CI;grind [aL,Sj]
structure Sm(D D':Dk):Prop where
 x:D'.x=D.x
 h:D'.h=D.h
 ob:D'.ob=D.ob
 bx:D'.bx=D.bx
 who:D'.who=D.who
 aj:D'.aj=D.aj
 st:D'.st=D.st
 en:D'.en=D.en
 lg:∃t,D'.log=D.log++t/\∀e∈t,e.k≠15
theorem Sm.refl(D:Dk):Sm D D:=⟨rfl,rfl,rfl,rfl,rfl,rfl,rfl,rfl,[],by simp,by simp⟩
theorem Sm.trans {D E F:Dk}(h:Sm D E)(h':Sm E F):Sm D F:=by obtain⟨t,e,ht⟩:=h.lg;obtain⟨t',e',AP⟩:=h'.lg;exact⟨h'.x.trans h.x,h'.h.trans h.h,h'.ob.trans h.ob,h'.bx.trans h.bx,h'.who.trans h.who,h'.aj.trans h.aj,h'.st.trans h.st,h'.en.trans h.en,t++t',by grind,λx hx=>(gN.1 hx).elim (ht x) (AP x)⟩
def oG(a:Int):List Lg->Int
 | []=>0
 |x::L=>(if x.a=a then x.n else 0)+oG a L
theorem Pt {a:Int}:∀ {L:List Lg},(∀x∈L,1<=x.n)->0<=oG a L
 | [],_=>dM 0
 |x::L,h=>by have:=h x (by simp);have:=Pt (a:=a) (L:=L) (λy hy=>h y (dx _ hy));grind [oG]
abbrev B(D:Dk)(k m a:Int):Int:=balA (aA D.x.ms) (aA D.x.ss+1) D.l k m a
def yR(x:ak)(y:Lg):Prop:=(1<=y.m/\y.m<=(aA x.ms:Int))/\(0<=y.a/\y.a<=(aA x.ss:Int))/\1<=y.n
theorem aw.give {C:Int} {g:Nat} {D:Dk}(H:aw C g D) {x:Lg}(hx:yR D.x x)(h2:x.n<=B D 1 0 x.a):
 aw C (g+1) (I9 D x)/\Sm D (I9 D x)/\(∀k m b,k≠1->k≠7->B (I9 D x) k m b=B D k m b)/\∀b,B (I9 D x) 1 0 b=B D 1 0 b-if x.a=b then x.n else 0:=by
 obtain⟨_,h,hd⟩:=H.goes (tk:=7) (tm:=x.m) (a:=x.a) (n:=x.n) (e:=⟨13,x.m,x.a,x.n,0⟩) (.inl ⟨rfl,hx.1⟩) hx.2.1 hx.2.2 h2 ⟨rfl,rfl,rfl⟩;refine⟨h,⟨rfl,rfl,rfl,rfl,rfl,rfl,rfl,rfl,[⟨13,x.m,x.a,x.n,0⟩],rfl,by simp⟩, ?_, ?_⟩
 ·intro k m b h1 h7;refine(hd k m b).trans ?_;grind
 intro b;refine(hd 1 0 b).trans ?_;grind
theorem aw.gives:∀(L:List Lg) {C:Int} {g:Nat} {D:Dk},aw C g D->(∀x∈L,yR D.x x)->(∀a,oG a L<=B D 1 0 a)->
 (∀k,k<=aA L->aw C (g+k) (j5 D (L.take k)))/\Sm D (j5 D L)/\(∀k m b,k≠1->k≠7->B (j5 D L) k m b=B D k m b)/\∀b,B (j5 D L) 1 0 b=B D 1 0 b-oG b L
 | [],C,g,D,H,_,_=>⟨λk hk=>by have:k=0:=by simpa using hk
                              subst this;exact H,Sm.refl D,λ_ _ _ _ _=>rfl,λb=>by simp [oG,j5]⟩
 |x::L,C,g,D,H,hx,ha=>by
  have h1:=hx x (by simp);have hp:∀y∈L,yR D.x y:=λy hy=>hx y (dx _ hy)
  have N9:=λa=>Pt (a:=a) (L:=L) (λy hy=>(hp y hy).2.2)
  have h2:x.n<=B D 1 0 x.a:=by have h3:=ha x.a;have:=N9 x.a;unfold oG at h3;rw [ifP rfl] at h3;omega
  obtain⟨G,S,K,Hs⟩:=H.give h1 h2;have ih:=aw.gives L G hp (λa=>by have:=ha a;rw [Hs a];simp only [oG] at this;omega);obtain⟨G2,S2,K2,H2⟩:=ih;refine⟨?_,S.trans S2, ?_, ?_⟩
  ·intro k hk;cases k with
   |zero=>exact H
   |succ k=>
    have:=G2 k (by simpa using hk);rw [show g+(k+1)=g+1+k by omega];exact this
  ·intro k m b e1 e7;exact(K2 k m b e1 e7).trans (K k m b e1 e7)
  intro b;refine(H2 b).trans ?_;rw [Hs b];simp only [oG];omega
theorem aw.QE {C:Int} {kd:Int}(hk:kd=4\/kd=14\/kd=15):∀(L:List Lg) {g:Nat} {D:Dk},aw C g D->(∀x∈L,(0<=x.a/\x.a<=(aA D.x.ss:Int))/\(1<=x.n\/kd=4))->aw C (g+aA L) (kH D kd L)
 | [],g,D,H,_=>by show aw C g {D with log:=D.log++ []};rw [List.append_nil];exact H
 |x::L,g,D,H,h=>by
  have h1:=h x (by simp);have hf:kW ⟨kd,x.m,x.a,x.n,0⟩=0:=by grind [kW]
  have G:aw C (g+1) {D with log:=D.log++ [⟨kd,x.m,x.a,x.n,0⟩]}:=by
   have gZ:∀a,dt (D.log++ [⟨kd,x.m,x.a,x.n,0⟩]) a=B D 1 0 a:=λa=>by rw [Bb,Bc,H.fl a,hf];split<;>simp
   refine⟨H.hs,H.bF,H.h8,H.hl,gZ,H.lg.snoc ⟨h1.1.1,h1.1.2, ?_⟩ (λa=>by rw [gZ];have h5:=H.house a;have h6:=H.bF.big;exact⟨h5.1,by grind⟩),by show aA (D.log++ [_])<=g+1;rw [cN];have:=H.gl;simp;omega,H.who,H.ob,H.bx,H.bl,H.st,H.aj⟩;grind
  have ih:=aw.QE hk L G (λy hy=>h y (dx _ hy));grind [kH]
theorem a3D(D:Dk) {kd:Int}(hk:kd≠15)(L:List Lg):Sm D (kH D kd L):=⟨rfl,rfl,rfl,rfl,rfl,rfl,rfl,rfl,_,rfl,λe he=>by grind⟩
def MC(x:ak)(k m:Int):Prop:=((k=8\/k=9)/\1<=m/\m<=(aA x.ms:Int))\/((k=3\/k=4)/\m=0)
theorem aw.comes {C:Int} {g:Nat} {D:Dk}(H:aw C g D) {x:Dw}(hs:MC D.x x.k x.m)(hh:D.h= [])(h1:1<=x.n)(h2:x.n<=B D x.k x.m 0)(hC:C+2*x.n<=4611686018427387904+1125899906842624):
 aw (C+2*x.n) (g+1) (qO D x)/\Sm D (qO D x)/\∀k m b,B (qO D x) k m b=B D k m b+((if k=x.k/\m=x.m/\b=0 then-x.n else 0)+(if k=1/\m=0/\b=0 then x.n else 0)):=by
 obtain⟨fk,fm,n⟩:=x;simp only at hs h1 h2 hC ⊢;obtain⟨j,hj⟩:=L3 (M:=aA D.x.ms) (A:=aA D.x.ss+1) (a:=0) (by omega) (by omega);have hi:∃i,plcA (aA D.x.ms) (aA D.x.ss+1) fk fm 0=aC i:=by
  rcases hs with⟨h,h'⟩|⟨h,rfl⟩
  ·exact CD (.inr h) h' (by omega) (by omega)
  rcases h with rfl|rfl
  ·exact aJe (by omega) (by omega)
  exact aJc (by omega) (by omega)
 obtain⟨i,hi⟩:=hi;have hne:¬fk=1:=by rcases hs with⟨h,_⟩|⟨h,_⟩<;>omega
 have AD:=H.house 0;have hF:=H.bF.F0;have bQ:B D fk fm 0<=1099511627776:=by
  rcases hs with⟨h|h,_⟩|⟨h|h,rfl⟩
  ·subst h;exact H.bF.tP fm 0
  ·subst h;have:=H.bF.zu fm 0;show balA _ _ _ _ _ _<=_;omega
  ·subst h;have:=H.bF.AU 0;show balA _ _ _ _ _ _<=_;omega
  subst h;have:=H.bF.cap 0;show balA _ _ _ _ _ _<=_;omega
 have ud:n<=balA (aA D.x.ms) (aA D.x.ss+1) D.l fk fm 0:=h2;have aMf:balA (aA D.x.ms) (aA D.x.ss+1) D.l fk fm 0<=1099511627776:=bQ;have Qh:uo D fk fm 1 0 0 n=0:=Ni hi hj (by omega) (by omega) (by unfold aL;omega) (.inr ⟨ud,by rw [hh];show (0:Int)<=_;omega⟩) (by unfold aL;omega) (by unfold aL;omega) H.bF.ok.len;have hd:=Rl Qh H.bF.ok.len hi hj;have dU:nT (aA D.x.ms) (aA D.x.ss+1) (bj D fk fm 1 0 0 n):=nT.mv H.bF.ok H.hs.sl.2;have gZ:∀b,dt (D.log++ [⟨10,fm,0,n,fk⟩]) b=balA (aA D.x.ms) (aA D.x.ss+1) (bj D fk fm 1 0 0 n) 1 0 b:=by intro b;rw [Bb,Bc,H.fl b,hd,show kW ⟨10,fm,0,n,fk⟩=n from rfl];grind
 refine⟨⟨H.hs,⟨dU, ?_, ?_, ?_, ?_, ?_, ?_, ?_,hC,H.bF.F0⟩,H.h8,H.hl, ?_, ?_, ?_,H.who,H.ob,H.bx,H.bl,H.st,H.aj⟩,⟨rfl,rfl,rfl,rfl,rfl,rfl,rfl,rfl,[⟨10,fm,0,n,fk⟩],rfl,by simp⟩,hd⟩
 ·intro m b;refine kD (rX (hd 8 m b)) ?_;have:=H.bF.tP m b;split<;>split<;>omega
 ·intro m b;refine kD (rX (hd 9 m b)) ?_;have:=H.bF.zu m b;show balA _ _ _ _ _ _+_<=(if D.en=aO then (1099511627776:Int) else 0);omega
 ·intro b;refine kD (rX (hd 3 0 b)) ?_;have:=H.bF.AU b;show balA _ _ _ _ _ _+_<=(if D.en=aO then (1099511627776:Int) else 0);omega
 ·intro b;refine kD (rX (hd 4 0 b)) ?_;have:=H.bF.cap b;show balA _ _ _ _ _ _+_<=(if D.en=aO then (1099511627776:Int) else 0);omega
 ·intro m b;show _<=balA (aA D.x.ms) (aA D.x.ss+1) (bj D fk fm 1 0 0 n) 7 m b+balA (aA D.x.ms) (aA D.x.ss+1) (bj D fk fm 1 0 0 n) 8 m b-balA (aA D.x.ms) (aA D.x.ss+1) (bj D fk fm 1 0 0 n) 1 0 b;rw [hd 7,hd 8,hd 1];have:=H.bF.lo m b;grind
 ·intro m b;show balA (aA D.x.ms) (aA D.x.ss+1) (bj D fk fm 1 0 0 n) 7 m b+balA (aA D.x.ms) (aA D.x.ss+1) (bj D fk fm 1 0 0 n) 8 m b+balA (aA D.x.ms) (aA D.x.ss+1) (bj D fk fm 1 0 0 n) 1 0 b<=_;rw [hd 7,hd 8,hd 1];have:=H.bF.hi m b;grind
 ·intro b;show balA (aA D.x.ms) (aA D.x.ss+1) (bj D fk fm 1 0 0 n) 2 0 b+balA (aA D.x.ms) (aA D.x.ss+1) (bj D fk fm 1 0 0 n) 1 0 b<=_;rw [hd 2,hd 1];have:=H.bF.es b;grind
 ·intro b;exact gZ b
 ·refine H.lg.snoc ⟨by grind,by grind,.inl h1⟩ (λb=> ?_);rw [gZ];refine⟨dU.nn rfl 0 b, ?_⟩;rw [hd];have h5:=(H.house b).2;omega
 show aA (D.log++ [_])<=g+1;rw [cN];have:=H.gl;simp;omega
def Hz(k m:Int):List Dw->Int
 | []=>0
 |x::L=>(if k=x.k/\m=x.m then x.n else 0)+Hz k m L
theorem VW {k m:Int}:∀ {L:List Dw},(∀x∈L,¬(k=x.k/\m=x.m))->Hz k m L=0
 | [],_=>rfl
 |x::L,h=>by simp only [Hz];rw [ifN (h x (by simp)),VW (λy hy=>h y (dx _ hy))];rfl
theorem aw.draws:∀(L:List Dw) {C:Int} {g:Nat} {D:Dk},aw C g D->D.h= []->(∀x∈L,MC D.x x.k x.m/\1<=x.n/\x.n<=B D x.k x.m 0)->(L.Pairwise λx x'=>¬(x.k=x'.k/\x.m=x'.m))->C+2*cd L<=4611686018427387904+1125899906842624->
 (∀k,k<=aA L->aw (C+2*cd L) (g+k) (oK D (L.take k)))/\Sm D (oK D L)/\(∀k m b,B (oK D L) k m b=B D k m b+((if b=0 then-Hz k m L else 0)+(if k=1/\m=0/\b=0 then cd L else 0)))
 | [],C,g,D,H,_,_,_,hC=>by grind [cd,Sm.refl,Hz,oK]
 |x::L,C,g,D,H,hh,hx,hp,hC=>by
  rw [kp] at hp;have h1:=hx x (by simp);have hn:=JD L;have hne:¬(x.k=1):=by rcases h1.1 with⟨h,_⟩|⟨h,_⟩<;>omega
  have et:cd (x::L)=x.n+cd L:=by grind [cd]
  rw [et] at hC ⊢;obtain⟨G,S,K⟩:=H.comes h1.1 hh h1.2.1 h1.2.2 (by omega);have ih:=aw.draws L G (by rw [S.h];exact hh) (λy hy=>by
   have hy':=hx y (dx _ hy);have hd:=hp.1 y hy;have hny:¬(y.k=1):=by rcases hy'.1 with⟨h,_⟩|⟨h,_⟩<;>omega
   refine⟨hy'.1,hy'.2.1, ?_⟩;grind) hp.2 (by omega)
  obtain⟨G2,S2,K2⟩:=ih;refine⟨?_,S.trans S2, ?_⟩
  ·intro k hk;cases k with
   |zero=>exact(H.wide (by omega) (by omega) (by omega))
   |succ k=>
    have:=G2 k (by simpa using hk);rw [show g+(k+1)=g+1+k by omega,show C+2*(x.n+cd L)=C+2*x.n+2*cd L by omega];exact this
  intro k m b;refine(K2 k m b).trans ?_;grind [Hz]
theorem VN(D:Dk)(n:Nat) {i:Nat}(hi:i<aA (iA D n)):(iA D n)[i]=B D 8 ((i:Int)+1) 0:=by simp [iA,B]
theorem Vj(D:Dk)(n:Nat) {i:Nat}(hi:i<aA (iI D n)):(iI D n)[i]=B D 9 ((i:Int)+1) 0:=by simp [iI,B]
theorem a1o(D:Dk) {m:Int}(h1:1<=m)(h2:m<=(aA D.x.ms:Int)):cV (iA D (aA D.x.ms)) m=B D 8 m 0:=by
 unfold cV;have hl:(m-1).toNat<aA (iA D (aA D.x.ms)):=by rw [pL];omega
 rw [tC,iG hl,PM,VN,show (((m-1).toNat:Nat):Int)+1=m by omega]
theorem a1p(D:Dk) {m:Int}(h1:1<=m)(h2:m<=(aA D.x.ms:Int)):cV (iI D (aA D.x.ms)) m=B D 9 m 0:=by
 unfold cV;have hl:(m-1).toNat<aA (iI D (aA D.x.ms)):=by rw [vZ];omega
 rw [tC,iG hl,PM,Vj,show (((m-1).toNat:Nat):Int)+1=m by omega]
theorem aw.may {C:Int} {g:Nat} {D:Dk}(H:aw C g D):gJ (jx D) D.who=0:=by
 have hF:(if D.en=aO then (1099511627776:Int) else 0)<=1099511627776:=by split<;>omega
 refine a5g (Xx (by show aA (iA D _)=aA (iI D _);rw [pL,vZ]) (by show aA (iA D _)<=16;rw [pL];exact H.hs.ml.2) ?_) ?_
 ·intro k hk;have hm:=cK hk;generalize (gT (jx D))[k]=v at hm;have Qs:v∈iA D (aA D.x.ms)++iI D (aA D.x.ms)++ [B D 3 0 0,B D 4 0 0]:=hm;have key:0<=v/\v<=1099511627776:=by
   simp only [gN,fG,List.not_mem_nil,or_false] at Qs;rcases Qs with (h|h)|h|h
   ·obtain⟨i,_,rfl⟩:=di.1 h;exact⟨H.bF.ok.nn rfl _ _,H.bF.tP _ _⟩
   ·obtain⟨i,_,rfl⟩:=di.1 h;exact⟨H.bF.ok.nn rfl _ _,kD (H.bF.zu _ _) hF⟩
   ·subst h;exact⟨H.bF.ok.nn rfl _ _,kD (H.bF.AU _) hF⟩
   subst h;exact⟨H.bF.ok.nn rfl _ _,kD (H.bF.cap _) hF⟩
  grind [xx]
 intro k hk;have hg:D.who.getD k 0=D.who[k]:=by grind
 have h1:=H.who.pS _ (cK hk);unfold th;rw [hg,show (jx D).co.length=(aA D.x.ms) from pL _ _,decide_eq_false (by omega),decide_eq_false (by omega),Bool.false_or,Bool.false_or];by_cases h0:0<k
 ·have AG:k-1<aA D.who:=by omega
  have hg1:D.who.getD (k-1) 0=D.who[k-1]:=by grind
  have:=vQ.1 H.who.up (k-1) k AG hk (by omega);grind
 grind
def mJ(D:Dk):Int:=rH (jx D) D.who
theorem aw.room {C:Int} {g:Nat} {D:Dk}(H:aw C g D):0<=mJ D/\mJ D<=37383395344384:=by
 unfold mJ;rw [YC H.may];have h:=YE (AW H.may) (jx D).co.length (aZ _);have hl:(jx D).co.length<=16:=by rw [show (jx D).co.length=(aA D.x.ms) from pL _ _];exact H.hs.ml.2
 omega
theorem aJj {D:Dk} {x:Dw}(hs:MC D.x x.k x.m)(K:∀k m b,B (qO D x) k m b=B D k m b+((if k=x.k/\m=x.m/\b=0 then-x.n else 0)+(if k=1/\m=0/\b=0 then x.n else 0))):jx (qO D x)=kQ (jx D) x:=by
 obtain⟨fk,fm,n⟩:=x;have kL:(jx D).co.length=aA D.x.ms:=pL _ _;have e8:∀i:Nat,i<aA D.x.ms->B (qO D ⟨fk,fm,n⟩) 8 ((i:Int)+1) 0=B D 8 ((i:Int)+1) 0+(if 8=fk/\(i:Int)+1=fm then-n else 0):=λi _=>by rw [K];simp
 have e9:∀i:Nat,i<aA D.x.ms->B (qO D ⟨fk,fm,n⟩) 9 ((i:Int)+1) 0=B D 9 ((i:Int)+1) 0+(if 9=fk/\(i:Int)+1=fm then-n else 0):=λi _=>by rw [K];simp
 have e3:=K 3 0 0;have e4:=K 4 0 0;have rB:¬fk=8->iA (qO D ⟨fk,fm,n⟩) (aA D.x.ms)=iA D (aA D.x.ms):=λh=>by refine Gf (by rw [pL,pL]) (λi h1 h2=> ?_);grind [VN]
 have Dh:¬fk=9->iI (qO D ⟨fk,fm,n⟩) (aA D.x.ms)=iI D (aA D.x.ms):=λh=>by refine Gf (by rw [vZ,vZ]) (λi h1 h2=> ?_);grind [Vj]
 have hp:∀li ca,B (qO D ⟨fk,fm,n⟩) 3 0 0=li->B (qO D ⟨fk,fm,n⟩) 4 0 0=ca->jx (qO D ⟨fk,fm,n⟩)=⟨iA (qO D ⟨fk,fm,n⟩) (aA D.x.ms),aB,0,iI (qO D ⟨fk,fm,n⟩) (aA D.x.ms),aB,0,li,ca⟩:=by rintro _ _ rfl rfl;rfl
 simp only at e3 e4 hs;unfold kQ;rw [kL];rcases hs with⟨h|h,h1,h2⟩|⟨h|h,h1⟩
 ·subst h;rw [ifP ⟨h1,h2,rfl⟩,hp (B D 3 0 0) (B D 4 0 0) (by rw [e3];simp) (by rw [e4];simp),Dh (by decide)];have:iA (qO D ⟨8,fm,n⟩) (aA D.x.ms)=(iA D (aA D.x.ms)).set (fm-1).toNat (cV (iA D (aA D.x.ms)) fm-n):=by
   refine Gf (by grind [pL]) (λi g1 g2=> ?_);grind [pL,VN,a1o]
  rw [this];rfl
 ·subst h;rw [ifN (by simp),ifP ⟨h1,h2,rfl⟩,hp (B D 3 0 0) (B D 4 0 0) (by rw [e3];simp) (by rw [e4];simp),rB (by decide)];have:iI (qO D ⟨9,fm,n⟩) (aA D.x.ms)=(iI D (aA D.x.ms)).set (fm-1).toNat (cV (iI D (aA D.x.ms)) fm-n):=by
   refine Gf (by grind [vZ]) (λi g1 g2=> ?_);grind [vZ,Vj,a1p]
  rw [this];rfl
 ·subst h h1;rw [ifN (by simp),ifN (by simp),ifP ⟨rfl,rfl⟩,hp (B D 3 0 0-n) (B D 4 0 0) (by rw [e3];simp;omega) (by rw [e4];simp),rB (by decide),Dh (by decide)];rfl
 subst h h1;rw [ifN (by simp),ifN (by simp),ifN (by simp),hp (B D 3 0 0) (B D 4 0 0-n) (by rw [e3];simp) (by rw [e4];simp;omega),rB (by decide),Dh (by decide)];rfl
theorem a6f:∀(L:List Dw) {C:Int} {g:Nat} {D:Dk},aw C g D->D.h= []->(∀x∈L,MC D.x x.k x.m/\1<=x.n/\x.n<=B D x.k x.m 0)->(L.Pairwise λx x'=>¬(x.k=x'.k/\x.m=x'.m))->C+2*cd L<=4611686018427387904+1125899906842624->
 jx (oK D L)=L.foldl kQ (jx D)
 | [],C,g,D,_,_,_,_,_=>rfl
 |x::L,C,g,D,H,hh,hx,hp,hC=>by
  rw [kp] at hp;have h1:=hx x (by simp);have hn:=JD L;have hne:¬(x.k=1):=by rcases h1.1 with⟨h,_⟩|⟨h,_⟩<;>omega
  have et:cd (x::L)=x.n+cd L:=by grind [cd]
  rw [et] at hC;obtain⟨G,S,K⟩:=H.comes h1.1 hh h1.2.1 h1.2.2 (by omega);rw [D3,<-aJj h1.1 K];exact a6f L G (by rw [S.h];exact hh) (λy hy=>by
   have hy':=hx y (dx _ hy);have hd:=hp.1 y hy;have hny:¬(y.k=1):=by rcases hy'.1 with⟨h,_⟩|⟨h,_⟩<;>omega
   refine⟨hy'.1,hy'.2.1, ?_⟩;grind) hp.2 (by omega)
structure a8p(C:Int)(g:Nat)(D:Dk)(n:Int):Prop where
 steps:∀k,k<=aA (iH D n)->aw (C+140737488355328) (g+k) (oK D ((iH D n).take k))
 len:aA (iH D n)<=50
 dI:∀x∈iH D n,aL x.k/\aL x.m/\aL x.n/\0<=x.n
 sm:Sm D (mB D n)
 keep:∀k m b,(b≠0\/k=2\/k=5\/k=6\/k=7)->B (mB D n) k m b=B D k m b
 house:B (mB D n) 1 0 0=B D 1 0 0+min (max n 0) (mJ D)
 room:mJ (mB D n)=mJ D-min (max n 0) (mJ D)
theorem aL1(p:cA)(os:List Int):(fU p os).flatten.length<=2*aA os+aA p.fu+2:=by
 have h:=Kz p.fu os (aA p.fu);have h1:∀(f:Int->Dw) (l:List Int),(l.map (λm=> [f m])).flatten.length=aA l:=by
  intro f l;induction l with
  |nil=>rfl
  |cons x l ih=>grind
 unfold fU;rw [aA3,aA3,cN,cN,h1 (λm=>⟨8,m,cV p.co m⟩),h1 (λm=>⟨9,m,cV p.fu m⟩)];grind [wG]
theorem aJY {p:cA} {os:List Int} {need:Int}(h:sS p os need=0)(hm:gJ p os=0)(hn:0<=need)(hI:aL need):aA (oU p os need)<=2*aA os+aA p.fu+2:=by
 have dU:=YP (AW hm);have e:oU p os need=gl need (fU p os):=by grind [oU,tj,QM]
 grind [Vm,iX,aL1]
theorem aw.drawn {C:Int} {g:Nat} {D:Dk}(H:aw C g D)(hh:D.h= []) {n:Int}(hn:aL n)(hC:C+140737488355328<=4611686018427387904+1125899906842624):a8p C g D n:=by
 have hr:=H.room;by_cases h0:n<=0
 ·have e:iH D n= []:=by grind [iH]
  have e':mB D n=D:=by unfold mB;rw [e];rfl
  have em:min (max n 0) (mJ D)=0:=by omega
  refine⟨?_,by rw [e];simp,by rw [e];simp,by grind [Sm.refl],λk m b _=>by rw [e'],by rw [e',em];omega,by rw [e',em];omega⟩;rw [e];intro k hk;have:k=0:=by simpa using hk
  subst this;exact H.wide (by omega) hC (by omega)
 have Ie:sS (jx D) D.who n=0:=by unfold sS;rw [ifN (by rw [H.may];simp),ifN (by omega)]
 have Kh:=H.who.len;have ir:=H.hs.ml;have BF:=a1w Ie hn (by omega);have BL:=aDI Ie hn (by omega);have hpl:=aJY Ie H.may (by omega) hn;have e:iH D n=oU (jx D) D.who n:=by grind [iH]
 have gZ:(jx D).fu.length=aA D.x.ms:=vZ _ _;have kL:(jx D).co.length=aA D.x.ms:=pL _ _;rw [<-e] at BF BL hpl;have Ii:∀x∈iH D n,MC D.x x.k x.m/\1<=x.n/\x.n<=B D x.k x.m 0:=λx hx=>by
  obtain⟨a1,a2,_⟩:=BF.one x hx;have h8:0<=jg (jx D) x.k x.m:=by omega
  rcases YO h8 with g|g|g|g
  ·rw [kL] at g;refine⟨.inl ⟨.inl g.2.2,g.1,g.2.1⟩,a1, ?_⟩;grind [Sh,jx,a1o]
  ·rw [kL] at g;refine⟨.inl ⟨.inr g.2.2,g.1,g.2.1⟩,a1, ?_⟩;grind [LA,jx,a1p]
  ·refine⟨.inr ⟨.inl g.2,g.1⟩,a1, ?_⟩;rw [g.1,g.2,Sd] at a2;rw [g.1,g.2];exact a2
  refine⟨.inr ⟨.inr g.2,g.1⟩,a1, ?_⟩;rw [g.1,g.2,Sg] at a2;rw [g.1,g.2];exact a2
 have ht:cd (iH D n)=min n (mJ D):=BF.CI;have NP:C+2*cd (iH D n)<=C+140737488355328:=by rw [ht];omega
 obtain⟨G,S,K⟩:=aw.draws (iH D n) H hh Ii BF.uniq (by omega);have aGw:=a6f (iH D n) H hh Ii BF.uniq (by omega);have em:min (max n 0) (mJ D)=cd (iH D n):=by rw [ht];omega
 refine⟨λk hk=>(G k hk).wide NP hC (aZ _),by omega, ?_,S, ?_, ?_, ?_⟩
 ·intro x hx;obtain⟨s,a1,a2⟩:=Ii x hx;have hb:B D x.k x.m 0<=1099511627776:=by
   have hF:(if D.en=aO then (1099511627776:Int) else 0)<=1099511627776:=by split<;>omega
   rcases s with⟨h|h,_⟩|⟨h|h,e⟩
   ·rw [h];exact H.bF.tP _ _
   ·rw [h];exact kD (H.bF.zu _ _) hF
   ·rw [h,e];exact kD (H.bF.AU _) hF
   rw [h,e];exact kD (H.bF.cap _) hF
  refine⟨?_, ?_,by unfold aL;omega,by omega⟩<;>rcases s with⟨h,h',h''⟩|⟨h,h'⟩<;>unfold aL<;>omega
 ·intro k m b hkb;refine(K k m b).trans ?_;have hd:b=0->Hz k m (iH D n)=0:=λ_=>VW (λx hx AJ=>by
   obtain⟨s,_,_⟩:=Ii x hx;rcases s with⟨h,_⟩|⟨h,_⟩<;>omega)
  omega
 ·refine(K 1 0 0).trans ?_;rw [ifP rfl,ifP ⟨rfl,rfl,rfl⟩,VW (λx hx AJ=>by
   obtain⟨s,_,_⟩:=Ii x hx;rcases s with⟨h,_⟩|⟨h,_⟩<;>omega),em]
  omega
 show rH (jx (oK D (iH D n))) (oK D (iH D n)).who=_;rw [aGw,S.who,BL.room,em];rfl
def jz(p:Lg->Bool):List Lg->Int
 | []=>0
 |x::l=>(if p x then x.n else 0)+jz p l
theorem SQ(p:Lg->Bool):∀(l m:List Lg),jz p (l++m)=jz p l+jz p m
 | [],m=>by simp [jz]
 |x::l,m=>by simp only [List.cons_append,jz,SQ p l m];omega
theorem L9:∀l:List Lg,jz (λ_=>aO) l=sumI (bG l)
 | []=>rfl
 |x::l=>by have:=L9 l;grind [jz,bG,sumI]
theorem YW(p:Lg->Bool):∀(l:List Lg),(∀x∈l,0<=x.n)->0<=jz p l
 | [],_=>by simp [jz]
 |x::l,h=>by
  have h1:=YW p l λy hy=>h y (dx _ hy)
  grind [jz]
def Nh(x:Lg)(n:Int):Lg:=⟨x.m,x.a,n⟩
theorem YL(x:Lg)(L:List Lg)(n:Int)(xs:List Int):fB (x::L) (n::xs)=(if 0<n then [Nh x n] else [])++fB L xs:=by
 unfold fB;rw [Ek];by_cases c:0<n
 ·rw [List.filter_cons_of_pos (by simpa using c),ifP c];rfl
 grind
def pm(m:Int)(x:Lg):Bool:=x.m==m
def UZ(p:Lg->Bool):Prop:=∀x n,p (Nh x n)=p x
theorem aI2(m:Int):UZ (pm m):=λ_ _=>rfl
theorem aI1:UZ (λ_=>aO):=λ_ _=>rfl
theorem YN {p:Lg->Bool}(hp:UZ p):∀(L:List Lg) (xs:List Int),aA xs=aA L->(∀x∈xs,0<=x)->(∀x∈kV (· - ·) (bG L) xs,0<=x)->
 jz p (fB L xs)+jz p (fB L (kV (· - ·) (bG L) xs))=jz p L
 | [],[],_,_,_=>by simp [fB,jz,bG]
 |x::L,n::xs,hl,h0,h1=>by
  have ih:=YN hp L xs (by simpa using hl) (λy hy=>h0 y (dx _ hy)) (λy hy=>h1 y (by grind [bG,Ek]));have a0:=h0 n (pG ..);have a1:=h1 (x.n-n) (by grind [bG,Ek]);have e:kV (· - ·) (bG (x::L)) (n::xs)=(x.n-n)::kV (· - ·) (bG L) xs:=rfl;have q:∀k:Int,0<=k->jz p (if 0<k then [Nh x k] else [])=if p x then k else 0:=λk hk=>by
   by_cases c:0<k
   ·rw [ifP c];simp only [jz];rw [hp x k];grind [Nh]
   grind [jz]
  rw [e,YL,YL,SQ,SQ,q n a0,q _ a1];grind [jz]
 | [],_::_,hl,_,_=>by simp at hl
 |_::_,[],hl,_,_=>by simp at hl
theorem a7b:∀(L:List Lg) (xs:List Int),aA xs=aA L->(∀x∈xs,0<=x)->jz (λ_=>aO) (fB L xs)=sumI xs
 | [],[],_,_=>rfl
 |x::L,n::xs,hl,h0=>by have ih:=a7b L xs (by simpa using hl) (λy hy=>h0 y (dx _ hy));have a0:=h0 n (pG ..);rw [YL,SQ,ih];grind [jz,sumI,Nh]
 | [],_::_,hl,_=>by simp at hl
 |_::_,[],hl,_=>by simp at hl
theorem a7Y(L:List Lg)(xs:List Int):∀x∈fB L xs,0<=x.n:=by grind [fB]
theorem aK1 {L:List Lg}(h:dF L=0):∀k (hk:k<aA L) i (hi:i<aA L),i<k->L[i].m<L[k].m:=by
 obtain⟨_,b,_⟩:=BW h;have step:∀k (hk:k+1<aA L),L[k].m<L[k+1].m:=λk hk=>by grind [Hi,Rz]
 intro k;induction k with
 |zero=>intro _ i _ h;omega
 |succ k ih=>
  grind
theorem a7v {p:Lg->Bool}:∀ {l:List Lg},(∀x∈l,p x=aP)->jz p l=0
 | [],_=>rfl
 |x::l,h=>by simp only [jz];rw [h x (pG ..),a7v λy hy=>h y (dx _ hy)];rfl
theorem aI9 {L:List Lg}(h:dF L=0) {m:Int} {k:Nat}(hk:k<aA L)(e:L[k].m=m):jz (pm m) (L.take k)=0:=by
 refine a7v λx hx=> ?_
 obtain⟨i,hi,rfl⟩:=tD.1 hx;rw [vN] at hi;rw [List.getElem_take];have:=aK1 h k hk i (by omega) (by omega);grind [pm]
structure aCO(cE:Int)(L:List Lg)(m:Int):Prop where
 g0:∀x∈jn cE L,0<=x.n
 l0:∀x∈jv cE L,0<=x.n
 tg:jz (λ_=>aO) (jn cE L)=min cE (sumI (bG L))
 tl:jz (λ_=>aO) (jv cE L)=sumI (bG L)-min cE (sumI (bG L))
 me:jz (pm m) (jn cE L)+jz (pm m) (jv cE L)=jz (pm m) L
 mz:∀k (hk:k<aA L),L[k].m=m->jz (pm m) (L.take k)=0
 n0:∀x∈L,0<=x.n
 gl:aA (jn cE L)<=aA L
 ll:aA (jv cE L)<=aA L
theorem a8Y {cE:Int} {L:List Lg}(m:Int)(h:jO cE L=0):aCO cE L m:=by
 obtain⟨Qg,kL,KP⟩:=Q3 h;have G:=F5 Qg;have nH:oT (bG L) (dN cE (bG L))=kV (· - ·) (bG L) (dN cE (bG L)):=by grind [oT,Vl]
 have hg:jn cE L=fB L (dN cE (bG L)):=by grind [jn]
 have hk:jv cE L=fB L (kV (· - ·) (bG L) (dN cE (bG L))):=by grind [jv]
 have hlen:aA (dN cE (bG L))=aA L:=by rw [G.len,qu]
 have p1:∀x∈dN cE (bG L),0<=x:=λx hx=>by obtain⟨i,hi,rfl⟩:=tD.1 hx;exact(G.bd i hi (by rw [<-G.len];exact hi)).1
 have p2:∀x∈kV (· - ·) (bG L) (dN cE (bG L)),0<=x:=λx hx=>by obtain⟨i,hi,rfl⟩:=tD.1 hx;rw [Ei] at hi;rw [List.getElem_zipWith];have:=G.bd i (by omega) (by omega);omega
 have s1:=YN aI1 L _ hlen p1 p2;have s2:=YN (aI2 m) L _ hlen p1 p2;have s3:=a7b L _ hlen p1;rw [G.sum] at s3;rw [<-hg,<-hk] at s1 s2;rw [<-hg] at s3;rw [L9 L] at s1;refine⟨by rw [hg];exact a7Y _ _,by rw [hk];exact a7Y _ _,s3,by omega,s2,λk hk e=>aI9 kL hk e,λx hx=> ?_,by grind [SL],by grind [SL]⟩;grind [tD,BW,Hi]
section
theorem aG3 {D:Dk} {a:Int} {y:Lg}(h:y∈dy D a):∃x∈D.ob,x.st=1/\x.az<0/\x.a=a/\hasB D.who x.m=aP/\y=x.claim:=by grind [dy,tM,pM]
theorem xj(a:Int):0<=kf a/\kf a<=288230376151711744:=by grind [kf]
theorem a2O {x:Ob}(h: -kf x.a<=x.az):x.claim.n= -x.az:=by have:=xj x.a;grind [Ob.claim,gA]
def ve(D:Dk)(a:Int):Int:=sumI (bG (dy D a))
theorem a7q(x:Int)(l:List Int):sumI (x::l)=x+sumI l:=rfl
theorem a3j {a:Int} {p:Ob->Bool}:∀(L:List Ob),(∀x∈L,-kf x.a<=x.az)->(∀x∈L,p x=aO->x.st=1/\x.az<0/\x.a=a)->0<=sumI (bG ((L.filter p).map Ob.claim))/\sumI (bG ((L.filter p).map Ob.claim))<=dW (qN a) L
 | [],_,_=>⟨dM 0,dM 0⟩
 |x::L,hb,hp=>by
  have ih:=a3j (a:=a) (p:=p) L (λy hy=>hb y (dx _ hy)) (λy hy=>hp y (dx _ hy));have e:dW (qN a) (x::L)=qN a x+dW (qN a) L:=by simp [dW]
  rw [e];by_cases h:p x=aO
  ·rw [List.filter_cons_of_pos h];grind [bG,a7q,a2O,qN]
  grind [qN]
theorem aE1 {L:List Lg} {a:Int}(hl:aA L<=1024)(h1:∀x∈L,1<=x.n/\x.a=a)(hp:L.Pairwise (λx y=>x.m<y.m))(hI:aL (sumI (bG L))):dF L=0:=by unfold dF;rw [ifN (by omega),ifN,(eH hI).2];grind [Hi,V8,vQ,Rz]
structure a8y(D:Dk)(a:Int):Prop where
 clm:dF (dy D a)=0
 bd:0<=ve D a/\ve D a<=kf a
 each:∀y∈dy D a,yR D.x y/\y.a=a/\hasB D.who y.m=aP
 up:(dy D a).Pairwise (λx y=>x.m<y.m)
 len:aA (dy D a)<=16
theorem aw.DZ {C:Int} {g:Nat} {D:Dk}(H:aw C g D)(a:Int):a8y D a:=by
 have l7:∀x∈D.ob,-kf x.a<=x.az:=λx hx=>(H.ob.each x hx).big.1
 have hs:0<=ve D a/\ve D a<=dW (qN a) D.ob:=a3j D.ob l7 (λx _ hp=>by grind [tM,pM]);have kL:=H.ob.cl a;have dH:=xj a;have Qi:∀y∈dy D a,yR D.x y/\y.a=a/\hasB D.who y.m=aP:=λy hy=>by obtain⟨x,hx,h1,h2,h3,h4,rfl⟩:=aG3 hy;have E:=H.ob.each x hx;exact⟨⟨E.m,E.a,by grind [a2O]⟩,h3,h4⟩
 have vz:(dy D a).Pairwise (λx y=>x.m<y.m):=by
  unfold dy;rw [BO];refine(aMU.1 (H.ob.ord.filter _)).imp ?_;rintro x y ⟨hx,hy,ho⟩;have hx2:=(jG.1 hx).2;have nM:=(jG.1 hy).2;simp only [tM,pM,ji,beq_iff_eq,decide_eq_true_eq,Sw] at hx2 nM;rcases ho (by grind [ew]) (by grind [ew]) with h|h
  ·exact h
  omega
 have hlen:aA (dy D a)<=16:=by have h:=Sk (L:=(dy D a).map (·.m)) (k:=aA D.x.ms) (lo:=0) (by grind) (λm hm=>by obtain⟨y,hy,rfl⟩:=di.1 hm;have:=(Qi y hy).1.1;omega);rw [iX] at h;have:=H.hs.ml;omega
 exact⟨aE1 (by omega) (λx hx=>⟨(Qi x hx).1.2.2,(Qi x hx).2.1⟩) vz (show aL (ve D a) by unfold aL;omega),⟨hs.1,by omega⟩,Qi,vz,hlen⟩
section
variable {C:Int} {g:Nat} {D:Dk}
theorem aw.a7T(H:aw C g D)(a:Int):jO (B D 1 0 a) (dy D a)=0:=by unfold jO;rw [ifN (by rw [(H.DZ a).clm];simp),ifN (by have:=(H.house a).1;show¬balA _ _ _ _ _ _<0;omega)]
theorem aw.short(H:aw C g D)(a:Int):jP D a=max (ve D a-B D 1 0 a) 0:=by have hb:=(H.DZ a).bd;have hm:=xj a;unfold jP Ab;rw [ifP (H.a7T a)];exact aJA (show 0<=ve D a by omega) (H.house a).1 (show aL (ve D a) by unfold aL;omega)
theorem aw.a7p(H:aw C g D)(a:Int):ie (dy D a)=ve D a:=by unfold ie;rw [ifP (H.DZ a).clm];rfl
theorem Xo {a b:Int}(ha:0<=a)(hb:0<=b)(h:aL a):pV a b=max (a-b) 0:=by grind [pV,aL]
theorem aw.beyond(H:aw C g D):yX D=max (B D 1 0 0-ve D 0) 0:=by have hb:=(H.DZ 0).bd;have hh:=H.house 0;have l7:=H.bF.big;unfold yX;rw [H.a7p 0];grind [Xo,aL]
end
def tu:List Fi->Int
 | []=>0
 |x::L=>x.q+tu L
def nD:List Fi->Int
 | []=>0
 |x::L=>x.c+nD L
theorem YG:∀(Bs:List Bd) (la ca:Int),(∀x∈Bs,1<=x.q/\1<=x.p)->0<=la->0<=ca->
 (∀f∈mn Bs la ca,f.b∈Bs/\1<=f.q/\1<=f.c)/\tu (mn Bs la ca)<=la/\nD (mn Bs la ca)<=ca/\aA (mn Bs la ca)<=aA Bs
 | [],la,ca,_,h1,h2=>⟨by simp [mn],by grind [mn,tu],by grind [mn,nD],by simp [mn]⟩
 |x::Bs,la,ca,hx,h1,h2=>by
  have hx1:=hx x (by simp);have hr:∀y∈Bs,1<=y.q/\1<=y.p:=λy hy=>hx y (dx _ hy)
  unfold mn;by_cases h0:la=0
  ·grind [tu,nD]
  rw [ifN h0];have hd:0<=ca/x.p:=Int.ediv_nonneg h2 (by omega);have rC:ca/x.p*x.p<=ca:=Int.ediv_mul_le ca (by omega);have ht:0<=takeN x la ca/\takeN x la ca<=la/\takeN x la ca<=ca/x.p:=by unfold takeN;omega
  by_cases h3:takeN x la ca=0
  ·rw [ifP h3];obtain⟨i1,i2,i3,i4⟩:=YG Bs la ca hr h1 h2;grind
  rw [ifN h3];have hmul:takeN x la ca*x.p<=ca:=kD (M3 ht.2.2 (by omega)) rC;have Qy:1<=takeN x la ca*x.p:=by have h5:1*1<=takeN x la ca*x.p:=Int.mul_le_mul (by omega) hx1.2 (by omega) (by omega);omega
  obtain⟨i1,i2,i3,i4⟩:=YG Bs (la-takeN x la ca) (ca-takeN x la ca*x.p) hr (by omega) (by omega);grind [tu,nD]
theorem MW:∀ {L:List Fi},(∀f∈L,1<=f.c)->0<=nD L
 | [],_=>dM 0
 |x::L,h=>by have:=h x (by simp);have:=MW (L:=L) (λy hy=>h y (dx _ hy));grind [nD]
theorem S8:∀ {L:List Fi},(∀f∈L,1<=f.q)->0<=tu L
 | [],_=>dM 0
 |x::L,h=>by have:=h x (by simp);have:=S8 (L:=L) (λy hy=>h y (dx _ hy));grind [tu]
theorem wrap64_in {n:Int}(h:aL n):fV n=n:=by unfold fV;unfold aL at h;omega
theorem a2Y:∀(L:List Fi) (n:Int),(∀f∈L,1<=f.c)->0<=n->n+nD L<=9223372036854775807->L.foldl (λn x=>fV (n+x.c)) n=n+nD L
 | [],n,_,_,_=>by simp [nD]
 |x::L,n,h,h0,hb=>by
  have h1:=h x (by simp);have hr:∀f∈L,1<=f.c:=λy hy=>h y (dx _ hy)
  have hn:=MW hr;simp only [nD] at hb;rw [D3,wrap64_in (by unfold aL;omega),a2Y L (n+x.c) hr (by omega) (by omega)];grind [nD]
theorem aEX {L:List Fi}(h:∀f∈L,1<=f.c)(hb:nD L<=9223372036854775807):rj L=nD L:=by grind [rj,a2Y]
theorem aLj {M A:Nat} {l:List Int} {h:List Hr} {es:List En}(hlen:aA l=A*(6+3*M))(hc:y9 M A l es)(hf:∀k m a,tU k=aP->fE es (k,m,a)<0->0<=balA M A l k m a+fE es (k,m,a)/\iR h k m a<=balA M A l k m a+fE es (k,m,a)):lf M A l h es=0:=by
 have hb:nZ M A l es=0:=by unfold nZ;rw [ifN (by rw [a2J hc];simp),ifN];intro ha;obtain⟨c,hc1,hc2⟩:=kE.1 ha;obtain⟨⟨k,m,a⟩,hq,rfl⟩:=di.1 hc1;grind [rr,kG,ku]
 unfold lf;rw [ifN (by rw [hb];simp),ifN];intro ha;obtain⟨x,hx,hx2⟩:=kE.1 ha;unfold sN at hx2;simp only [ji,decide_eq_true_eq,Sw] at hx2;obtain⟨⟨a1,a2⟩,a3⟩:=hx2;obtain⟨i,hi⟩:=hc.Nw x hx;have e:=Kr hlen hc (q:=x.spot) hi;have e2:ku M A l x.spot=balA M A l x.k x.m x.a:=rfl;have e3:fE es x.spot=fE es (x.k,x.m,x.a):=rfl;grind
theorem a6g {M A:Nat} {l:List Int} {es:List En}(hlen:aA l=A*(6+3*M))(hc:y9 M A l es)(k m a:Int):balA M A (kN M A l es) k m a=balA M A l k m a+fE es (k,m,a):=by
 cases hp:plcA M A k m a with
 |some z=>exact Kr hlen hc (q:=(k,m,a)) hp
 |none=>
  rw [Hj hp,Hj hp,Ya]
  ·rfl
  intro hq;obtain⟨n,hn⟩:=hc.spot _ hq;have:plcA M A k m a=aC n:=hn;grind
theorem aLA(s:Int)(x:Fi)(k m a:Int):fE (fS s x) (k,m,a)=(if k=7/\m=x.b.m/\a=s then-x.q else 0)+(if k=1/\m=0/\a=s then x.q else 0)+(if k=1/\m=0/\a=0 then-x.c else 0)+(if k=7/\m=x.b.m/\a=0 then x.c else 0):=by have e:fS s x=((([]++ [⟨7,x.b.m,s,-x.q⟩])++ [⟨1,0,s,x.q⟩])++ [⟨1,0,0,-x.c⟩])++ [⟨7,x.b.m,0,x.c⟩]:=rfl;rw [e,JB,JB,JB,JB];have:fE [] (k,m,a)=0:=rfl;grind [En.spot,PS]
theorem aDO(s:Int)(x:Fi)(i:Nat):sumI (gy (fS s x) i)=0:=by grind [gy,fS,sumI]
theorem aw.fill {C:Int} {g:Nat} {D:Dk}(H:aw C g D) {s:Int} {x:Fi}(hs:1<=s/\s<=(aA D.x.ss:Int))(hm:1<=x.b.m/\x.b.m<=(aA D.x.ms:Int))(hq:1<=x.q/\x.q<=274877906944)(hc:1<=x.c)(h2:x.c<=B D 1 0 0)(hC:C+2*x.q<=4611686018427387904+1125899906842624):
 aw (C+2*x.q) (g+2) (I7 s D x)/\Sm D (I7 s D x)/\∀k m b,B (I7 s D x) k m b=B D k m b+((if k=7/\m=x.b.m/\b=s then-x.q else 0)+(if k=1/\m=0/\b=s then x.q else 0)+(if k=1/\m=0/\b=0 then-x.c else 0)+(if k=7/\m=x.b.m/\b=0 then x.c else 0)):=by
 have AD:=H.house 0;have WU:=H.house s;have ho0:=H.own x.b.m 0;have Wy:=H.own x.b.m s;have ud:x.c<=balA (aA D.x.ms) (aA D.x.ss+1) D.l 1 0 0:=h2;have ju:=aLA s x;obtain⟨i1,p1⟩:=CD (M:=aA D.x.ms) (A:=aA D.x.ss+1) (k:=7) (.inl rfl) hm (a:=s) (by omega) (by omega);obtain⟨i2,p2⟩:=L3 (M:=aA D.x.ms) (A:=aA D.x.ss+1) (a:=s) (by omega) (by omega);obtain⟨i3,p3⟩:=L3 (M:=aA D.x.ms) (A:=aA D.x.ss+1) (a:=0) (by omega) (by omega);obtain⟨i4,p4⟩:=CD (M:=aA D.x.ms) (A:=aA D.x.ss+1) (k:=7) (.inl rfl) hm (a:=0) (by omega) (by omega);have v1:fE (fS s x) (7,x.b.m,s)= -x.q:=by rw [ju,ifP ⟨rfl,rfl,rfl⟩,ifN (by omega),ifN (by omega),ifN (by omega)];omega
 have v2:fE (fS s x) (1,0,s)=x.q:=by rw [ju,ifN (by omega),ifP ⟨rfl,rfl,rfl⟩,ifN (by omega),ifN (by omega)];omega
 have v3:fE (fS s x) (1,0,0)= -x.c:=by rw [ju,ifN (by omega),ifN (by omega),ifP ⟨rfl,rfl,rfl⟩,ifN (by omega)];omega
 have v4:fE (fS s x) (7,x.b.m,0)=x.c:=by rw [ju,ifN (by omega),ifN (by omega),ifN (by omega),ifP ⟨rfl,rfl,rfl⟩];omega
 have nj:y9 (aA D.x.ms) (aA D.x.ss+1) D.l (fS s x):=by
  refine⟨by simp [fS], ?_,λi _=>aDO s x i, ?_⟩
  ·intro y hy;simp only [fS,fG,List.not_mem_nil,or_false] at hy;rcases hy with rfl|rfl|rfl|rfl
   ·exact⟨i1,p1⟩
   ·exact⟨i2,p2⟩
   ·exact⟨i3,p3⟩
   exact⟨i4,p4⟩
  rintro⟨k,m,a⟩ lA;obtain⟨y,hy,e⟩:=Kq.1 lA;have e2:ku (aA D.x.ms) (aA D.x.ss+1) D.l (k,m,a)=balA (aA D.x.ms) (aA D.x.ss+1) D.l k m a:=rfl;rw [e2];simp only [fS,fG,List.not_mem_nil,or_false] at hy;rcases hy with rfl|rfl|rfl|rfl
  ·simp only [En.spot,PS] at e;obtain⟨rfl,rfl,rfl⟩:=e;rw [v1];unfold aL;omega
  ·simp only [En.spot,PS] at e;obtain⟨rfl,rfl,rfl⟩:=e;rw [v2];unfold aL;omega
  ·simp only [En.spot,PS] at e;obtain⟨rfl,rfl,rfl⟩:=e;rw [v3];unfold aL;omega
  simp only [En.spot,PS] at e;obtain⟨rfl,rfl,rfl⟩:=e;rw [v4];unfold aL;omega
 have hv:lf (aA D.x.ms) (aA D.x.ss+1) D.l D.h (fS s x)=0:=aLj H.bF.ok.len nj (by
  intro k m a Dg KZ;rw [ju] at KZ ⊢;have FL:k≠7:=by rintro rfl;cases Dg
  rw [ifN (by omega),ifN (by omega:¬(k=7/\m=x.b.m/\a=0))] at KZ ⊢;have hk:k=1/\m=0/\a=0:=by
   by_cases h:k=1/\m=0/\a=0
   ·exact h
   rw [ifN h] at KZ;split at KZ<;>omega
  obtain⟨rfl,rfl,rfl⟩:=hk;rw [WL H.h8 (by decide),ifN (by omega),ifP ⟨rfl,rfl,rfl⟩];omega)
 have hd:=a6g H.bF.ok.len nj;have dU:nT (aA D.x.ms) (aA D.x.ss+1) (kN (aA D.x.ms) (aA D.x.ss+1) D.l (fS s x)):=nT.post H.bF.ok (by have:=H.hs.sl;omega) hv;have el:eX D (fS s x)=kN (aA D.x.ms) (aA D.x.ss+1) D.l (fS s x):=by unfold eX;rw [ifP hv]
 have Bg:∀k m b,balA (aA D.x.ms) (aA D.x.ss+1) (eX D (fS s x)) k m b=balA (aA D.x.ms) (aA D.x.ss+1) D.l k m b+((if k=7/\m=x.b.m/\b=s then-x.q else 0)+(if k=1/\m=0/\b=s then x.q else 0)+(if k=1/\m=0/\b=0 then-x.c else 0)+(if k=7/\m=x.b.m/\b=0 then x.c else 0)):=by intro k m b;rw [el,hd,ju]
 rw [<-el] at dU;have k7:∀m b,balA (aA D.x.ms) (aA D.x.ss+1) (eX D (fS s x)) 7 m b=balA (aA D.x.ms) (aA D.x.ss+1) D.l 7 m b+((if m=x.b.m/\b=s then-x.q else 0)+(if m=x.b.m/\b=0 then x.c else 0)):=by intro m b;rw [Bg];simp
 have k8:∀m b,balA (aA D.x.ms) (aA D.x.ss+1) (eX D (fS s x)) 8 m b=balA (aA D.x.ms) (aA D.x.ss+1) D.l 8 m b:=by intro m b;rw [Bg];simp
 have k9:∀m b,balA (aA D.x.ms) (aA D.x.ss+1) (eX D (fS s x)) 9 m b=balA (aA D.x.ms) (aA D.x.ss+1) D.l 9 m b:=by intro m b;rw [Bg];simp
 have k3:∀b,balA (aA D.x.ms) (aA D.x.ss+1) (eX D (fS s x)) 3 0 b=balA (aA D.x.ms) (aA D.x.ss+1) D.l 3 0 b:=by intro b;rw [Bg];simp
 have k4:∀b,balA (aA D.x.ms) (aA D.x.ss+1) (eX D (fS s x)) 4 0 b=balA (aA D.x.ms) (aA D.x.ss+1) D.l 4 0 b:=by intro b;rw [Bg];simp
 have k2:∀b,balA (aA D.x.ms) (aA D.x.ss+1) (eX D (fS s x)) 2 0 b=balA (aA D.x.ms) (aA D.x.ss+1) D.l 2 0 b:=by intro b;rw [Bg];simp
 have k1:∀b,balA (aA D.x.ms) (aA D.x.ss+1) (eX D (fS s x)) 1 0 b=balA (aA D.x.ms) (aA D.x.ss+1) D.l 1 0 b+((if b=s then x.q else 0)+(if b=0 then-x.c else 0)):=by intro b;rw [Bg];simp
 have oO:∀b,dt (D.log++ [⟨12,x.b.m,s,x.q,x.b.s⟩]) b=balA (aA D.x.ms) (aA D.x.ss+1) D.l 1 0 b+if s=b then x.q else 0:=by intro b;rw [Bb,Bc,H.fl b,show kW ⟨12,x.b.m,s,x.q,x.b.s⟩=x.q from rfl]
 have hl2:∀b,dt ((D.log++ [⟨12,x.b.m,s,x.q,x.b.s⟩])++ [⟨19,x.b.m,0,x.c,x.b.s⟩]) b=balA (aA D.x.ms) (aA D.x.ss+1) (eX D (fS s x)) 1 0 b:=by
  intro b;rw [Bb,Bc,oO,k1,show kW ⟨19,x.b.m,0,x.c,x.b.s⟩= -x.c from rfl];repeat' split
  all_goals (simp only at*;omega)
 have eg:D.log++ [Ev.mk 12 x.b.m s x.q x.b.s,Ev.mk 19 x.b.m 0 x.c x.b.s]=(D.log++ [Ev.mk 12 x.b.m s x.q x.b.s])++ [Ev.mk 19 x.b.m 0 x.c x.b.s]:=by simp
 refine⟨⟨H.hs,⟨dU, ?_, ?_, ?_, ?_, ?_, ?_, ?_,hC,H.bF.F0⟩,H.h8,H.hl, ?_, ?_, ?_,H.who,H.ob,H.bx,H.bl,H.st,H.aj⟩,⟨rfl,rfl,rfl,rfl,rfl,rfl,rfl,rfl,_,rfl,by simp⟩,Bg⟩
 ·intro m b;exact kD (rX (k8 m b)) (H.bF.tP m b)
 ·intro m b;exact kD (rX (k9 m b)) (H.bF.zu m b)
 ·intro b;exact kD (rX (k3 b)) (H.bF.AU b)
 ·intro b;exact kD (rX (k4 b)) (H.bF.cap b)
 ·intro m b;show _<=balA (aA D.x.ms) (aA D.x.ss+1) (eX D (fS s x)) 7 m b+balA (aA D.x.ms) (aA D.x.ss+1) (eX D (fS s x)) 8 m b-balA (aA D.x.ms) (aA D.x.ss+1) (eX D (fS s x)) 1 0 b;rw [k7,k8,k1];have:=H.bF.lo m b;repeat' split
  all_goals omega
 ·intro m b;show balA (aA D.x.ms) (aA D.x.ss+1) (eX D (fS s x)) 7 m b+balA (aA D.x.ms) (aA D.x.ss+1) (eX D (fS s x)) 8 m b+balA (aA D.x.ms) (aA D.x.ss+1) (eX D (fS s x)) 1 0 b<=_;rw [k7,k8,k1];have:=H.bF.hi m b;repeat' split
  all_goals omega
 ·intro b;show balA (aA D.x.ms) (aA D.x.ss+1) (eX D (fS s x)) 2 0 b+balA (aA D.x.ms) (aA D.x.ss+1) (eX D (fS s x)) 1 0 b<=_;rw [k2,k1];have:=H.bF.es b;repeat' split
  all_goals omega
 ·intro b;show dt (D.log++ [Ev.mk 12 x.b.m s x.q x.b.s,Ev.mk 19 x.b.m 0 x.c x.b.s]) b=_;rw [eg];exact hl2 b
 ·show M7 _ (D.log++ [Ev.mk 12 x.b.m s x.q x.b.s,Ev.mk 19 x.b.m 0 x.c x.b.s]);rw [eg];refine(H.lg.snoc ⟨by show (0:Int)<=s;omega,hs.2,.inl hq.1⟩ (λb=> ?_)).snoc ⟨by show (0:Int)<=0;omega,by show (0:Int)<=_;omega,.inl hc⟩ (λb=> ?_)
  ·rw [oO];have:=H.house b;split<;>omega
  rw [hl2];refine⟨dU.nn rfl 0 b, ?_⟩;rw [k1];have:=H.house b;repeat' split
  all_goals omega
 show aA (D.log++ [Ev.mk 12 x.b.m s x.q x.b.s,Ev.mk 19 x.b.m 0 x.c x.b.s])<=g+2;rw [cN];have:=H.gl;simp;omega
end
theorem a5o:∀ {L:List Fi} {f:Fi},(∀f∈L,1<=f.q)->f∈L->f.q<=tu L
 |x::L,f,h,hf=>by
  have h1:=h x (by simp);have hr:∀y∈L,1<=y.q:=λy hy=>h y (dx _ hy)
  have hn:=S8 hr;simp only [tu];rcases fG.1 hf with rfl|hf
  ·omega
  have:=a5o hr hf;omega
theorem a5j:∀ {L:List Fi} {f:Fi},(∀f∈L,1<=f.c)->f∈L->f.c<=nD L
 |x::L,f,h,hf=>by
  have h1:=h x (by simp);have hr:∀y∈L,1<=y.c:=λy hy=>h y (dx _ hy)
  have hn:=MW hr;simp only [nD];rcases fG.1 hf with rfl|hf
  ·omega
  have:=a5j hr hf;omega
theorem aw.a3N {s:Int}:∀(L:List Fi) {C:Int} {g:Nat} {D:Dk},aw C g D->(1<=s/\s<=(aA D.x.ss:Int))->(∀f∈L,(1<=f.b.m/\f.b.m<=(aA D.x.ms:Int))/\(1<=f.q/\f.q<=274877906944)/\1<=f.c)->nD L<=B D 1 0 0->C+2*tu L<=4611686018427387904+1125899906842624->
 (∀k,k<=aA L->aw (C+2*tu L) (g+2*k) (tS s D (L.take k)))/\Sm D (tS s D L)/\(∀k m b,k≠1->k≠7->B (tS s D L) k m b=B D k m b)/\B (tS s D L) 1 0 0=B D 1 0 0-nD L
 | [],C,g,D,H,_,_,_,hC=>by grind [tu,Sm.refl,nD,tS]
 |x::L,C,g,D,H,hs,hx,hc,hC=>by
  have h1:=hx x (by simp);have hr:∀f∈L,(1<=f.b.m/\f.b.m<=(aA D.x.ms:Int))/\(1<=f.q/\f.q<=274877906944)/\1<=f.c:=λy hy=>hx y (dx _ hy)
  have hq:=S8 (L:=L) (λf hf=>(hr f hf).2.1.1);have hcn:=MW (L:=L) (λf hf=>(hr f hf).2.2);simp only [tu] at hC ⊢;simp only [nD] at hc ⊢;obtain⟨G,S,K⟩:=H.fill hs h1.1 h1.2.1 h1.2.2 (by omega) (by omega);have h0:B (I7 s D x) 1 0 0=B D 1 0 0-x.c:=by grind
  obtain⟨G2,S2,K2,H2⟩:=aw.a3N L G hs hr (by omega) (by omega);refine⟨?_,S.trans S2, ?_, ?_⟩
  ·intro k hk;cases k with
   |zero=>exact H.wide (by omega) (by omega) (by omega)
   |succ k=>
    have:=G2 k (by simpa using hk);rw [show g+2*(k+1)=g+2+2*k by omega,show C+2*(x.q+tu L)=C+2*x.q+2*tu L by omega];exact this
  ·intro k m b e1 e7;refine(K2 k m b e1 e7).trans ((K k m b).trans ?_);grind
  refine H2.trans ?_;rw [h0];omega
theorem aDG {D:Dk} {s:Int} {Bs:List Bd}(h:GA D s Bs):aA Bs<=aA D.bx/\∀x∈Bs,x∈D.bx:=by
 obtain⟨is,ho,rfl⟩:=h;have hl:aA is=aA (qW D.bx s):=by rw [ho.len,iX]
 have hf:aA (qW D.bx s)<=aA D.bx:=qo _ _;refine⟨by grind,λx hx=> ?_⟩;obtain⟨i,hi,rfl⟩:=di.1 hx;have hlt:=ho.lt i hi;rw [iX] at hlt;rw [tC,iG hlt];exact(jG.1 (cK hlt)).1
def jf:Int:=140737488355328+549755813888
theorem aw.a1x {C:Int} {g:Nat} {D:Dk}(H:aw C g D)(hh:D.h= []) {s:Int}(hs:1<=s/\s<=(aA D.x.ss:Int)) {Bs:List Bd}(hB:GA D s Bs)(hC:C+jf<=4611686018427387904+1125899906842624)(hg:g+114<=90000):
 Z0 D s Bs/\aw (C+jf) (g+114) (K7 D s Bs)/\Sm D (K7 D s Bs):=by
 obtain⟨hBl,hBm⟩:=aDG hB;have hbl:=H.bl;have Mo:∀x∈Bs,Yx D.x x:=λx hx=>H.bx x (hBm x hx)
 have hgd:=H.DZ s;have hg0:=(H.DZ 0).bd;have sG:=H.short s;have WU:=H.house s;have AD:=H.house 0;have kY:=H.beyond;have hrm:=H.room;have dH:kf s=274877906944:=by grind [kf]
 have l7:=H.bF.big;have hgb:=hgd.bd;have hB0:B D 1 0 s=balA (aA D.x.ms) (aA D.x.ss+1) D.l 1 0 s:=rfl;have Vr:B D 1 0 0=balA (aA D.x.ms) (aA D.x.ss+1) D.l 1 0 0:=rfl;have rA:yY D=yX D+mJ D:=rfl;have a4V:0<=jP D s/\jP D s<=274877906944:=by rw [sG];omega
 have a4K:0<=yY D/\yY D<=C+37383395344384:=by rw [rA,kY];omega
 obtain⟨R1,R2,R3,R4⟩:=YG Bs (jP D s) (yY D) (λx hx=>⟨(Mo x hx).2.2.1.1,(Mo x hx).2.2.2.1.1⟩) a4V.1 a4K.1;have Jy:∀f∈nC D s Bs,f.b∈Bs/\1<=f.q/\1<=f.c:=R1;have R2':tu (nC D s Bs)<=jP D s:=R2;have R3':nD (nC D s Bs)<=yY D:=R3;have R4':aA (nC D s Bs)<=aA Bs:=R4;have hcs:rj (nC D s Bs)=nD (nC D s Bs):=aEX (λf hf=>(Jy f hf).2.2) (by omega);have hcn:=MW (L:=nC D s Bs) (λf hf=>(Jy f hf).2.2);have hqn:=S8 (L:=nC D s Bs) (λf hf=>(Jy f hf).2.1);have tY:aL (pK D s Bs):=by grind [pK,aL]
 have W:=H.drawn hh tY (by grind [jf]);have Mp:=W.steps _ (aZ _);rw [cU] at Mp;have KN:aw (C+140737488355328) (g+50) (mB D (pK D s Bs)):=Mp.wide (dM _) (by grind [jf]) (by have:=W.len;omega);have hx1:(mB D (pK D s Bs)).x=D.x:=W.sm.x;have aGf:nD (nC D s Bs)<=B (mB D (pK D s Bs)) 1 0 0:=by have:=W.house;grind [pK]
 have hfi:∀f∈nC D s Bs,(1<=f.b.m/\f.b.m<=((mB D (pK D s Bs)).x.ms.length:Int))/\(1<=f.q/\f.q<=274877906944)/\1<=f.c:=λf hf=>by obtain⟨a1,a2,a3⟩:=Jy f hf;have hq:=a5o (λf hf=>(Jy f hf).2.1) hf;rw [hx1];exact⟨(Mo f.b a1).1,⟨a2,by omega⟩,a3⟩
 obtain⟨G,S,K,HH⟩:=aw.a3N (nC D s Bs) KN (by rw [hx1];exact hs) hfi aGf (by grind [jf]);have vr:=G _ (aZ _);rw [cU] at vr;have Qn:aw (C+jf) (g+114) (K7 D s Bs):=vr.wide (by unfold jf;omega) hC (by omega);refine⟨⟨?_, ?_, ?_,tY, ?_,W.dI,by have:=W.len;omega, ?_, ?_,by omega⟩,Qn,W.sm.trans S⟩
 ·grind [aL]
 ·unfold uW;rw [ifN (by omega),ifN];rintro (h|h|h)
  ·omega
  ·omega
  obtain⟨x,hx,hb⟩:=kE.1 h;have:=Mo x hx;unfold rh at hb;rw [decide_eq_false (by have:=this.2.2.1;omega),decide_eq_false (by have:=this.2.2.2.1;omega)] at hb;cases hb
 ·intro x hx;have:=Mo x hx;have h1:=this.2.2.1;have h2:=this.2.2.2.1;unfold aL;omega
 ·intro k hk;exact(W.steps k hk).ok (by have:=W.len;omega)
 ·intro k hk;exact(G k hk).ok (by omega)
 intro f hf;have h1:=hfi f hf;rw [hx1] at h1;have hm:=H.hs.ml;have hc:=a5j (λf hf=>(Jy f hf).2.2) hf;grind [aL]
theorem aw.aDL {C:Int} {g:Nat} {D:Dk}(H:aw C g D)(hh:D.h= []) {s:Int}(hs:1<=s/\s<=(aA D.x.ss:Int))(hC:C+jf<=4611686018427387904+1125899906842624)(hg:g+114<=90000):Sy D s:=by
 have ir:=H.hs.ml;have jt:=H.hs.sl;have WU:=H.house s;have AD:=H.house 0;have l7:=H.bF.big;refine⟨H.ok (by omega),by unfold aL;omega,by unfold aL;omega,by unfold aL;omega,by omega,λm hm=> ?_,λd hd=> ?_,λ_ Bs hB=>(H.a1x hh hs hB hC hg).1⟩
 ·have:=H.who.pS m hm;unfold aL;omega
 exact(H.bx d hd).2.2.2.2
theorem aw.aDM {C:Int} {g:Nat} {D D':Dk}(H:aw C g D)(hh:D.h= []) {s:Int}(hs:1<=s/\s<=(aA D.x.ss:Int))(hC:C+jf<=4611686018427387904+1125899906842624)(hg:g+114<=90000)(hR:JG D s D'):aw (C+jf) (g+114) D'/\Sm D D':=by
 rcases hR with⟨_,rfl⟩|⟨_,Bs,hB,rfl⟩
 ·exact⟨H.wide (by unfold jf;omega) hC (by omega),Sm.refl _⟩
 exact(H.a1x hh hs hB hC hg).2
theorem aw.Px {C:Int} {g:Nat} {D:Dk}(H:aw C g D)(hh:D.h= [])(hC:C+8*jf<=4611686018427387904+1125899906842624)(hg:g+114*8<=90000) {n:Nat} {E:Dk}(hR:wP D n E):n<=aA D.x.ss->aw (C+(n:Int)*jf) (g+114*n) E/\Sm D E:=by
 have jt:=H.hs.sl;induction hR with
 |zero=>grind [Sm.refl]
 |succ hB hR ih=>
  rename_i n E E';intro hn;obtain⟨G,S⟩:=ih (by omega);have hc1:C+(n:Int)*jf+jf<=4611686018427387904+1125899906842624:=by grind [jf]
  obtain⟨G',S'⟩:=G.aDM (S.h.trans hh) (s:=(n:Int)+1) (by rw [S.x];omega) hc1 (by omega) hR;refine⟨?_,S.trans S'⟩;grind
theorem YM {z:Lg}:∀ {L:List Lg} {xs:List Int},z∈fB L xs->0<z.n/\∃y∈L,z.m=y.m/\z.a=y.a
 | [],xs,h=>by simp [fB] at h
 |y::L,[],h=>by simp [fB] at h
 |y::L,n::xs,h=>by
  rw [S5] at h;rcases gN.1 h with h|h
  ·grind
  obtain⟨h1,y',hy',h2⟩:=YM h;grind
theorem aFw {c:Int} {L:List Lg} {z:Lg}(h:z∈jn c L):0<z.n/\∃y∈L,z.m=y.m/\z.a=y.a:=by
 unfold jn at h;split at h
 ·exact YM h
 cases h
theorem aHZ {c:Int} {L:List Lg} {z:Lg}(h:z∈jv c L):0<z.n/\∃y∈L,z.m=y.m/\z.a=y.a:=by
 unfold jv at h;split at h
 ·exact YM h
 cases h
theorem a1n {a a0:Int}:∀ {L:List Lg},(∀x∈L,x.a=a0)->oG a L=if a=a0 then sumI (bG L) else 0
 | [],_=>by split<;>rfl
 |x::L,h=>by have h1:=h x (by simp);have ih:=a1n (a:=a) (a0:=a0) (L:=L) (λy hy=>h y (dx _ hy));grind [oG,sumI,bG]
theorem a1h:∀ {L:List Lg},(∀x∈L,1<=x.n)->0<=sumI (bG L)
 | [],_=>dM 0
 |x::L,h=>by have h1:=h x (by simp);have:=a1h (L:=L) (λy hy=>h y (dx _ hy));grind [sumI,bG]
theorem a5i:∀ {L:List Lg} {z:Lg},(∀x∈L,1<=x.n)->z∈L->z.n<=sumI (bG L)
 |x::L,z,h,hz=>by
  have h1:=h x (by simp);have hr:∀y∈L,1<=y.n:=λy hy=>h y (dx _ hy)
  have hn:=a1h hr;have e:sumI (bG (x::L))=x.n+sumI (bG L):=rfl;rcases fG.1 hz with rfl|hz
  ·omega
  have:=a5i hr hz;omega
structure Split(c:Int)(L:List Lg)(a0:Int):Prop where
 g:∀z∈jn c L,1<=z.n/\z.a=a0/\∃y∈L,z.m=y.m
 k:∀z∈jv c L,1<=z.n/\z.a=a0/\∃y∈L,z.m=y.m
 sum:∀a,oG a (jn c L)=if a=a0 then min c (sumI (bG L)) else 0
 gl:aA (jn c L)<=aA L
 kl:aA (jv c L)<=aA L
 em:jv c L= []↔sumI (bG L)<=c
 kn:∀z∈jv c L,z.n<=sumI (bG L)
theorem a7j {c:Int} {L:List Lg} {a0:Int}(h:jO c L=0)(ha:∀y∈L,y.a=a0):Split c L a0:=by
 have W:=a8Y 0 h;have P:=aJL 0 h;have hg:∀z∈jn c L,1<=z.n/\z.a=a0/\∃y∈L,z.m=y.m:=λz hz=>by obtain⟨h1,y,hy,e1,e2⟩:=aFw hz;grind
 have hk:∀z∈jv c L,1<=z.n/\z.a=a0/\∃y∈L,z.m=y.m:=λz hz=>by grind [aHZ]
 have hS:0<=sumI (bG L):=by
  have:=YW (λ_=>aO) L W.n0
  rwa [L9] at this
 refine⟨hg,hk,λa=> ?_,W.gl,W.ll,P.em,λz hz=> ?_⟩
 rotate_left
 ·have h1:=a5i (λx hx=>(hk x hx).1) hz;have h2:=W.tl;rw [L9] at h2;have:=(Q3 h).2.2;omega
 rw [a1n (λx hx=>(hg x hx).2.1),<-L9,W.tg]
theorem aGG {C:Int} {g:Nat} {D:Dk}(H:aw C g D) {s:Int}(hs:1<=s/\s<=(aA D.x.ss:Int))(hg:g+32<=90000):
 P9 D s/\aw C (g+32) (FB D s)/\Sm D (FB D s)/\(∀k m b,k≠1->k≠7->B (FB D s) k m b=B D k m b)/\(∀y∈oM D s,yR D.x y/\y.a=s/\aL y.n)/\aA (oM D s)<=16/\(∀y∈ja D s,1<=y.n)/\aA (ja D s)<=16:=by
 have G:=H.DZ s;have P:=a7j (H.a7T s) (λy hy=>(G.each y hy).2.1);have ir:=H.hs.ml;have jt:=H.hs.sl;have l7:=H.bF.big;have WU:=H.house s;have F8:∀z∈ja D s,yR D.x z/\z.a=s:=λz hz=>by obtain⟨h1,h2,y,hy,e⟩:=P.g z hz;have:=(G.each y hy).1;exact⟨⟨by rw [e];exact this.1,by rw [h2];omega,h1⟩,h2⟩
 have KO:∀z∈oM D s,yR D.x z/\z.a=s/\aL z.n:=λz hz=>by obtain⟨h1,h2,y,hy,e⟩:=P.k z hz;have:=(G.each y hy).1;have hn:z.n<=ve D s:=P.kn z hz;have hb:=G.bd;have hm:=xj s;exact⟨⟨by rw [e];exact this.1,by rw [h2];omega,h1⟩,h2,by unfold aL;omega⟩
 have jr:aA (ja D s)<=16:=bz P.gl G.len;have eK:aA (oM D s)<=16:=bz P.kl G.len;have ju:∀a,oG a (ja D s)<=B D 1 0 a:=λa=>by
  have e:oG a (ja D s)=if a=s then min (B D 1 0 s) (ve D s) else 0:=P.sum a
  rw [e];split
  ·grind
  exact(H.house a).1
 obtain⟨G1,S1,K1,_⟩:=aw.gives (ja D s) H (λx hx=>(F8 x hx).1) ju;have vr:=G1 _ (aZ _);rw [cU] at vr;have N7:aw C (g+16) (j5 D (ja D s)):=vr.wide (dM _) l7 (by omega);have hE:=aw.QE (kd:=14) (.inr (.inl rfl)) (oM D s) N7 (λx hx=>by rw [S1.x];exact⟨(KO x hx).1.2.1,.inl (KO x hx).1.2.2⟩);refine⟨⟨by unfold aL;omega,λk hk=>(G1 k hk).ok (by omega),λx hx=> ?_,by omega,by have:=N7.gl;omega,by omega⟩,hE.wide (dM _) l7 (by omega),S1.trans (a3D _ (by decide) _), ?_,KO,eK,λy hy=>(F8 y hy).1.2.2,jr⟩
 ·have h:=(F8 x hx).1;have oP:x.n<=B D 1 0 s:=by
   have e:oG s (ja D s)=min (B D 1 0 s) (ve D s):=by
    have:=P.sum s
    rwa [ifP rfl] at this
   have:∀ {L:List Lg},(∀y∈L,1<=y.n/\y.a=s)->x∈L->x.n<=oG s L:=by
    intro L;induction L with
    |nil=>intro _ h;cases h
    |cons y L ih=>
     intro hh hx;have h0:=Pt (a:=s) (L:=L) (λz hz=>(hh z (dx _ hz)).1);have h1:=hh y (by simp);simp only [oG];rw [ifP h1.2];rcases fG.1 hx with rfl|hx
     ·omega
     have:=ih (λz hz=>hh z (dx _ hz)) hx;omega
   have:=this (λy hy=>⟨(F8 y hy).1.2.2,(F8 y hy).2⟩) hx;omega
  have h1:=h.1;have h2:=h.2.1;have h3:=h.2.2;grind [aL]
 intro k m b e1 e7;exact K1 k m b e1 e7
end Go.Proofs.YtdokipdchlcmeaaGreat
