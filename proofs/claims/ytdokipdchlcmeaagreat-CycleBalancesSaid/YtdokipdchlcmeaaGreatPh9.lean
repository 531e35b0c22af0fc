/-
  Several texts in one, for one claim (printed by pack.py).
-/
import Derived.Test.YtdokipdchlcmeaaGreatPh8
set_option linter.all false
set_option maxRecDepth 100000
set_option maxHeartbeats 12800000
open And renaming intro→kX
open Array renaming getElem?_eq_some_iff→fX,replicate→lH
open Bool renaming true→aO,false→aP,and_eq_true→je,not_eq_true'→Sa
open Go renaming World→aJ,Value→aN,Calls→aQ,Addr→aj,cell_of_row→bH,maxLen→bM,TypeId→bY,heap_alloc_new→cO,info_parts→dJ,wpList_append_own→iZ
open Go.Calls renaming mono→tz
open Go.Ending renaming returned→aT
open Go.Instr renaming makeSlice→Ox
open Go.IntKind renaming i64→aF
open Go.IntWalk renaming i64_in→sj
open Go.Obj renaming cells→aK
open Go.Proofs renaming intOf→af
open Go.Proofs.Tryz renaming prog→aM,underlying39→tE,func29→aB0,ntmps29→aBl
open Go.RowKit renaming Below→aY,wrap64→fW
open Go.RowKit.Below renaming refl→aX,size→gV,trans→jy,heap_setCell→nK
open Go.Value renaming int→aG,slice→aH,tuple→bB,pointer→bF,bool→bJ,agg→bQ,ownBlock→dy
open Go.World renaming ownsRow_nil→fh,cell?_of_block→gu,frozen?→iK
open Int renaming le_refl→dM,le_trans→jz,le_of_eq→rU,mul_le_mul_of_nonneg_right→Lb
open List renaming length→aA,getElem_mem→cH,length_append→cN,take_length→cT,range→dR,map_append→dZ,mem_map→df,mem_cons_of_mem→dh,mem_cons→fE,take_succ_eq_append_getElem→fF,mem_append→gL,replicate→gR,getElem?_eq_getElem→iE,length_map→iV,mem_filter→jD,any_eq_true→kA,zipWith→kR,pairwise_cons→kf,eq_nil_of_length_eq_zero→nO,mem_cons_self→pE,length_filter_le→qg,getD_eq_getElem?_getD→tA,mem_iff_getElem→tB,length_take→vD,mem_append_left→vE,pairwise_iff_getElem→vF,length_set→yL,map_cons→yM,pairwise_map→BK,foldl_cons→Cr,sum_append→Ct,length_zipWith→EZ,sum_cons→Ea,zipWith_cons_cons→Eb,mem_append_right→GN,map_congr_left→Je,ext_getElem→Lc,pairwise_append→Lf,concat_eq_append→P0,eq_nil_or_concat→P1,contains_iff_mem→U8,getElem_replicate→UE,getElem_set_ne→a0F,getElem_set_self→a0G,take_append_of_le_length→a0J,flatten_append→a9u
open List.Pairwise renaming and_mem→aMR
open Nat renaming le_refl→aa,zero_le→bK,le_trans→bz,lt_of_lt_of_le→cP
open Option renaming none→aB,some→aC,getD_some→P7
open Option.some renaming inj→pF
open Prod.mk renaming injEq→PC
namespace Go.Proofs.YtdokipdchlcmeaaGreat
open Go.Proofs.Tryz Go.RowKit
def xD(D:Dk)(d:Bd):Int:=if D.st≠2 then 11 else if nS D.x d≠0 then nS D.x d else if hasB D.who d.m=aO then 14 else if jO D d.c=0 then 8 else xB D.x D.bx d
def Pc(D:Dk)(d:Bd):Dk:= {D with bx:=D.bx++ [{d with s:=(aA D.bx:Int)+1}],log:=D.log++ [⟨11,d.m,d.c,d.q,(aA D.bx:Int)+1⟩]}
def qF(D:Dk)(d:Bd):Dk:=if xD D d=0 then Pc D d else D
def Eh(D:Dk)(d:Bd):Int:=if xD D d=0 then (aA D.bx:Int)+1 else 0
theorem aDB {x y:ak}(h1:x.ms=y.ms)(h2:x.ss=y.ss)(d:Bd):nS x d=nS y d:=by obtain⟨ms,Am,cm,ss,As,cs,cy,Ac,cc,li,ca,le,tr,bi⟩:=x;obtain⟨ms',Am',cm',ss',As',cs',cy',Ac',cc',li',ca',XI,tr',bi'⟩:=y;simp only at h1 h2;subst h1 h2;rfl
theorem aCU {x y:ak}(h1:x.ms=y.ms)(h2:x.ss=y.ss)(h3:x.bT=y.bT)(L:List Bd)(d:Bd):xB x L d=xB y L d:=by unfold xB;rw [aDB h1 h2,h3]
theorem bW.boxed {w w':aJ} {db:Nat} {p:Dp} {D:Dk} {v':aN} {M7:List Bd}(H:bW w db p D)(hb:jA w' p.xb p.xc v' M7)(hu:bC (λk=>k=p.xb\/p.xv.ownBlock=aC k) w w')(hs:∀k,v'.ownBlock=aC k->p.xv.ownBlock=aC k\/w.heap.size<=k):aq db p {D with bx:=M7} w w':=by
 refine⟨{p with xv:=v'},H.box hu hb,rfl,rfl,rfl,rfl,hu.mono (λk hk=> .inl (.inr (.inr (.inr (.inl hk))))), ?_⟩;rintro k (e|e|e|(e|e)|e|e)
 ·exact .inl (.inl e)
 ·exact .inl (.inr (.inl e))
 ·exact .inl (.inr (.inr (.inl e)))
 ·exact .inl (.inr (.inr (.inr (.inl (.inl e)))))
 ·exact(hs k e).imp (λh=> .inr (.inr (.inr (.inl (.inr h))))) id
 ·exact .inl (.inr (.inr (.inr (.inr (.inl e)))))
 exact .inl (.inr (.inr (.inr (.inr (.inr e)))))
theorem aEj(db:Nat)(p:Dp)(D:Dk)(d:Bd)(w:aJ)(H:bW w db p D)(hO:fY D)(hI:d.ok)(hm:aA D.x.ms<=100000)(hs:aA D.x.ss<=100000)(hb:aL D.x.bT)(s8:D.st=2->nS D.x d=0->aL (balA (aA D.x.ms) (aA D.x.ss+1) D.l 1 0 d.c)):
 aQ aM 38 #[π db,d.val] w (CM db p (qF D d) (Eh D d) (xD D d) w):=by
 obtain⟨ds,dm,dc,dq,dp⟩:=d;have JT:=η H.same;have hb0:β w ((w.alloc (aK #[ν ds,ν dm,ν dc,ν dq,ν dp] 41)).alloc (aK #[ν 2] 3)):=σ.alloc (by simp) _;have jR:=η (Ju db p D 2 (aC ⟨w.heap.size+1,0,aB⟩) 1 _ (H.below hb0) (λj u hu=>⟨w.heap.size+1,0,rfl,by simp,by
  match j,hu with
  |0,hu=>exact(cL (w.alloc (aK #[ν ds,ν dm,ν dc,ν dq,ν dp] 41)) #[ν 2] 3 0 (by simp)).trans (by simpa using hu)
  |j+1,hu=>simp at hu⟩))
 have HF:=η H;have aZ:=η hb0;have cY:Hid (((w.alloc (aK #[ν ds,ν dm,ν dc,ν dq,ν dp] 41)).alloc (aK #[ν 2] 3)).heap[w.heap.size]? =aC (aK #[ν ds,ν dm,ν dc,ν dq,ν dp] 41 (0,0))):=η ((fG _ _ (by simp)).trans (cO w _));have hz0:w.heap.size<((w.alloc (aK #[ν ds,ν dm,ν dc,ν dq,ν dp] 41)).alloc (aK #[ν 2] 3)).heap.size:=by simp;omega
 have mi:Hid (∀k,eW db p k->k<w.heap.size):=η (λk hk=>H.tW hk);clear hb0 H;have HE:Hid (xD D ⟨ds,dm,dc,dq,dp⟩=if D.st≠2 then 11 else if nS D.x ⟨ds,dm,dc,dq,dp⟩≠0 then nS D.x ⟨ds,dm,dc,dq,dp⟩ else if hasB D.who dm=aO then 14 else if jO D dc=0 then 8 else xB D.x D.bx ⟨ds,dm,dc,dq,dp⟩):=η rfl;have yz:Hid (∀er,xD D ⟨ds,dm,dc,dq,dp⟩=er->er≠0->∀W,β w W->CM db p (qF D ⟨ds,dm,dc,dq,dp⟩) (Eh D ⟨ds,dm,dc,dq,dp⟩) (xD D ⟨ds,dm,dc,dq,dp⟩) w (aT (bB #[ν 0,ν er])) W):=η (λer h hn W hW=>by
  have e1:qF D ⟨ds,dm,dc,dq,dp⟩=D:=by unfold qF;rw [ifN (by rw [h];exact hn)]
  have e2:Eh D ⟨ds,dm,dc,dq,dp⟩=0:=by unfold Eh;rw [ifN (by rw [h];exact hn)]
  rw [e1,e2,h];exact⟨rfl,aq.bZ HF.o hW⟩)
 have TE:Hid (xD D ⟨ds,dm,dc,dq,dp⟩=0->∀W,aq db p (Pc D ⟨ds,dm,dc,dq,dp⟩) w W->CM db p (qF D ⟨ds,dm,dc,dq,dp⟩) (Eh D ⟨ds,dm,dc,dq,dp⟩) (xD D ⟨ds,dm,dc,dq,dp⟩) w (aT (bB #[ν ((aA D.bx:Int)+1),ν 0])) W):=η (λh W hW=>by
  have e1:qF D ⟨ds,dm,dc,dq,dp⟩=Pc D ⟨ds,dm,dc,dq,dp⟩:=by unfold qF;rw [ifP h]
  have e2:Eh D ⟨ds,dm,dc,dq,dp⟩=(aA D.bx:Int)+1:=by unfold Eh;rw [ifP h]
  rw [e1,e2,h];exact⟨rfl,hW⟩)
 have pZ:=η (λW (hW:β w W)=>a1o D.x ⟨ds,dm,dc,dq,dp⟩ W (HF.o.below hW).src hm hs hI);have LU:=η (λW (hW:β w W) (h1:D.st=2) (h2:nS D.x ⟨ds,dm,dc,dq,dp⟩=0)=>VG db p D dc W (HF.o.below hW) hO (s8 h1 h2));have HAD:Hid (∀W,β w W->aQ aM 90 #[π p.xb,bQ #[ν ds,ν dm,ν dc,ν dq,ν dp]] W (Sd p.xb p.xc p.xv D.bx ⟨ds,dm,dc,dq,dp⟩ W)):=η (λW hW=>aM8 p.xc p.xv D.bx ⟨ds,dm,dc,dq,dp⟩ p.xb W (HF.o.below hW).bx (HF.o.below hW).E6.src.ok (by rw [JT.o.1];exact hm) (by rw [JT.o.2.1];exact hs) hI (by have:=hO.bl;omega) (by rw [JT.o.2.2.2];exact hb));rw [show xB D.x D.bx ⟨ds,dm,dc,dq,dp⟩=xB p.xc D.bx ⟨ds,dm,dc,dq,dp⟩ from(aCU JT.o.1 JT.o.2.1 JT.o.2.2.2 _ _).symm] at HE;obtain⟨Aw,cw,hv⟩:=bL HF.o.who;have pC:=η (λW (hW:β w W)=>(show aW W W.heap.size Aw (D.who.map (aG aF)) by have h1:=(HF.o.below hW).who;rw [hv] at h1;exact aW.cA h1));have yC:=η (λW (hW:β w W)=>Md D.who Aw cw dm W (pC.o W hW) (by have:=hO.wl;omega));have HC:=η (λW (hW:β w W)=>(HF.o.below hW).cells);have HV:=η hv;have B7:Hid (aA D.log<=90000):=η hO.gl;clear hI hm hs hb s8 hO hv pC;unfold ak.val Bd.val at pZ;unfold Bd.val;generalize xD D ⟨ds,dm,dc,dq,dp⟩=ee at*;generalize qF D ⟨ds,dm,dc,dq,dp⟩=DW at*;generalize Eh D ⟨ds,dm,dc,dq,dp⟩=dv at*;generalize nS D.x ⟨ds,dm,dc,dq,dp⟩=be at*;generalize hasB D.who dm=hw at*;generalize jO D dc=sv at*;go_enter func38,ntmps38
 by_cases h1:D.st=2
 case neg=>
  rw [ifP h1] at HE;rw [ifN h1] at jR;clear h1;go_wp2_with (go_at_call 51;refine jR.o.mono ?_;rintro e w1 ⟨rfl,hb1⟩;have aR:=τ aZ hb1;clear hb1)
  go_ret2;exact yz.o 11 HE.o (by decide) _ aR.o
 rw [ifN (by simpa using h1)] at HE;rw [ifP h1] at jR;have H1:=η h1;clear h1;go_upto_region 4 with (go_at_call 51;refine jR.o.mono ?_;rintro e w4 ⟨rfl,hb4⟩;have ar:=τ aZ hb4;have pD:=η ((hb4.block _ hz0).trans cY.o);have mW:=cP hz0 hb4.size;clear hb4)
 clear jR aZ cY hz0;obtain⟨bx,bU⟩:∃bx,bx=w.heap.size:=⟨_,rfl⟩;have dL:=η bU;rw [<-bU] at pD mW ⊢;clear bU;have bX:Hid (¬eW db p bx):=η (λh=>by have:=mi.o bx h;rw [dL.o] at this;omega);have fL:Hid (∀W,β w4 W->W.cell? ⟨bx,0,aB⟩=aC (ν ds)/\W.cell? ⟨bx,1,aB⟩=aC (ν dm)/\W.cell? ⟨bx,2,aB⟩=aC (ν dc)/\W.cell? ⟨bx,3,aB⟩=aC (ν dq)/\W.cell? ⟨bx,4,aB⟩=aC (ν dp)):=η (λW hW=>by have hd:=(hW.block bx mW).trans pD.o;exact⟨ρ hd,ρ hd,ρ hd,ρ hd,ρ hd⟩);have eI:Hid (∀W,β w4 W->β w W):=η (λW hW=>ar.o.trans (hW.mono ar.o.size));have jS:Hid (∀W,β w4 W->W.cell? ⟨db,0,aB⟩=aC (aH D.x.Am (aA D.x.ms) D.x.cm)/\W.cell? ⟨db,1,aB⟩=aC (aH D.x.As (aA D.x.ss) D.x.cs)/\W.cell? ⟨db,2,aB⟩=aC (aH D.x.Ac (aA D.x.cy) D.x.cc)/\W.cell? ⟨db,3,aB⟩=aC (ν D.x.line)/\W.cell? ⟨db,4,aB⟩=aC (ν D.x.bV)/\W.cell? ⟨db,5,aB⟩=aC (ν D.x.lead)/\W.cell? ⟨db,6,aB⟩=aC (ν D.x.tr)/\W.cell? ⟨db,7,aB⟩=aC (ν D.x.bT)/\W.cell? ⟨bx,0,aB⟩=aC (ν ds)/\W.cell? ⟨bx,1,aB⟩=aC (ν dm)/\W.cell? ⟨bx,2,aB⟩=aC (ν dc)/\W.cell? ⟨bx,3,aB⟩=aC (ν dq)/\W.cell? ⟨bx,4,aB⟩=aC (ν dp)):=η (λW hW=>by have c:=HC.o W (eI.o W hW);exact⟨c.c0,c.c1,c.c2,c.c3,c.c4,c.c5,c.c6,c.c7,fL.o W hW⟩);have bP:β w4 w4.drew:=(aX _ _).drew;have hdd:=jS.o _ bP;go_region_held3 (λW=>W.cell? ⟨db,0,aB⟩=aC (aH D.x.Am (aA D.x.ms) D.x.cm)/\W.cell? ⟨db,1,aB⟩=aC (aH D.x.As (aA D.x.ss) D.x.cs)/\W.cell? ⟨db,2,aB⟩=aC (aH D.x.Ac (aA D.x.cy) D.x.cc)/\W.cell? ⟨db,3,aB⟩=aC (ν D.x.line)/\W.cell? ⟨db,4,aB⟩=aC (ν D.x.bV)/\W.cell? ⟨db,5,aB⟩=aC (ν D.x.lead)/\W.cell? ⟨db,6,aB⟩=aC (ν D.x.tr)/\W.cell? ⟨db,7,aB⟩=aC (ν D.x.bT)/\W.cell? ⟨bx,0,aB⟩=aC (ν ds)/\W.cell? ⟨bx,1,aB⟩=aC (ν dm)/\W.cell? ⟨bx,2,aB⟩=aC (ν dc)/\W.cell? ⟨bx,3,aB⟩=aC (ν dq)/\W.cell? ⟨bx,4,aB⟩=aC (ν dp)) (first|(with_reducible assumption)) ((go_at_call 88;refine(pZ.o _ (eI.o _ (by with_reducible assumption))).mono ?_;rintro e w5 ⟨rfl,cd⟩;have dW:β w4 w5:=jy (by with_reducible assumption) (cd.mono (gV (by with_reducible assumption)));have hcc:=jS.o _ dW))
 have cV:=η dW;clear cd dW bP hdd hcc jS pZ;by_cases h2:be=0
 case neg=>
  have km:(be==0)=aP:=by simpa using h2
  rw [ifP h2] at HE;have HB:=η h2;clear h2;go_wp2_with fail
  go_ret2;exact yz.o be HE.o HB.o _ (eI.o _ cV.o)
 subst h2;rw [ifN (by simp)] at HE;have Tr:=η (λW (hW:β w W)=>LU.o W hW H1.o rfl);clear LU;go_upto_region 7 with (fail)
 have rP:Hid (∀W,β w4 W->W.cell? ⟨db,11,aB⟩=aC (aH Aw (aA D.who) cw)/\W.cell? ⟨bx,1,aB⟩=aC (ν dm)):=η (λW hW=>⟨by rw [<-HV.o];exact(HC.o W (eI.o W hW)).c11,(fL.o W hW).2.1⟩);have bP:β w4 w5.drew:=cV.o.drew;have hdd:=rP.o _ bP;go_region_held3 (λW=>W.cell? ⟨db,11,aB⟩=aC (aH Aw (aA D.who) cw)/\W.cell? ⟨bx,1,aB⟩=aC (ν dm)) (first|(with_reducible assumption)) ((go_at_call 89;refine(yC.o _ (eI.o _ (by with_reducible assumption))).mono ?_;rintro e w6 ⟨rfl,rfl⟩))
 have gJ:=η bP;clear bP hdd rP yC cV;cases hh:hw with
 |true=>
  subst hh;rw [ifP rfl] at HE;go_wp2_with fail
  go_ret2;exact yz.o 14 HE.o (by decide) _ (eI.o _ gJ.o)
 |false=>
  subst hh;rw [ifN (by simp)] at HE;have b2:=(fL.o _ gJ.o).2.2.1;by_cases h3:sv=0
  ·subst h3;rw [ifP rfl] at HE;go_wp2_with (go_at_call 69;refine(Tr.o _ (eI.o _ gJ.o)).mono ?_;rintro e w7 ⟨rfl,fP⟩;have rH:=τ gJ fP;clear fP)
   go_ret2;exact yz.o 8 HE.o (by decide) _ (eI.o _ rH.o)
  have Wp:(sv==0)=aP:=by simpa using h3
  rw [ifN h3] at HE;clear h3;go_upto_region 11 with (go_at_call 69;refine(Tr.o _ (eI.o _ gJ.o)).mono ?_;rintro e w7 ⟨rfl,fP⟩;have rH:=τ gJ fP;clear fP)
  clear Tr gJ b2;have zM:Hid (∀W,β w4 W->W.cell? ⟨db,10,aB⟩=aC (π p.xb)/\W.cell? ⟨bx,0,aB⟩=aC (ν ds)/\W.cell? ⟨bx,1,aB⟩=aC (ν dm)/\W.cell? ⟨bx,2,aB⟩=aC (ν dc)/\W.cell? ⟨bx,3,aB⟩=aC (ν dq)/\W.cell? ⟨bx,4,aB⟩=aC (ν dp)):=η (λW hW=>⟨(HC.o W (eI.o W hW)).c10,fL.o W hW⟩);have Z4:Hid (∀W,β w4 W->aQ aM 90 #[π p.xb,bQ #[ν ds,ν dm,ν dc,ν dq,ν dp]] W λe W'=>∃(n er:Int),e=aT (bB #[ν n,ν er])/\(W'.cell? ⟨db,10,aB⟩=aC (π p.xb)/\W'.cell? ⟨bx,0,aB⟩=aC (ν ds)/\W'.cell? ⟨bx,1,aB⟩=aC (ν dm)/\W'.cell? ⟨bx,2,aB⟩=aC (ν dc)/\W'.cell? ⟨bx,3,aB⟩=aC (ν dq)/\W'.cell? ⟨bx,4,aB⟩=aC (ν dp))/\((er≠0/\n=0/\ee=er/\β w4 W')\/(er=0/\n=(aA D.bx:Int)+1/\ee=0/\aq db p {D with bx:=D.bx++ [⟨(aA D.bx:Int)+1,dm,dc,dq,dp⟩]} w W'))):=η (λW hW=>by
   refine(HAD.o W (eI.o W hW)).mono ?_;rintro e W' (⟨q1,rfl,q2⟩|⟨q1,v',rfl,q2,q3,q4⟩)
   ·have hb:β w4 W':=hW.trans (q2.mono hW.size);exact⟨0,_,rfl,zM.o W' hb,.inl ⟨q1,rfl,HE.o,hb⟩⟩
   have hd:=(HF.o.below (eI.o W hW)).boxed q2 q3 q4;have qx:aq db p {D with bx:=D.bx++ [⟨(aA D.bx:Int)+1,dm,dc,dq,dp⟩]} w W':=aq.trans (bC.bZ _ (eI.o W hW)) (λ_ h=> .inl h) ⟨rfl,rfl,rfl,rfl⟩ hd;have hz:=cP mW hW.size;obtain⟨_,r0,r1,r2,r3,r4⟩:=zM.o W hW;refine⟨_,0,rfl,⟨?_,(hd.cell 0 hz bX.o).trans r0,(hd.cell 1 hz bX.o).trans r1,(hd.cell 2 hz bX.o).trans r2,(hd.cell 3 hz bX.o).trans r3,(hd.cell 4 hz bX.o).trans r4⟩,.inr ⟨rfl,rfl,HE.o.trans q1,qx⟩⟩;obtain⟨p3,H3,f1,f2,f3,f4,_⟩:=hd;rw [<-f3];exact H3.cells.c10)
  have bP:β w4 w7.drew:=rH.o.drew;have hdd:=zM.o _ bP;clear HAD HE HC;go_region_held3 (λW=>W.cell? ⟨db,10,aB⟩=aC (π p.xb)/\W.cell? ⟨bx,0,aB⟩=aC (ν ds)/\W.cell? ⟨bx,1,aB⟩=aC (ν dm)/\W.cell? ⟨bx,2,aB⟩=aC (ν dc)/\W.cell? ⟨bx,3,aB⟩=aC (ν dq)/\W.cell? ⟨bx,4,aB⟩=aC (ν dp)) (first|(with_reducible assumption)) ((go_at_call 90;refine(Z4.o _ (by with_reducible assumption)).mono ?_;rintro e w8 ⟨n,er,rfl,hcc,hor⟩))
  obtain⟨_,m0,m1,m2,m3,m4⟩:=hcc;clear bP hdd Z4 zM;rcases hor with⟨q1,rfl,q2,q3⟩|⟨rfl,rfl,q2,q3⟩
  ·have km:(er==0)=aP:=by simpa using q1
   have HB:=η (kX q1 (kX q2 q3));clear q1 q2 q3;go_wp2_with fail
   go_ret2;exact yz.o er HB.o.2.1 HB.o.1 _ (eI.o _ HB.o.2.2)
  have HZ:=η q2;obtain⟨p3,q3⟩:=q3.q;have HQ:=η q3;clear q2 q3;have kY:=η (HQ.o.at.below ((aX w8.heap.size w8).alloc (aa _) (aK #[ν 11,ν dm,ν dc,ν dq,ν ((aA D.bx:Int)+1)] 45)));have kZ:=η (xK db p3 {D with bx:=D.bx++ [⟨(aA D.bx:Int)+1,dm,dc,dq,dp⟩]} [⟨11,dm,dc,dq,(aA D.bx:Int)+1⟩] w8.heap.size 1 _ kY.o (dK w8 45 #[ν 11,ν dm,ν dc,ν dq,ν ((aA D.bx:Int)+1)] rfl) (by simp) (by simp) (by have:=B7.o;simp only;omega));have sW:=η (HQ.o.below ((aX w8.heap.size w8).alloc (aa _) (aK #[ν 11,ν dm,ν dc,ν dq,ν ((aA D.bx:Int)+1)] 45)));clear HQ kY;go_wp2_with (go_at_call 55;refine kZ.o.mono ?_;rintro e w9 ⟨rfl,h9⟩;obtain⟨p9,AE,_⟩:=sW.o.then h9;have lS:=η AE;clear h9 AE)
  go_ret2;exact TE.o HZ.o _ lS.o.p
structure uA(w:aJ)(lb:Nat)(v:aN)(es:List En)(W:aJ):Prop where
 bl:β w W
 blk:W.heap[lb]? =aC (aK #[v] 101 (0,0))
 own:W.ownsRow w.heap.size 103 4 v (aA es) (qo es)
 lo:w.heap.size<=lb
theorem uA.lt {w W:aJ} {lb:Nat} {v:aN} {es:List En}(h:uA w lb v es W):lb<W.heap.size:=(fX.1 h.blk).1
theorem uA.below {w W W':aJ} {lb:Nat} {v:aN} {es:List En}(h:uA w lb v es W)(hb:aY W.heap.size W W'):uA w lb v es W':=
 ⟨h.bl.trans (hb.mono h.bl.size),(hb.block _ h.lt).trans h.blk,gh h.own hb,h.lo⟩
def gY(fk fm tk tm n:Int):List En:= [⟨fk,fm,0,-n⟩,⟨tk,tm,0,n⟩]
theorem aFI:(aM.info? 103).map (λi=>(i.zero,i.size,i.bytes))=aC (aC (bQ #[aG aF 0,aG aF 0,aG aF 0,aG aF 0]),4,32):=by kernel_rfl
theorem aFJ(es:List En):∀u∈qo es,u.oneCell'=aO:=by intro u hu;obtain⟨x,_,hx⟩:=List.mem_flatMap.1 hu;simp [En.cells] at hx;rcases hx with rfl|rfl|rfl|rfl<;>rfl
theorem Ps(w:aJ)(lb:Nat)(v:aN)(es:List En)(fk fm tk tm n:Int)(W:aJ)(h:uA w lb v es W)(hn:aL n)(ku:0<=n)(hl:aA es<=1000):
 aQ aM 48 #[bQ #[ν fk,ν fm],bQ #[ν tk,ν tm],ν n,π lb] W λe W'=>e=aT (bB #[])/\∃v',uA w lb v' (es++gY fk fm tk tm n) W'/\bC (λk=>k=lb\/v.ownBlock=aC k) W W':=by
 obtain⟨i0,bu,hz0,hz1,hz2⟩:=dJ aFI;have Mq:aF.wrap (-n)= -n:=wF (by unfold aL at*;omega);have ag:Hid (β W (((W.alloc (aK #[ν fk,ν fm] 51)).alloc (aK #[ν tk,ν tm] 51)).alloc (aK #[ν fk,ν fm,ν 0,ν (-n),ν tk,ν tm,ν 0,ν n] 103))):=η ((σ.alloc (by simp) _).alloc (by simp;omega) _);have aV:Hid (β W ((W.alloc (aK #[ν fk,ν fm] 51)).alloc (aK #[ν tk,ν tm] 51))):=η (σ.alloc (by simp) _);have rJ:=η (h.below ag.o);have c2:((W.alloc (aK #[ν fk,ν fm] 51)).alloc (aK #[ν tk,ν tm] 51)).cell? ⟨lb,0,aB⟩=aC v:=bH _ _ _ _ _ (0,0) (h.below aV.o).blk;have HN:Hid (∀j u,([ν fk,ν fm,ν 0,ν (-n),ν tk,ν tm,ν 0,ν n]:List aN)[j]? =aC u->(((W.alloc (aK #[ν fk,ν fm] 51)).alloc (aK #[ν tk,ν tm] 51)).alloc (aK #[ν fk,ν fm,ν 0,ν (-n),ν tk,ν tm,ν 0,ν n] 103)).cell? ((⟨W.heap.size+1+1,0,aB⟩:aj).add j)=aC u):=η (dK _ 103 #[ν fk,ν fm,ν 0,ν (-n),ν tk,ν tm,ν 0,ν n] (by simp));go_enter func48,ntmps48
 go_wp2_with (at_builtin;refine iZ _ rfl _ _ 101 rfl w.heap.size 103 i0 _ 4 32 underlying101 bu hz0 hz1 hz2 rfl (by decide) v (aA es) (qo es) rfl rJ.o.own _ 2 _ [ν fk,ν fm,ν 0,ν (-n),ν tk,ν tm,ν 0,ν n] rfl rfl HN.o (aFJ (gY fk fm tk tm n)) (by simp only [bM];omega) (by omega) rJ.o.bl.size ?_)
 intro v' w4 gG hg4 _;obtain⟨A4,k4,hv4⟩:=bL gG;subst hv4;have hne:v.ownBlock≠aC lb:=gP rJ.o.own rJ.o.blk (by decide);have hb4:=(hg4.block lb rJ.o.lt (λe=>hne e.symm)).trans rJ.o.blk;have c4:w4.cell? ⟨lb,0,aB⟩=aC v:=ρ hb4;have f4:w4.frozen? ⟨lb,0,aB⟩=aP:=by simp [iK,hb4]
 have hBL:β w w4:=Ei rJ.o.bl hg4 (λk hk=>(rJ.o.own.lt k hk).1) rJ.o.bl.size;have HR:Hid (uA w lb (aH A4 (aA es+2) k4) (es++gY fk fm tk tm n) (w4.setCell ⟨lb,0,aB⟩ (aH A4 (aA es+2) k4))):=η (by
  have iW:w4.ownsRow w.heap.size 103 4 (aH A4 (aA es+2) k4) (aA (es++gY fk fm tk tm n)) (qo (es++gY fk fm tk tm n)):=by rw [show aA (es++gY fk fm tk tm n)=aA es+2 from by simp [gY],show qo (es++gY fk fm tk tm n)=qo es++ [ν fk,ν fm,ν 0,ν (-n),ν tk,ν tm,ν 0,ν n] from by simp [qo,gY,En.cells]];exact gG
  exact⟨uQ _ hBL rJ.o.lo,(lu hb4 0 _).trans rfl,kK iW (gP iW hb4 (by decide)) _,rJ.o.lo⟩)
 have HU:Hid (bC (λk=>k=lb\/v.ownBlock=aC k) W (w4.setCell ⟨lb,0,aB⟩ (aH A4 (aA es+2) k4))):=η (((bC.bZ _ ag.o).trans (bC.IZ hg4 (λk hk=> .inl (.inr hk))) (λk hk=> .inl hk)).setCell (p:=⟨lb,0,aB⟩) (.inl (.inl rfl)) _);go_wp2
 go_end0
 exact⟨rfl,_,HR.o,HU.o⟩
def l8(D:Dk)(k:Nat):Pr:=D.x.ms.getD k ⟨0,0⟩
def DN(D:Dk)(k:Nat):Bool:=decide ((l8 D k).a>1099511627776-balA (aA D.x.ms) (aA D.x.ss+1) D.l 8 ((k:Int)+1) 0)
def El(D:Dk):Bool:=(dR (aA D.x.ms)).any (DN D)
def nU(D:Dk):Nat->List En
 |0=> []
 |k+1=>nU D k++gY 7 ((k:Int)+1) 8 ((k:Int)+1) (l8 D k).a++gY 7 ((k:Int)+1) 9 ((k:Int)+1) (l8 D k).b
def fV(D:Dk):List En:=nU D (aA D.x.ms)++gY 5 0 3 0 D.x.line++gY 6 0 4 0 D.x.bV
def ME(D:Dk):Dk:= {D with en:=aO,l:=eT D (fV D)}
def MF(D:Dk):Int:=if D.en=aO then 7 else if El D=aO then 2 else lZ (aA D.x.ms) (aA D.x.ss+1) D.l D.h (fV D)
def vP(D:Dk):Dk:=if D.en=aO then D else if El D=aO then D else ME D
theorem a3A(D:Dk)(k:Nat):aA (nU D k)=4*k:=by
 induction k with
 |zero=>rfl
 |succ k ih=>unfold nU;rw [cN,cN,ih];simp [gY];omega
structure J3(D:Dk):Prop where
 ok:fY D
 ml:aA D.x.ms<=100
 bI:∀k:Nat,k<aA D.x.ms->aL (1099511627776-balA (aA D.x.ms) (aA D.x.ss+1) D.l 8 ((k:Int)+1) 0)
 mI:∀x∈D.x.ms,(aL x.a/\0<=x.a)/\aL x.b/\0<=x.b
 li:aL D.x.line/\0<=D.x.line
 ca:aL D.x.bV/\0<=D.x.bV
theorem RS {fk fm tk tm n:Int}(h1:aL fk)(h2:aL fm)(h3:aL tk)(h4:aL tm)(h5:aL n)(h6:0<=n):∀x∈gY fk fm tk tm n,x.ok:=by
 intro x hx;simp only [gY,fE,List.not_mem_nil,or_false] at hx;rcases hx with rfl|rfl
 ·exact⟨h1,h2,(by decide:aL 0),(by unfold aL at*;simp only;omega)⟩
 exact⟨h3,h4,(by decide:aL 0),h5⟩
theorem a5j {D:Dk}(P:J3 D) {k:Nat}(hk:k<aA D.x.ms):(aL (l8 D k).a/\0<=(l8 D k).a)/\aL (l8 D k).b/\0<=(l8 D k).b:=by unfold l8;rw [tA,iE hk];exact P.mI _ (cH hk)
theorem a3B {D:Dk}(P:J3 D):∀k,k<=aA D.x.ms->∀x∈nU D k,x.ok
 |0,_,x,hx=>by cases hx
 |k+1,hk,x,hx=>by
  have hI:aL ((k:Int)+1):=by have:=P.ml;unfold aL;omega
  obtain⟨⟨m1,m2⟩,m3,m4⟩:=a5j P (k:=k) (by omega);unfold nU at hx;rcases gL.1 hx with hx|hx
  ·rcases gL.1 hx with hx|hx
   ·exact a3B P k (by omega) x hx
   exact RS (by decide) hI (by decide) hI m1 m2 x hx
  exact RS (by decide) hI (by decide) hI m3 m4 x hx
theorem aFL {D:Dk}(P:J3 D):∀x∈fV D,x.ok:=by
 intro x hx;unfold fV at hx;rcases gL.1 hx with hx|hx
 ·rcases gL.1 hx with hx|hx
  ·exact a3B P _ (aa _) x hx
  exact RS (by decide) (by decide) (by decide) (by decide) P.li.1 P.li.2 x hx
 exact RS (by decide) (by decide) (by decide) (by decide) P.ca.1 P.ca.2 x hx
theorem bW.aFH {w:aJ} {db:Nat} {p:Dp} {D:Dk}(H:bW w db p D)(b:Bool):cu db p p {D with en:=b} w (w.setCell ⟨db,14,aB⟩ (bJ b)):=
 ⟨H.Ph 14 (bJ b) rfl rfl rfl rfl rfl rfl ⟨rfl,rfl,rfl,rfl,rfl,rfl,rfl⟩ H.who H.log,rfl,rfl,rfl,rfl,(bC.refl _ _).setCell (p:=⟨db,14,aB⟩) (.inl (.inl rfl)) _,λ_ h=> .inl h⟩
theorem a2Z(db:Nat)(p:Dp)(D:Dk)(w:aJ)(H:bW w db p D)(P:J3 D):
 aQ aM 25 #[π db] w λe w'=>e=aT (ν (MF D))/\aq db p (vP D) w w':=by
 have HF:=η H;have HP:=η P;have HE:Hid (MF D=if D.en=aO then 7 else if El D=aO then 2 else lZ (aA D.x.ms) (aA D.x.ss+1) D.l D.h (fV D)):=η rfl;have HW:Hid (vP D=if D.en=aO then D else if El D=aO then D else ME D):=η rfl;have Sy:Hid (El D=(dR (aA D.x.ms)).any (DN D)):=η rfl;have ew:=η (λW (hW:β w W) m (hm:aL m)=>zm db p D 8 m 0 W (H.below hW) (by decide) hm);have JM:=η (λW (hW:β w W)=>(aW.cA (H.below hW).cf.m));have HC:=η (λW (hW:β w W)=>(H.below hW).cells);have xP:=H.lt;have c14:=H.cells.c14;have ir:aA D.x.ms<=100:=P.ml;clear H P;generalize MF D=ee at*;generalize vP D=DW at*;generalize El D=eb at*;go_enter func25,ntmps25
 generalize hen:D.en=en at*;cases en with
 |true=>
  rw [ifP rfl] at HE HW;clear hen;go_wp2_with fail
  go_ret;exact⟨cj HE.o.symm,by rw [HW.o];exact aq.refl HF.o⟩
 |false=>
  rw [ifN (by simp)] at HE HW;have iw:=η hen;clear hen;have c0:=(HC.o w (aX _ _)).c0;generalize hM:aA D.x.ms=M at*;go_upto_region 6 with (fail)
  clear c0 c14;have og:Hid (∀j,j<0->DN D j=aP):=η (λj hj=>absurd hj (Nat.not_lt_zero _));have aZ:Hid (β w w):=η (aX _ _);go_loopw [3,4,23] (λ_ _ i wr=>∃k:Nat,k<=M/\i=ν (k:Int)/\Hid (∀j,j<k->DN D j=aP)/\Hid (β w wr)) (λ_ _ i _=>M-(af i).toNat)
  case atStart=>exact⟨0,bK _,rfl,og,aZ⟩
  case round=>
   clear og aZ;obtain⟨k,hk,rfl,HN,HB⟩:=hrel;by_cases hlt:k<M
   ·have yc:k<aA D.x.ms:=by rw [hM];exact hlt
    obtain⟨bl,ol,jn,hbl,l0,l1⟩:=Bz (JM.o _ HB.o) yc;have eY:(0:Int)<=(k:Int):=by omega
    have hkb:(k:Int)<(M:Int):=by omega
    have pZ:Hid (DN D k=decide ((D.x.ms[k]).a>1099511627776-balA M (aA D.x.ss+1) D.l 8 ((k:Int)+1) 0)):=η (by unfold DN l8;rw [tA,iE yc,hM];rfl);have z8:Hid (aL (1099511627776-balA M (aA D.x.ss+1) D.l 8 ((k:Int)+1) 0)):=η (by have h:=HP.o.bI k yc;rw [hM] at h;exact h);have FA:aL ((k:Int)+1):=by unfold aL;omega
    have pY:=η (λW hW=>ew.o W hW ((k:Int)+1) FA);have Bc:aF.wrap ((k:Int)+1)=(k:Int)+1:=wF FA;generalize D.x.ms[k]=x at*;obtain⟨xa,xb⟩:=x;simp only at l0 l1;generalize balA M (aA D.x.ss+1) D.l 8 ((k:Int)+1) 0=bq at*;have Tz:Hid (aF.wrap (1099511627776-bq)=1099511627776-bq):=η (wF z8.o);rw [<-Bc] at pY;clear Bc FA;rw [jn] at*;have gJ:Hid (β wr (wr.alloc (aK #[ν xa,ν xb] 67))):=η σ;have qZ:Hid ((wr.alloc (aK #[ν xa,ν xb] 67)).heap[wr.heap.size]? =aC (aK #[ν xa,ν xb] 67 (0,0))):=η (cO wr _);have vr:wr.heap.size<(wr.alloc (aK #[ν xa,ν xb] 67)).heap.size:=by simp
    go_upto_region 8 with (fail)
    generalize wr.alloc (aK #[ν xa,ν xb] 67)=w6 at*;obtain⟨bx,bU⟩:∃bx,bx=wr.heap.size:=⟨_,rfl⟩;rw [<-bU] at qZ vr ⊢;clear bU l0 l1;have cC:Hid (β w w6):=η (HB.o.trans (gJ.o.mono HB.o.size));have fL:Hid (∀W,β w6 W->W.cell? ⟨bx,0,aB⟩=aC (ν xa)):=η (λW hW=>bH _ _ _ _ _ (0,0) ((hW.block bx vr).trans qZ.o));have eI:Hid (∀W,β w6 W->β w W):=η (λW hW=>cC.o.trans (hW.mono cC.o.size));have bP:β w6 w6.drew:=(aX _ _).drew;have hdd:=fL.o _ bP;clear HB gJ qZ;go_region_held3 (λW=>W.cell? ⟨bx,0,aB⟩=aC (ν xa)) (first|(with_reducible assumption)) (first|(go_at_call 47;with_reducible refine tz (zg (aF.wrap ((k:Int)+1)) _) ?_;rintro e wa ⟨rfl,nB⟩;have yV:β w6 wa:=jy (by with_reducible assumption) (nB.mono (gV (by with_reducible assumption)));have qu:=fL.o _ yV)|(go_at_call 46;with_reducible refine tz (pY.o _ (eI.o _ (by with_reducible assumption))) ?_;rintro e wb ⟨rfl,iO⟩;have ru:β w6 wb:=jy (by with_reducible assumption) (iO.mono (gV (by with_reducible assumption)));have hcb:=fL.o _ ru))
    all_goals
     rw [Tz.o];by_cases hc:1099511627776-bq<xa
     ·have Kz:Hid (eb=aO):=η (by rw [Sy.o];exact a1f hlt (by rw [pZ.o];exact decide_eq_true hc));have mh:Hid (ee=2):=η (by rw [HE.o,ifP Kz.o]);have gD:Hid (DW=D):=η (by rw [HW.o,ifP Kz.o]);have wN:=η (eI.o _ ru);clear nB yV qu iO ru hcb bP hdd;go_wp2_with fail
      go_ret;exact⟨cj mh.o.symm,by rw [gD.o];exact aq.bZ HF.o wN.o⟩
     have hc2:xa<=1099511627776-bq:=by omega
     have oh:Hid (∀i,i<k+1->DN D i=aP):=η (λi hi=>by
      rcases Nat.lt_succ_iff_lt_or_eq.1 hi with h|rfl
      ·exact HN.o i h
      rw [pZ.o];exact decide_eq_false (by simpa using hc))
     have wN:=η (eI.o _ ru);clear nB yV qu iO ru hcb bP hdd HN;go_wp2_with fail
     go_roundw
     case rel=>exact⟨k+1,by omega,by go_num,oh,wN⟩
     case measure=>simp [af];omega
   obtain rfl:k=M:=by omega
   have Kz:Hid (¬eb=aO):=η (by rw [Sy.o,a1g (λi hi=>HN.o i hi)];simp);rw [ifN Kz.o] at HE HW;clear HN Sy Kz ew;have aR:Hid (uA w wr.heap.size (aH aB 0 0) (nU D 0) (wr.alloc (aK #[aH aB 0 0] 101))):=η ⟨HB.o.trans ((aX _ _).alloc HB.o.size _),cO wr _,fh _ _ _ _,HB.o.size⟩;have hzl:wr.heap.size<(wr.alloc (aK #[aH aB 0 0] 101)).heap.size:=by simp
   go_upto_region 13 with (fail)
   generalize wr.alloc (aK #[aH aB 0 0] 101)=w2 at*;obtain⟨lb,hlb⟩:∃lb,lb=wr.heap.size:=⟨_,rfl⟩;rw [<-hlb] at aR hzl ⊢;clear hlb HB;have c0:=(HC.o w2 aR.o.bl).c0;rw [hM] at c0;go_upto_region 14 with (fail)
   clear c0;have ie:Hid (∃v,uA w lb v (nU D 0) w2):=η ⟨_,aR.o⟩;clear aR;go_loopw [7,8,45] (λ_ _ i wr=>∃j:Nat,j<=k/\i=ν (j:Int)/\Hid (∃v,uA w lb v (nU D j) wr)) (λ_ _ i _=>k-(af i).toNat)
   case atStart=>exact⟨0,bK _,rfl,ie⟩
   case round=>
    clear ie;obtain⟨j,hj,rfl,uu⟩:=hrel;obtain⟨v,hv⟩:=uu.o;have HI:=η hv;clear uu hv;by_cases hlt:j<k
    ·have yc:j<aA D.x.ms:=by rw [hM];exact hlt
     obtain⟨bl,ol,jn,hbl,l0,l1⟩:=Bz (JM.o _ HI.o.bl) yc;have eY:(0:Int)<=(j:Int):=by omega
     have hkb:(j:Int)<(k:Int):=by omega
     have Zh:Hid (l8 D j=D.x.ms[j]):=η (by unfold l8;rw [tA,iE yc];rfl);have ux:=η (a5j HP.o yc);have CV:Hid (nU D (j+1)=nU D j++gY 7 ((j:Int)+1) 8 ((j:Int)+1) (l8 D j).a++gY 7 ((j:Int)+1) 9 ((j:Int)+1) (l8 D j).b):=η rfl;rw [Zh.o] at ux CV;have hjw:(j:Int)+1=aF.wrap ((j:Int)+1):=(wF (by unfold aL;omega)).symm;rw [hjw] at CV;have CU:Hid (aA (nU D j)<=400):=η (by rw [a3A];omega);clear hjw Zh;generalize D.x.ms[j]=x at*;obtain⟨xa,xb⟩:=x;simp only at l0 l1;rw [jn] at*;have gJ:Hid (β wr (wr.alloc (aK #[ν xa,ν xb] 67))):=η σ;have qZ:Hid ((wr.alloc (aK #[ν xa,ν xb] 67)).heap[wr.heap.size]? =aC (aK #[ν xa,ν xb] 67 (0,0))):=η (cO wr _);have vr:wr.heap.size<(wr.alloc (aK #[ν xa,ν xb] 67)).heap.size:=by simp
     go_upto_region 16 with (fail)
     generalize wr.alloc (aK #[ν xa,ν xb] 67)=w6 at*;obtain⟨bx,bU⟩:∃bx,bx=wr.heap.size:=⟨_,rfl⟩;rw [<-bU] at qZ vr ⊢;clear bU l0 l1;have wT:=η (HI.o.below gJ.o);have fL:Hid (∀W,β w6 W->W.cell? ⟨bx,0,aB⟩=aC (ν xa)):=η (λW hW=>bH _ _ _ _ _ (0,0) ((hW.block bx vr).trans qZ.o));have Kv:Hid (∀W,β w6 W->aQ aM 48 #[bQ #[ν 7,ν (aF.wrap ((j:Int)+1))],bQ #[ν 8,ν (aF.wrap ((j:Int)+1))],ν xa,π lb] W λe W'=>e=aT (bB #[])/\(∃v',uA w lb v' (nU D j++gY 7 (aF.wrap ((j:Int)+1)) 8 (aF.wrap ((j:Int)+1)) xa) W')/\W'.heap[bx]? =aC (aK #[ν xa,ν xb] 67 (0,0))/\W'.cell? ⟨bx,0,aB⟩=aC (ν xa)):=η (λW hW=>by
      have hE:=wT.o.below hW;have oJ:=(hW.block bx vr).trans qZ.o;refine(Ps w lb v (nU D j) 7 (aF.wrap ((j:Int)+1)) 8 (aF.wrap ((j:Int)+1)) xa W hE ux.o.1.1 ux.o.1.2 (by have:=CU.o;omega)).mono ?_;rintro e W' ⟨q1,v',q2,q3⟩;have QL:W'.heap[bx]? =aC (aK #[ν xa,ν xb] 67 (0,0)):=(q3.keep bx (fX.1 oJ).1 (λh=>by
       rcases h with h|h
       ·subst h;have:=oJ.symm.trans hE.blk;simp at this
       exact gP hE.own oJ (by decide) h)).trans oJ
      exact⟨q1,⟨v',q2⟩,QL,ρ QL⟩)
     have bP:β w6 w6.drew:=(aX _ _).drew;have hdd:=fL.o _ bP;clear HI gJ;go_region_held3 (λW=>W.cell? ⟨bx,0,aB⟩=aC (ν xa)) (first|(with_reducible assumption)) (first|(go_at_call 47;with_reducible refine tz (zg (aF.wrap ((j:Int)+1)) _) ?_;rintro e wa ⟨rfl,nB⟩;have yV:β w6 wa:=jy (by with_reducible assumption) (nB.mono (gV (by with_reducible assumption)));have qu:=fL.o _ yV)|(go_at_call 49;with_reducible refine tz (Ej (aF.wrap ((j:Int)+1)) _) ?_;rintro e wb ⟨rfl,iO⟩;have ru:β w6 wb:=jy (by with_reducible assumption) (iO.mono (gV (by with_reducible assumption)));have hcb:=fL.o _ ru)|(go_at_call 48;with_reducible refine tz (Kv.o _ (by with_reducible assumption)) ?_;rintro e wc ⟨rfl,Vx,a4A,Vv⟩))
     all_goals
      have ZR:=η Vx;have dL:=η a4A;clear Vx a4A Vv nB yV qu iO ru hcb bP hdd fL Kv qZ wT;obtain⟨v8,Qw⟩:=ZR.o;have OG:=η Qw;have hz8:bx<wc.heap.size:=(fX.1 dL.o).1;clear Qw ZR vr;go_upto_region 17 with (fail)
      have fL:Hid (∀W,β wc W->W.cell? ⟨bx,1,aB⟩=aC (ν xb)):=η (λW hW=>bH _ _ _ _ _ (0,0) ((hW.block bx hz8).trans dL.o));have Kv:Hid (∀W,β wc W->aQ aM 48 #[bQ #[ν 7,ν (aF.wrap ((j:Int)+1))],bQ #[ν 9,ν (aF.wrap ((j:Int)+1))],ν xb,π lb] W λe W'=>e=aT (bB #[])/\(∃v',uA w lb v' (nU D (j+1)) W')/\W'.cell? ⟨bx,1,aB⟩=aC (ν xb)):=η (λW hW=>by
       have hE:=OG.o.below hW;have oJ:=(hW.block bx hz8).trans dL.o;refine(Ps w lb v8 _ 7 (aF.wrap ((j:Int)+1)) 9 (aF.wrap ((j:Int)+1)) xb W hE ux.o.2.1 ux.o.2.2 (by rw [cN];have:=CU.o;simp [gY];omega)).mono ?_;rintro e W' ⟨q1,v',q2,q3⟩;have QL:W'.heap[bx]? =aC (aK #[ν xa,ν xb] 67 (0,0)):=(q3.keep bx (fX.1 oJ).1 (λh=>by
        rcases h with h|h
        ·subst h;have:=oJ.symm.trans hE.blk;simp at this
        exact gP hE.own oJ (by decide) h)).trans oJ
       exact⟨q1,⟨v',by rw [CV.o];exact q2⟩,ρ QL⟩)
      have bP:β wc wc.drew:=(aX _ _).drew;have hdd:=fL.o _ bP;go_region_held3 (λW=>W.cell? ⟨bx,1,aB⟩=aC (ν xb)) (first|(with_reducible assumption)) (first|(go_at_call 49;with_reducible refine tz (Ej (aF.wrap ((j:Int)+1)) _) ?_;rintro e wd ⟨rfl,iO⟩;have ru:β wc wd:=jy (by with_reducible assumption) (iO.mono (gV (by with_reducible assumption)));have hcb:=fL.o _ ru)|(go_at_call 48;with_reducible refine tz (Kv.o _ (by with_reducible assumption)) ?_;rintro e we ⟨rfl,Vy,Vv⟩))
      all_goals
       have HIE:=η Vy;clear Vy Vv iO ru hcb bP hdd fL Kv;go_wp2_with fail
       go_roundw
       case rel=>exact⟨j+1,by omega,by go_num,HIE⟩
       case measure=>simp [af];omega
    obtain rfl:j=k:=by omega
    have zE:Hid (fV D=nU D j++gY 5 0 3 0 D.x.line++gY 6 0 4 0 D.x.bV):=η (by unfold fV;rw [hM]);have Fx:Hid (aA (nU D j)<=400):=η (by rw [a3A];omega);have ZA:=η (λW v (h:uA w lb v (nU D j) W)=>Ps w lb v (nU D j) 5 0 3 0 D.x.line W h HP.o.li.1 HP.o.li.2 (by have:=Fx.o;omega));have oY:=η (λW v (h:uA w lb v (nU D j++gY 5 0 3 0 D.x.line) W)=>Ps w lb v _ 6 0 4 0 D.x.bV W h HP.o.ca.1 HP.o.ca.2 (by rw [cN];have:=Fx.o;simp [gY];omega));rw [<-zE.o] at oY;have c3:=(HC.o _ HI.o.bl).c3;have aGH:=(HF.o.below HI.o.bl).lt;clear JM zE;go_upto_region 20 with (go_at_call 48;refine(ZA.o _ v HI.o).mono ?_;rintro e w3 ⟨rfl,v3,ry,_⟩;have qQ:=η ry;clear ry)
    have c4:=(HC.o _ qQ.o.bl).c4;have aGI:=(HF.o.below qQ.o.bl).lt;clear c3 aGH HI;go_upto_region 21 with (go_at_call 48;refine(oY.o _ v3 qQ.o).mono ?_;rintro e w4 ⟨rfl,v4,vX,_⟩;have wS:=η vX;clear vX)
    have pj:=η (cu.bZ HF.o wS.o.bl);clear c4 aGI qQ ZA oY;have aGJ:=pj.o.at.lt;have c14:=pj.o.at.cells.c14;have f14:w4.frozen? ⟨db,14,aB⟩=aP:=by have hb:=pj.o.at.blk;simp [iK,hb]
    go_upto_region 22 with (fail)
    obtain⟨A4,k4,hv4⟩:=bL wS.o.own;subst hv4;have ou:=η (pj.o.trans (pj.o.at.aFH aO));have aGb:lb≠db:=by rintro rfl;have:=pj.o.at.blk.symm.trans wS.o.blk;simp at this
    have cd:(w4.setCell ⟨db,14,aB⟩ (bJ aO)).heap[lb]? =aC (aK #[aH A4 (aA (fV D)) k4] 101 (0,0)):=(nK _ _ _ _ aGb).trans wS.o.blk;have ez:Hid ((w4.setCell ⟨db,14,aB⟩ (bJ aO)).ownsRow w.heap.size 103 4 (aH A4 (aA (fV D)) k4) (aA (fV D)) (qo (fV D))):=η (kK wS.o.own (gP wS.o.own pj.o.at.blk (by decide)) _);have cV:=η cd;have BA:Hid (w.heap.size<=lb):=η wS.o.lo;clear cd wS pj c14 f14 aGJ;generalize w4.setCell ⟨db,14,aB⟩ (bJ aO)=w5 at*;have NB:lb<w5.heap.size:=(fX.1 cV.o).1;have yE:Hid (∀W,β w5 W->W.cell? ⟨db,8,aB⟩=aC (π p.vb)/\W.cell? ⟨lb,0,aB⟩=aC (aH A4 (aA (fV D)) k4)):=η (λW hW=>⟨(ou.o.at.below hW).cells.c8,bH _ _ _ _ _ (0,0) ((hW.block lb NB).trans cV.o)⟩);have dQ:Hid (fY {D with en:=aO}):=η ⟨HP.o.ok.lI,HP.o.ok.hl,HP.o.ok.wl,HP.o.ok.gl,HP.o.ok.ob,HP.o.ok.bl,HP.o.ok.st⟩;have ZI:Hid (∀x∈fV D,x.ok):=η (aFL HP.o);have ZH:Hid (aA (fV D)<=1000):=η (by unfold fV;rw [cN,cN,hM];have:=Fx.o;simp [gY];omega);have Zq:Hid (∀W,β w5 W->aQ aM 50 #[π p.vb,aH A4 (aA (fV D)) k4] W λe W'=>e=aT (ν ee)/\aq db p (ME D) W W'/\W'.cell? ⟨db,8,aB⟩=aC (π p.vb)/\W'.cell? ⟨lb,0,aB⟩=aC (aH A4 (aA (fV D)) k4)):=η (λW hW=>by
     have HH:=ou.o.at.below hW;refine(YW p.vb p.vp (aA D.x.ms) (aA D.x.ss+1) (aA D.x.ms) D.l D.h (fV D) A4 k4 W HH.vt (aW.cA (gh ez.o hW)) ZI.o dQ.o.lI (by have:=dQ.o.hl;simp only at this;omega) (by have:=ZH.o;omega)).mono ?_;intro e W' h;obtain⟨q1,q2⟩:=HH.moved h;have hn:¬eW db p lb:=λh=>by have h1:=HF.o.tW h;have h2:=BA.o;omega
     obtain⟨_,r1⟩:=yE.o W hW;have r2:=(q2.cell 0 (cP NB hW.size) hn).trans r1;obtain⟨p3,H3,f1,f2,f3,f4,qN,hs3⟩:=q2;exact⟨by rw [HE.o,<-hM];exact q1,⟨p3,H3,f1,f2,f3,f4,qN,hs3⟩,by rw [<-f1];exact H3.cells.c8,r2⟩)
    have bP:β w5 w5.drew:=(aX _ _).drew;have hdd:=yE.o _ bP;clear dQ ZI ZH ez Fx;go_region_held3 (λW=>W.cell? ⟨db,8,aB⟩=aC (π p.vb)/\W.cell? ⟨lb,0,aB⟩=aC (aH A4 (aA (fV D)) k4)) (first|(with_reducible assumption)) ((go_at_call 50;with_reducible refine tz (Zq.o _ (by with_reducible assumption)) ?_;rintro e w6 ⟨rfl,hpt,WO⟩))
    obtain⟨p6,q6,_⟩:=(ou.o.below bP).then hpt;have ow:=η q6;clear q6 hpt WO bP hdd Zq yE ou;go_wp2_with fail
    go_ret;exact⟨rfl,by rw [HW.o];exact ow.o.p⟩
section
theorem a8U {w:aJ} {ops:Array Oper} {rest:List Oper} {o:Oper} {a:Act} {Q:Exit->Act->aJ->Prop}(hgd:o.guard=aB)(s x:Operand)
 (ho:o.op= .call {callee:= .builtin .append,args:= #[s,x],argTypes:= #[39,39]}) (base:Nat)
 (v:aN) (n:Nat) (xs:List aN) (hs:a.eval s=v) (hown:w.ownsRow base 76 3 v n xs)
 (A:Option aj) (c:Nat) (L:List Lg) (hx:a.eval x=aH A (aA L) c) (hz:sq w A c L) (hlen:n+aA L<=1000000) (hbase:base<=w.heap.size)
 (h:∀v' w',w'.ownsRow base 76 3 v' (n+aA L) (xs++bA L)->w.grownBy w' v.ownBlock->(v'.ownBlock=v.ownBlock\/v'.ownBlock=aC w.heap.size)->wpList aM ops Q rest (a.put o.dst v') w'):wpList aM ops Q (o::rest) a w:=by
 obtain⟨i0,bu,hz0,hz1,hz2⟩:=dJ NL;cases A with
 |none=>
  obtain⟨h1,rfl⟩:=hz.nil rfl;obtain rfl:L= []:=nO h1;refine wpList_append_own_none hgd s x 39 ho base 76 i0 3 tE bu v n xs hs hown hx (h v w (by simpa [bA] using hown) ⟨rfl,rfl,rfl,aa _,λ_ _ _=>rfl⟩ (.inl rfl))
 |some ad=>
  refine wpList_append_own_at w hgd s x 39 ho base 76 i0 _ 3 24 tE bu hz0 hz1 hz2 rfl (by decide) v n xs hs hown ad (aA L) c (bA L) hx (a5O L) ?_ (a5P L) (by simp only [bM];omega) (by omega) hbase ?_
  ·intro j u hu;obtain⟨b,o',e,_,hc⟩:=hz.dt j u hu;have e:=pF e;subst e;have ea:(⟨b,o',aB⟩:aj).add j=⟨b,o'+j,aB⟩:=by unfold Addr.add;split<;>simp_all
   rw [ea];exact hc
  intro v' w' h1 h2 _ h4;exact h v' w' h1 h2 h4
def TL:List bY:= [76,39]
theorem bW.far {w w':aJ} {db:Nat} {p:Dp} {D:Dk}(H:bW w db p D) {S:Nat->Prop}(hu:bC S w w')(hS:∀k,S k->Ty w TL k):bW w' db p D:=by
 have no:∀ {T:List bY} {k:Nat},Ty w T k->(∀t∈T,t∉TL)->¬S k:=λhk hd hs=>hk.apart (hS _ hs) hd
 exact⟨(hu.keep db H.lt (no H.ty (by decide))).trans H.blk,H.cf.upd hu (λk hk=>no hk (by decide)),H.vt.upd hu (λk hk=>no (H.vt.ty hk) (by decide)),H.sh.upd hu (λk hk=>no hk (by decide)),H.bx.upd hu (λk hk=>no hk (by decide)),H.E6.upd hu (λk hk=>no hk (by decide)),H.same,hu.own H.who (λk hk=>no (Ty.own H.who hk) (by decide)),hu.own H.log (λk hk=>no (Ty.own H.log hk) (by decide))⟩
theorem cu.far {w wr w':aJ} {db:Nat} {p pk:Dp} {D:Dk}(hq:cu db p pk D w wr) {S:Nat->Prop}(hu:bC S wr w')(hS:∀k,S k->Ty wr TL k)(hn:∀k,S k->w.heap.size<=k):cu db p pk D w w':=by obtain⟨H,e1,e2,e3,e4,tU,vh⟩:=hq;refine⟨H.far hu hS,e1,e2,e3,e4, ?_,vh⟩;exact tU.trans hu (λk hk=> .inr (hn k hk))
structure mn(w:aJ)(db:Nat)(pk:Dp)(gb:Nat)(cs:List aN)(GS:List (List Lg))(lv:aN)(LK:List Lg)(wr:aJ):Prop where
 BZ:wr.heap[gb]? =aC (aK cs.toArray 39 (0,0))
 K3:¬eW db pk gb
 MO:w.heap.size<=gb
 len:aA cs=aA GS
 each:∀j (h:j<aA GS),∃A c,cs[j]? =aC (aH A (aA (GS[j])) c)/\iJ db pk wr A (bA GS[j])/\(bA GS[j]≠ []->∀q,A=aC q->q.block≠gb/\lv.ownBlock≠aC q.block)
 own:wr.ownsRow w.heap.size 76 3 lv (aA LK) (bA LK)
 NT:∀k,lv.ownBlock=aC k->¬eW db pk k
section
variable {w wr w':aJ} {db:Nat} {pk:Dp} {gb:Nat} {cs:List aN} {GS:List (List Lg)} {lv:aN} {LK:List Lg} (H:mn w db pk gb cs GS lv LK wr)
include H
theorem mn.yU:gb<wr.heap.size:=(fX.1 H.BZ).1
theorem mn.step {p':Dp} {D':Dk}(hq:cu db pk p' D' wr w'):mn w db p' gb cs GS lv LK w':=by
 have hq':=hq;obtain⟨_,_,_,_,_,hu,hs⟩:=hq;refine⟨(hu.keep gb H.yU H.K3).trans H.BZ,λh=> ?_,H.MO,H.len,λj h=> ?_,hu.own H.own H.NT,λk hk h=> ?_⟩
 ·rcases hs _ h with h1|h1
  ·exact H.K3 h1
  have:=H.yU;omega
 ·obtain⟨A,c,h1,h2,h3⟩:=H.each j h;exact⟨A,c,h1,h2.step hq',h3⟩
 rcases hs _ h with h1|h1
 ·exact H.NT k hk h1
 have:=(H.own.lt k hk).2;omega
theorem mn.below(hb:aY wr.heap.size wr w'):mn w db pk gb cs GS lv LK w':=by refine⟨(hb.block gb H.yU).trans H.BZ,H.K3,H.MO,H.len,λj h=> ?_,gh H.own hb,H.NT⟩;obtain⟨A,c,h1,h2,h3⟩:=H.each j h;exact⟨A,c,h1,h2.below hb,h3⟩
theorem mn.cell {j:Nat}(h:j<aA GS):∃A c,wr.cell? ⟨gb,j,aB⟩=aC (aH A (aA (GS[j])) c)/\iJ db pk wr A (bA GS[j]):=by obtain⟨A,c,h1,h2,_⟩:=H.each j h;refine⟨A,c, ?_,h2⟩;rw [bH wr gb j _ _ (0,0) H.BZ];simpa using h1
theorem mn.ngl:lv.ownBlock≠aC gb:=gP H.own H.BZ (by decide)
theorem mn.put {j:Nat}(hj:j<aA GS) {A:Option aj} {c:Nat} {G:List Lg} {w0:aJ}(ho:oA db pk w0 wr A c G)(hg:gb<w0.heap.size)(hl:∀k,lv.ownBlock=aC k->k<w0.heap.size):mn w db pk gb (cs.set j (aH A (aA G) c)) (GS.set j G) lv LK (wr.setCell ⟨gb,j,aB⟩ (aH A (aA G) c)):=by
 have hb:∀k,k≠gb->(wr.setCell ⟨gb,j,aB⟩ (aH A (aA G) c)).heap[k]? =wr.heap[k]? :=λk hk=>nK _ _ _ _ hk
 have hsz:(wr.setCell ⟨gb,j,aB⟩ (aH A (aA G) c)).heap.size=wr.heap.size:=by simp
 have Di:∀ {B:Option aj} {xs:List aN},iJ db pk wr B xs->(xs≠ []->∀q,B=aC q->q.block≠gb)->iJ db pk (wr.setCell ⟨gb,j,aB⟩ (aH A (aA G) c)) B xs:=by intro B xs h1 h2;refine⟨?_,h1.o⟩;rw [hsz];intro i u hu;obtain⟨b,o,e,hb',hc⟩:=h1.dt i u hu;refine⟨b,o,e,hb', ?_⟩;rw [<-hc];exact gu (a:=⟨b,o+i,aB⟩) (hb b (h2 (by rintro rfl;simp at hu) _ e))
 refine⟨?_,H.K3,H.MO,by rw [yL,yL];exact H.len,λi hi=> ?_,kK H.own H.ngl _,H.NT⟩
 ·rw [lu H.BZ j _];simp
 rw [yL] at hi;by_cases qy:j=i
 ·subst qy;refine⟨A,c,by rw [List.getElem?_set];simp [H.len,hi], ?_, ?_⟩
  ·rw [a0G];exact Di ho.o (λ_ q hq e=>by have:=ho.new q hq;omega)
  rw [a0G];exact λ_ q hq=>⟨λe=>by have:=ho.new q hq;omega,λe=>by have h1:=ho.new q hq;have h2:=hl _ e;omega⟩
 obtain⟨B,d,h1,h2,h3⟩:=H.each i hi;refine⟨B,d,by rw [List.getElem?_set,ifN qy];rw [a0F qy];exact h1, ?_, ?_⟩
 ·rw [a0F qy];exact Di h2 (λhx q hq=>(h3 hx q hq).1)
 rw [a0F qy];exact h3
theorem mn.more {yh:aN} {K:List Lg} {n:Nat}(hn:n=aA (LK++K))(ho:w'.ownsRow w.heap.size 76 3 yh n (bA (LK++K)))(hg:wr.grownBy w' lv.ownBlock)(ha:yh.ownBlock=lv.ownBlock\/yh.ownBlock=aC wr.heap.size)(hlt:∀k,eW db pk k->k<wr.heap.size):mn w db pk gb cs GS yh (LK++K) w':=by
 subst hn;refine⟨(hg.block gb H.yU (λe=>H.ngl e.symm)).trans H.BZ,H.K3,H.MO,H.len,λj h=> ?_,ho,λk hk h=> ?_⟩
 ·obtain⟨A,c,h1,h2,h3⟩:=H.each j h;refine⟨A,c,h1,⟨?_,h2.o⟩,λhx q hq=>⟨(h3 hx q hq).1,λe=> ?_⟩⟩
  ·intro i u hu;obtain⟨b,o,e,hb,hc⟩:=h2.dt i u hu;refine⟨b,o,e,cP hb hg.size, ?_⟩;rw [<-hc];have hx:bA GS[j]≠ []:=by intro e0;rw [e0] at hu;simp at hu
   exact gu (a:=⟨b,o+i,aB⟩) (hg.block b hb (λe'=>(h3 hx _ e).2 e'.symm))
  rcases ha with ha|ha
  ·rw [ha] at e;exact(h3 hx q hq).2 e
  rw [ha] at e;injection e with e;have:=a7H h2.dt hx q hq;omega
 rcases ha with ha|ha
 ·exact H.NT k (ha▸hk) h
 rw [ha] at hk;injection hk with hk;have:=hlt k h;omega
theorem mn.upd {n:Nat} {D:Dk} {p:Dp}(hq:cu db p pk D w wr)(hg:wr.grownBy w' lv.ownBlock):cu db p pk D w w':=
 hq.far (S:=λk=>lv.ownBlock=aC k) (bC.IZ hg (λk hk=> .inl hk)) (λk hk=>(Ty.own H.own hk).mono (by decide)) (λk hk=>(H.own.lt k hk).1)
theorem mn.a8J {D:Dk} {p:Dp}(hq:cu db p pk D w wr)(j:Nat)(u:aN):cu db p pk D w (wr.setCell ⟨gb,j,aB⟩ u):=
 hq.far (S:=λk=>k=gb) ((bC.refl (λk=>k=gb) wr).setCell (p:=⟨gb,j,aB⟩) (.inl rfl) u) (λk hk=>⟨_,_,by decide,hk▸H.BZ⟩) (λk hk=>hk▸H.MO)
end
end
inductive wH(D:Dk):Nat->Dk->Prop
 |zero:wH D 0 D
 |succ {n:Nat} {E E':Dk}:wH D n E->J0 E ((n:Int)+1) E'->wH D (n+1) E'
def hands(E:Dk):Nat->Dk
 |0=>E
 |n+1=>Ez (hands E n) ((n:Int)+1)
def rq(E:Dk)(N:Nat):Nat->List (List Lg)
 |0=>gR (N+1) []
 |k+1=>(rq E N k).set (k+1) (jX (hands E k) ((k:Int)+1))
def iX(E:Dk):Nat->List Lg
 |0=> []
 |k+1=>iX E k++oI (hands E k) ((k:Int)+1)
theorem aG0(E:Dk)(N k:Nat):aA (rq E N k)=N+1:=by
 induction k with
 |zero=>simp [rq]
 |succ k ih=>unfold rq;rw [yL];exact ih
def FY(GS:List (List Lg))(lost:List Lg)(E:Dk)(x:Ob):Dk:= {E with ob:=lW x.m x.a (sL x.a (-x.az) (ofV x.m (GS.getD x.a.toNat [])) (decide (ofV x.m lost>0))) (Bp (-x.az) (ofV x.m (GS.getD x.a.toNat []))) E.ob}
def sK(GS:List (List Lg))(lost:List Lg)(E:Dk)(L:List Ob):Dk:=L.foldl (FY GS lost) E
theorem aHt {GS:List (List Lg)} {lost:List Lg} {E:Dk} {L:List Ob} {k:Nat}(h:k<aA L):sK GS lost E (L.take (k+1))=FY GS lost (sK GS lost E (L.take k)) L[k]:=by rw [fF h];unfold sK;rw [List.foldl_append];rfl
def tM(D:Dk):List Ob:=D.ob.filter λx=>x.st==1&&(λx=>decide (x.az<0)) x
def nu(E:Dk):Dk:=hands E (aA E.x.ss)
def pV(E:Dk):List Lg:=iX E (aA E.x.ss)
def eV(E:Dk):Dk:=Ie (nu E) (pV E)
def tq(E:Dk):List (List Lg):=(rq E (aA E.x.ss) (aA E.x.ss)).set 0 (j8 (nu E) (pV E))
def CC(E:Dk):List Lg:=mY (nu E) (pV E)
def iu(E:Dk):Dk:=sK (tq E) (CC E) (eV E) (tM (eV E))
def Nk(E:Dk):Dk:=leaveD (iu E) ((iu E).x.ss.length+1)
def pU(E:Dk):Dk:= {Nk E with bx:= [],st:=0}
def Jj(D D':Dk):Prop:=(D.st≠2/\D'=D)\/(D.st=2/\∃E,wH D (aA D.x.ss) E/\D'=pU E)
def Ik(D:Dk):Int:=if D.st=2 then 0 else 11
structure Ov(D:Dk)(s:Int):Prop where
 b:aL (balA (aA D.x.ms) (aA D.x.ss+1) D.l 1 0 s)
 O:∀k,k<=aA (jX D s)->fY (iz D ((jX D s).take k))
 I:∀x∈jX D s,aL x.m/\aL x.a/\aL x.n/\0<=x.n
 l:aA (jX D s)<=80000
 g:(iz D (jX D s)).log.length+aA (oI D s)<=90000
 k:aA (oI D s)<=400
structure a0Q(E:Dk):Prop where
 sl:aA E.x.ss<=1000
 hand:∀k,k<aA E.x.ss->Ov (hands E k) ((k:Int)+1)
 lk:∀k,k<=aA E.x.ss->aA (iX E k)<=400
 pay:P8 (nu E) (pV E)
 ol:(eV E).ob.length<=1024
 cl:∀x∈tM (eV E),0<=x.a/\x.a<((aA E.x.ss+1:Nat):Int)/\aL x.az/\fw<x.az
 mO:∀k,k<=aA (tM (eV E))->fY (sK (tq E) (CC E) (eV E) ((tM (eV E)).take k))
 gl:∀G∈tq E,aA G<=100000
 ll:aA (CC E)<=100000
 vO:∀k,k<=(iu E).x.ss.length+1->fY (leaveD (iu E) k)
 vI:∀k,k<=(iu E).x.ss.length->aL (balA (iu E).x.ms.length ((iu E).x.ss.length+1) (leaveD (iu E) k).l 1 0 (k:Int))
 vs:(iu E).x.ss.length<=100000
structure UL(D:Dk):Prop where
 sl:aA D.x.ss<=1000
 Pf:∀n E,n<aA D.x.ss->wH D n E->Sc E ((n:Int)+1)
 rest:∀E,wH D (aA D.x.ss) E->a0Q E
theorem oA.a7J {db:Nat} {p:Dp} {w0 wr:aJ} {A:Option aj} {c:Nat} {L:List Lg}(h:oA db p w0 wr A c L) {gb:Nat}(hg:gb<w0.heap.size)(j:Nat)(u:aN):oA db p w0 (wr.setCell ⟨gb,j,aB⟩ u) A c L:=by
 refine⟨⟨?_,h.o.o⟩,h.new,h.nil⟩;have hsz:(wr.setCell ⟨gb,j,aB⟩ u).heap.size=wr.heap.size:=by simp
 rw [hsz];intro i v hv;obtain⟨b,o,e,hb,hc⟩:=h.o.dt i v hv;refine⟨b,o,e,hb, ?_⟩;rw [<-hc];exact gu (a:=⟨b,o+i,aB⟩) (nK _ _ _ _ (λe'=>by have h1:w0.heap.size<=b:=h.new _ e;simp only at e';omega))
theorem aHn(n:Nat):madeCells (aH aB 0 0).cells n=lH n (aH aB 0 0):=by apply Array.toList_inj.1;have e:(aH aB 0 0).cells= #[aH aB 0 0]:=rfl;rw [e,toList_madeCells_one];simp
theorem aHp(n:Nat)(hn:n<=100000)(W:aJ):(Ox 124 (aG aF (n:Int)) (aG aF (n:Int))).run aM W= .ok (aH (aC ⟨W.heap.size,0,aB⟩) n n) (W.alloc (aK (lH n (aH aB 0 0)) 39)):=by
 have inf:(aM.info? 39).map (λi=>(i.zero,i.size,i.bytes))=aC (aC (aH aB 0 0),1,24):=by kernel_rfl
 obtain⟨i0,hi,hz0,hz1,hz2⟩:=dJ inf;have h:=run_makeSlice (P:=aM) W 124 39 i0 _ underlying124 hi hz0 aF aF n n (by omega) (dM _) (by rw [hz1];simp;omega) (by rw [hz2];simp;omega) (by omega);rw [hz1] at h;simp only [Int.toNat_natCast,Nat.mul_one] at h;rw [aHn] at h;exact h
theorem aHq(n:Nat)(hn:n<=10000)(W:aJ):(Ox 124 (aG aF ((n:Int)+1)) (aG aF ((n:Int)+1))).run aM W= .ok (aH (aC ⟨W.heap.size,0,aB⟩) (n+1) (n+1)) (W.alloc (aK (lH (n+1) (aH aB 0 0)) 39)):=by have h:=aHp (n+1) (by omega) W;rw [show (((n+1:Nat):Int))=(n:Int)+1 from by omega] at h;exact h
theorem bW.cleared {w:aJ} {db:Nat} {p:Dp} {D:Dk}(H:bW w db p D)(h:jA (w.setCell ⟨p.xb,8,aB⟩ (aH aB 0 0)) p.xb p.xc (aH aB 0 0) []):aq db p {D with bx:= []} w (w.setCell ⟨p.xb,8,aB⟩ (aH aB 0 0)):=
 H.boxed h ((bC.refl _ _).setCell (p:=⟨p.xb,8,aB⟩) (.inl (.inl rfl)) _) (λk hk=>by simp [dy] at hk)
theorem a2b(db:Nat)(p:Dp)(D:Dk)(w:aJ)(H:bW w db p D)(hP:D.st=2->UL D):
 aQ aM 29 #[bF (aC ⟨db,0,aB⟩)] w λe w'=>e=aT (aG aF (Ik D))/\∃D',Jj D D'/\aq db p D' w w':=by
 have hb0:aY w.heap.size w (w.alloc (aK #[aG aF 2] 3)):=(aX _ _).alloc (aa _) _;have jR:=η (Ju db p D 2 (aC ⟨w.heap.size,0,aB⟩) 1 _ (H.below hb0) (λj u hu=>⟨w.heap.size,0,rfl,by simp,by
  match j,hu with
  |0,hu=>exact(cL w #[aG aF 2] 3 0 rfl).trans (by simpa using hu)
  |j+1,hu=>simp at hu⟩))
 have HF:=η H;have aZ:=η hb0;clear hb0 H;by_cases h1:D.st=2
 case neg=>
  have e2:Ik D=11:=by unfold Ik;rw [ifN h1]
  have HR:Hid (Jj D D):=η (.inl ⟨h1,rfl⟩);rw [ifN h1] at jR;rw [e2];clear h1 e2 hP;go_enter aB0,aBl
  go_wp2_with (go_at_call 51;refine jR.o.mono ?_;rintro e w1 ⟨rfl,hb1⟩;have aR:=τ aZ hb1;clear hb1)
  go_ret;exact⟨rfl,D,HR.o,aq.bZ HF.o aR.o⟩
 have HP:=η (hP h1);have e2:Ik D=0:=by unfold Ik;rw [ifP h1]
 have HR:Hid (∀E,wH D (aA D.x.ss) E->Jj D (pU E)):=η (λE h=> .inr ⟨h1,E,h,rfl⟩);rw [ifP h1] at jR;rw [e2];have jK:aA D.x.ss<=1000:=HP.o.sl;clear h1 e2 hP;go_enter aB0,aBl
 go_upto_region 4 with (go_at_call 51;refine jR.o.mono ?_;rintro e w1 ⟨rfl,hb1⟩;have aR:=τ aZ hb1;clear hb1)
 clear jR aZ;have ie:Hid (∃E,wH D 0 E/\cu db p p E w w1):=η ⟨D,.zero,cu.bZ HF.o aR.o⟩;have xP:=(HF.o.below aR.o).lt;have c1:=(HF.o.below aR.o).cells.c1;clear HF aR;generalize hN:aA D.x.ss=N at*;go_upto_region 5 with (fail)
 clear c1 xP;go_loopw [4,27] (λ_ i wr=>∃(k:Nat) (pk:Dp),k<=N/\i=aG aF (k:Int)/\Hid (∃E,wH D k E/\cu db p pk E w wr)) (λ_ i _=>N-(af i).toNat)
 case atStart=>exact⟨0,p,bK _,rfl,ie⟩
 case round=>
  clear ie;obtain⟨k,pk,hk,rfl,HQ⟩:=hrel;by_cases hlt:k<N
  ·have eY:(0:Int)<=(k:Int):=by omega
   have hkb:(k:Int)<(N:Int):=by omega
   have Kt:Hid (aQ aM 70 #[bF (aC ⟨db,0,aB⟩),aG aF ((k:Int)+1)] wr λe w'=>e=aT (bB #[])/\∃p',∃E,wH D (k+1) E/\cu db p p' E w w'):=η (by obtain⟨E,hE,hq⟩:=HQ.o;refine(aEr db pk E ((k:Int)+1) wr hq.at (HP.o.Pf k E (by rw [hN];exact hlt) hE)).mono ?_;rintro e w' ⟨h1,E',h2,h3⟩;obtain⟨p',h4,_⟩:=hq.then h3;exact⟨h1,p',E',.succ hE h2,h4⟩);go_wp2_with (go_at_call 70;refine Kt.o.mono ?_;rintro e w2 ⟨rfl,p2,h2⟩;have lR:=η h2;clear h2)
   go_roundw
   case rel=>exact⟨k+1,p2,by omega,by go_num,lR⟩
   case measure=>simp [af];omega
  obtain rfl:k=N:=by omega
  obtain⟨E,hE,hq⟩:=HQ.o;have BC:=η hq;have Tj:=η (HR.o E (by rw [hN] at*;exact hE));have dQ:=η (HP.o.rest E (by rw [hN];exact hE));clear hE hq HQ HR HP hN hk hlt jK;have jK:aA E.x.ss<=1000:=dQ.o.sl;have xP:=BC.o.at.lt;have c1:=BC.o.at.cells.c1;have kO:Hid (∀k,k<=aA E.x.ss->aA (iX E k)<=400):=η dQ.o.lk;have OD:Hid (∀k,k<aA E.x.ss->Ov (hands E k) ((k:Int)+1)):=η dQ.o.hand;have mk:=aHq (aA E.x.ss) (by omega) wr;have hG0:rq E (aA E.x.ss) 0=gR (aA E.x.ss+1) []:=rfl;have B1:=η hG0;clear hG0;have L8:Hid (hands E 0=E):=η rfl;have LG:Hid (iX E 0= []):=η rfl;have yC:Hid (∀k,hands E (k+1)=Ez (hands E k) ((k:Int)+1)):=η (λ_=>rfl);have ZO:Hid (∀N k,rq E N (k+1)=(rq E N k).set (k+1) (jX (hands E k) ((k:Int)+1))):=η (λ_ _=>rfl);have Fy:Hid (∀k,iX E (k+1)=iX E k++oI (hands E k) ((k:Int)+1)):=η (λ_=>rfl);have TG:Hid (nu E=hands E (aA E.x.ss)):=η rfl;have OJ:Hid (pV E=iX E (aA E.x.ss)):=η rfl;have TB:Hid (tq E=(rq E (aA E.x.ss) (aA E.x.ss)).set 0 (j8 (nu E) (pV E))):=η rfl;have B7:Hid (∀k,aA (rq E (aA E.x.ss) k)=aA E.x.ss+1):=η (λk=>aG0 E _ k);generalize hM:aA E.x.ss=M at*;have lR:Hid (cu db p pk (hands E 0) w (wr.alloc (aK (lH (M+1) (aH aB 0 0)) 39))):=η (by rw [L8.o];exact BC.o.below ((aX _ _).alloc (aa _) _));have fZ:Hid (mn w db pk wr.heap.size (gR (M+1) (aH aB 0 0)) (rq E M 0) (aH aB 0 0) (iX E 0) (wr.alloc (aK (lH (M+1) (aH aB 0 0)) 39))):=η (by
   rw [B1.o,LG.o];refine⟨?_,λh=>by have:=BC.o.at.tW h;omega,BC.o.size,by simp,λj h=>⟨aB,0, ?_, ?_, ?_⟩,fh _ _ _ _,λk hk=>by simp [dy] at hk⟩
   ·rw [List.toArray_replicate];exact cO wr _
   ·have hj:j<M+1:=by simpa using h
    rw [List.getElem?_replicate,ifP hj,UE];rfl
   ·rw [UE];exact iJ.nil
   rw [UE];exact λh=>absurd rfl h)
  go_upto_region 9 with (fail)
  go_upto_region 10 with (fail)
  clear mk;generalize (wr.alloc (aK (lH (M+1) (aH aB 0 0)) 39))=w2 at*;obtain⟨gb,hgb⟩:∃gb,gb=wr.heap.size:=⟨_,rfl⟩;rw [<-hgb] at fZ ⊢;generalize gR (M+1) (aH aB 0 0)=cs0 at*;have xP:=lR.o.at.lt;have c1:=lR.o.at.cells.c1;rw [L8.o,hM] at c1;clear hgb B1 LG BC;go_upto_region 12 with (fail)
  clear c1 xP;have mj:Hid (∃cs,mn w db pk gb cs (rq E M 0) (aH aB 0 0) (iX E 0) w2):=η ⟨_,fZ.o⟩;clear fZ;go_loopw [6,7,8,9,49] (λlv _ _ _ i wr=>∃(k:Nat) (pk:Dp),k<=M/\i=aG aF (k:Int)/\Hid (cu db p pk (hands E k) w wr)/\Hid (∃cs,mn w db pk gb cs (rq E M k) lv (iX E k) wr)) (λ_ _ _ _ i _=>M-(af i).toNat)
  case atStart=>exact⟨0,pk,bK _,rfl,lR,mj⟩
  case round=>
   clear mj lR;obtain⟨k,pk,hk,rfl,HQ,uu⟩:=hrel;by_cases hlt:k<M
   ·have eY:(0:Int)<=(k:Int):=by omega
    have hkb:(k:Int)<(M:Int):=by omega
    obtain⟨cs,hi⟩:=uu.o;have HI:=η hi;clear hi uu;have EH:=η (OD.o k hlt);have ZP:=η (aEx db pk (hands E k) ((k:Int)+1) wr HQ.o.at EH.o.b EH.o.O EH.o.I EH.o.l EH.o.g (by have:=EH.o.k;omega));have a9J:=η (yC.o k);have a9H:=η (ZO.o M k);have a9M:=η (Fy.o k);have a9N:Hid (aA (iX E k)<=400):=η (kO.o k (by omega));have a9L:Hid (aA (oI (hands E k) ((k:Int)+1))<=400):=η EH.o.k;have TD:=η (B7.o k);clear EH;generalize jX (hands E k) ((k:Int)+1)=G at*;generalize oI (hands E k) ((k:Int)+1)=K at*;generalize Ez (hands E k) ((k:Int)+1)=E3 at*;go_upto_region 15 with (go_at_call 71;refine ZP.o.mono ?_;rintro e w3 ⟨A3,k3,B3,d3,p3,rfl,KI,nh,Be⟩;have JR:=η (HQ.o.trans KI);have qQ:=η (HI.o.step KI);have iT:=η nh;have Zf:=η Be;clear KI nh Be)
    clear ZP HQ;have qz:k+1<aA (rq E M k):=by rw [TD.o];omega
    have LB:=η qz;obtain⟨A9,n9,c9,g9⟩:∃A n c,w3.cell? ⟨gb,k+1,aB⟩=aC (aH A n c):=by obtain⟨A,c,h,_⟩:=qQ.o.cell qz;exact⟨A,_,c,h⟩
    have f9:w3.frozen? ⟨gb,k+1,aB⟩=aP:=by have hb:=qQ.o.BZ;simp [iK,hb]
    have N5:((k:Int)+1).toNat=k+1:=by omega
    have aGT:=qQ.o.yU;clear qz;go_upto_region 16 with (fail)
    have wS:=η (qQ.o.put LB.o iT.o HI.o.yU (λj hj=>(HI.o.own.lt j hj).2));have pj:=η (qQ.o.a8J JR.o (k+1) (aH A3 (aA G) k3));have TT:=η (Zf.o.a7J HI.o.yU (k+1) (aH A3 (aA G) k3));clear qQ JR Zf iT HI g9 f9 N5 aGT LB;generalize (w3.setCell ⟨gb,k+1,aB⟩ (aH A3 (aA G) k3))=w4 at*;go_wp2_with (at_builtin;refine a8U rfl _ _ rfl w.heap.size _ (aA (iX E k)) (bA (iX E k)) rfl wS.o.own B3 d3 K rfl ⟨TT.o.o.dt,TT.o.nil⟩ (by have:=a9N.o;have:=a9L.o;omega) pj.o.size ?_)
    intro yh w5 iW ej ha5;have JH:Hid (∃cs,mn w db p3 gb cs (rq E M (k+1)) yh (iX E (k+1)) w5):=η ⟨_,by rw [a9H.o,a9M.o];exact wS.o.more (n:=aA (iX E k)+aA K) (by simp) (by rw [show bA (iX E k++K)=bA (iX E k)++bA K from by simp [bA]];exact iW) ej ha5 (λj hj=>pj.o.at.tW hj)⟩;have ou:Hid (cu db p p3 (hands E (k+1)) w w5):=η (by rw [a9J.o];exact wS.o.upd (n:=0) pj.o ej);clear iW ej ha5 wS pj TT;go_wp2_with fail
    go_roundw
    case rel=>exact⟨k+1,p3,by omega,by go_num,ou,JH⟩
    case measure=>simp [af];omega
   obtain rfl:k=M:=by omega
   obtain⟨cs,hi⟩:=uu.o;obtain⟨Al,cl,hlv⟩:=bL hi.own;subst hlv;have HI:=η hi;have kG:=HI.o.yU;clear hi uu OD kO ZO Fy yC;have Ci:Hid (P8 (hands E k) (iX E k)):=η (by have h:=dQ.o.pay;rw [TG.o,OJ.o] at h;exact h);have EP:=η (aF6 db pk (hands E k) (iX E k) Al cl wr HQ.o.at (aW.cA HI.o.own) Ci.o);rw [<-TG.o,<-OJ.o] at EP;have hsp:eV E=Ie (nu E) (pV E):=rfl;have a4T:CC E=mY (nu E) (pV E):=rfl;rw [<-hsp,<-a4T] at EP;have TD:=η (B7.o k);have TR:Hid (aA (tq E)=k+1):=η (by rw [TB.o,yL];exact B7.o k);have uI:Hid ((eV E).ob.length<=1000000):=η (by have:=dQ.o.ol;omega);have eE:aA (pV E)=aA (iX E k):=by rw [OJ.o]
   rw [eE] at EP;clear Ci hsp a4T eE B7 L8;go_upto_region 19 with (go_at_call 72;refine EP.o.mono ?_;rintro e w6 ⟨A6,c6,B6,d6,p6,rfl,FK,hn6,hm6⟩;have ow:=η (HQ.o.trans FK);have wT:=η (HI.o.step FK);have wV:=η hn6;have JL:=η hm6;clear FK hn6 hm6)
   clear EP HQ;have qz:0<aA (rq E k k):=by rw [TD.o];omega
   have LB:=η qz;obtain⟨A9,n9,c9,g9⟩:∃A n c,w6.cell? ⟨gb,0,aB⟩=aC (aH A n c):=by obtain⟨A,c,h,_⟩:=wT.o.cell qz;exact⟨A,_,c,h⟩
   have f9:w6.frozen? ⟨gb,0,aB⟩=aP:=by have hb:=wT.o.BZ;simp [iK,hb]
   have aGU:=wT.o.yU;clear qz;go_upto_region 20 with (fail)
   have OE:Hid (∃cs,mn w db p6 gb cs (tq E) (aH Al (aA (iX E k)) cl) (iX E k) (w6.setCell ⟨gb,0,aB⟩ (aH A6 (aA (j8 (nu E) (pV E))) c6))):=η ⟨_,by rw [TB.o];exact wT.o.put LB.o wV.o HI.o.yU (λj hj=>(HI.o.own.lt j hj).2)⟩;have qW:=η (wT.o.a8J ow.o 0 (aH A6 (aA (j8 (nu E) (pV E))) c6));have OT:=η (JL.o.a7J HI.o.yU 0 (aH A6 (aA (j8 (nu E) (pV E))) c6));clear wT ow JL wV HI g9 f9 aGU LB TB;generalize (w6.setCell ⟨gb,0,aB⟩ (aH A6 (aA (j8 (nu E) (pV E))) c6))=w7 at*;have c9':=qW.o.at.cells.c9;have aGK:=qW.o.at.lt;have Sv:=η (aIT (eV E).ob p6.sv p6.sb 0 w7 qW.o.at.sh uI.o);have hce:((eV E).ob.filter λx=>x.st==1&&(λx=>decide (x.az<0)) x)=tM (eV E):=rfl;rw [hce] at Sv;have jY:aA (tM (eV E))<=100000:=by have h1:aA (tM (eV E))<=(eV E).ob.length:=qg _ _;have:=dQ.o.ol;omega
   have O4:Hid (∀x∈tM (eV E),0<=x.a/\x.a<((k+1:Nat):Int)/\aL x.az/\fw<x.az):=η (by have h:=dQ.o.cl;rw [hM] at h;exact h);have ux:Hid (∀j,j<=aA (tM (eV E))->fY (sK (tq E) (CC E) (eV E) ((tM (eV E)).take j))):=η dQ.o.mO;have OC:Hid (∀G∈tq E,aA G<=100000):=η dQ.o.gl;have kr:aA (CC E)<=100000:=dQ.o.ll;have mH:=η kr;have zG:Hid (iu E=sK (tq E) (CC E) (eV E) (tM (eV E))):=η rfl;have HVE:Hid (Nk E=leaveD (iu E) ((iu E).x.ss.length+1)):=η rfl;have Fw:Hid (pU E= {Nk E with bx:= [],st:=0}):=η rfl;have lQ:=η (λW p' (h:bW W db p' (iu E))=>aF0 db p' (iu E) W h dQ.o.vO dQ.o.vI dQ.o.vs);rw [<-HVE.o] at lQ;clear hce uI dQ kG hM TG OJ HVE kr;go_upto_region 21 with (go_at_call 73;refine Sv.o.mono ?_;rintro e w8 ⟨v8,rfl,Wf,kF⟩;obtain⟨A8,k8,Qw⟩:=bL Wf;subst Qw;have uH:=η (iJ.cA qW.o.at Wf);have oz:=η (qW.o.below kF);have OG:Hid (∃cs,mn w db p6 gb cs (tq E) (aH Al (aA (iX E k)) cl) (iX E k) w8):=η (Exists.imp (λ_ h=>mn.below h kF) OE.o);have Zg:=η (OT.o.below kF);clear Wf kF)
   clear Sv c9' aGK qW OE OT;generalize tq E=GS at*;generalize CC E=lost at*;generalize eV E=P2 at*;generalize tM P2=L at*;have dw:Hid (cu db p p6 (sK GS lost P2 (L.take 0)) w w8):=η oz.o;have lM:Hid (iJ db p6 w8 B6 (bA lost)):=η Zg.o.o;clear oz Zg;go_loopw [13,14,83] (λ_ _ i wr=>∃(j:Nat) (pk:Dp),j<=aA L/\i=aG aF (j:Int)/\Hid (cu db p pk (sK GS lost P2 (L.take j)) w wr)/\Hid (∃cs,mn w db pk gb cs GS (aH Al (aA (iX E k)) cl) (iX E k) wr)/\Hid (iJ db pk wr B6 (bA lost))/\Hid (iJ db pk wr A8 (fK L))) (λ_ _ i _=>aA L-(af i).toNat)
   case atStart=>exact⟨0,p6,bK _,rfl,dw,OG,lM,uH⟩
   case round=>
    clear dw OG lM uH;obtain⟨j,pk,hj,rfl,HQ,uu,OO,O5⟩:=hrel;by_cases hlt:j<aA L
    ·obtain⟨bl,ol,jn,hbl,l0,l1,l2,l3,l4,l5⟩:=vx O5.o.dt hlt;have yb:(0:Int)<=(j:Int):=by omega
     have hjb:(j:Int)<(aA L:Int):=by omega
     have HL:=η (aHt (GS:=GS) (lost:=lost) (E:=P2) hlt);have a9R:=η (ux.o j hj);have HX:=η (O4.o _ (cH hlt));obtain⟨cs,hi⟩:=uu.o;have HI:=η hi;clear hi uu;have mi:Hid (∀i,eW db pk i->i<wr.heap.size):=η (λi hi=>HQ.o.at.tW hi);subst jn;generalize sK GS lost P2 (L.take j)=E1 at*;generalize L[j]=x at*;obtain⟨xc,xm,xa,xn,xd,xs⟩:=x;simp only at l0 l1 l2 l3 l4 l5;obtain⟨na,hna⟩:∃na:Nat,xa=(na:Int):=⟨xa.toNat,by have h:0<=xa:=HX.o.1;omega⟩;subst hna;have pM:na<k+1:=by have h:(na:Int)<((k+1:Nat):Int):=HX.o.2.1;omega
     have We:na<aA GS:=by rw [TR.o];exact pM
     have HM1:Hid (FY GS lost E1 ⟨xc,xm,(na:Int),xn,xd,xs⟩= {E1 with ob:=lW xm (na:Int) (sL (na:Int) (-xn) (ofV xm GS[na]) (decide (ofV xm lost>0))) (Bp (-xn) (ofV xm GS[na])) E1.ob}):=η (by unfold FY;simp only [Int.toNat_natCast];rw [show GS.getD na []=GS[na] from by rw [tA,iE We];rfl]);obtain⟨Ag,cg,hgc,hgo⟩:=HI.o.cell We;have HGO:=η hgo;have ZM:=η hgc;have HGM:Hid (aA GS[na]<=100000):=η (OC.o _ (cH We));have hwn:aF.wrap (-xn)= -xn:=wF (by have h:aL xn/\fw<xn:=HX.o.2.2;unfold fw aL at*;omega);have ku:(0:Int)<=(na:Int):=by omega
     have mB:(na:Int)<(k:Int)+1:=by omega
     have yA:Hid (gb<wr.heap.size/\¬eW db pk gb):=η ⟨HI.o.yU,HI.o.K3⟩;clear hgc hgo HX;generalize GS[na]=Gn at*;have oX:Hid (aY wr.heap.size wr ((wr.alloc (aK #[aG aF xc,aG aF xm,aG aF (na:Int),aG aF xn,aG aF xd,aG aF xs] 59)).alloc (aK #[aG aF xm,aG aF (na:Int),aG aF (-xn)] 76))):=η (((aX _ _).alloc (aa _) _).alloc (by simp) _);have Oq:Hid (((wr.alloc (aK #[aG aF xc,aG aF xm,aG aF (na:Int),aG aF xn,aG aF xd,aG aF xs] 59)).alloc (aK #[aG aF xm,aG aF (na:Int),aG aF (-xn)] 76)).heap[wr.heap.size]? =aC (aK #[aG aF xc,aG aF xm,aG aF (na:Int),aG aF xn,aG aF xd,aG aF xs] 59 (0,0))):=η ((fG _ _ (by simp)).trans (cO wr _));have HY9:Hid (((wr.alloc (aK #[aG aF xc,aG aF xm,aG aF (na:Int),aG aF xn,aG aF xd,aG aF xs] 59)).alloc (aK #[aG aF xm,aG aF (na:Int),aG aF (-xn)] 76)).heap[wr.heap.size+1]? =aC (aK #[aG aF xm,aG aF (na:Int),aG aF (-xn)] 76 (0,0))):=η (Mj _ _ (by simp));have NC:wr.heap.size+1<((wr.alloc (aK #[aG aF xc,aG aF xm,aG aF (na:Int),aG aF xn,aG aF xd,aG aF xs] 59)).alloc (aK #[aG aF xm,aG aF (na:Int),aG aF (-xn)] 76)).heap.size:=by simp
     go_upto_region 23 with (fail)
     have e1:(wr.alloc (aK #[aG aF xc,aG aF xm,aG aF (na:Int),aG aF xn,aG aF xd,aG aF xs] 59)).cell? ⟨wr.heap.size,1,aB⟩=aC (aG aF xm):=bH _ _ _ _ _ (0,0) (cO wr _);have e2:(wr.alloc (aK #[aG aF xc,aG aF xm,aG aF (na:Int),aG aF xn,aG aF xd,aG aF xs] 59)).cell? ⟨wr.heap.size,2,aB⟩=aC (aG aF (na:Int)):=bH _ _ _ _ _ (0,0) (cO wr _);have e3:(wr.alloc (aK #[aG aF xc,aG aF xm,aG aF (na:Int),aG aF xn,aG aF xd,aG aF xs] 59)).cell? ⟨wr.heap.size,3,aB⟩=aC (aG aF xn):=bH _ _ _ _ _ (0,0) (cO wr _);go_upto_region 24 with (fail)
     clear e1 e2 e3 l0 l1 l2 l3 l4 l5;generalize ((wr.alloc (aK #[aG aF xc,aG aF xm,aG aF (na:Int),aG aF xn,aG aF xd,aG aF xs] 59)).alloc (aK #[aG aF xm,aG aF (na:Int),aG aF (-xn)] 76))=w9 at*;obtain⟨bx,bU⟩:∃bx,bx=wr.heap.size:=⟨_,rfl⟩;have dL:=η bU;rw [<-bU] at Oq HY9 NC ⊢;clear bU;have HF9:=η (HQ.o.at.below oX.o);have bX:Hid (¬eW db pk bx/\¬eW db pk (bx+1)):=η ⟨λh=>by have:=mi.o bx h;rw [dL.o] at this;omega,λh=>by have:=mi.o _ h;rw [dL.o] at this;omega⟩;obtain⟨gl,kG⟩:∃gl,gl=aA Gn:=⟨_,rfl⟩;have L5:=η kG;rw [<-kG] at ZM;have bO:Hid (∀W,aY w9.heap.size w9 W->W.cell? ⟨bx+1,0,aB⟩=aC (aG aF xm)/\W.cell? ⟨bx+1,1,aB⟩=aC (aG aF (na:Int))/\W.cell? ⟨bx+1,2,aB⟩=aC (aG aF (-xn))/\W.cell? ⟨bx,1,aB⟩=aC (aG aF xm)/\W.cell? ⟨bx,2,aB⟩=aC (aG aF (na:Int))/\W.cell? ⟨gb,na,aB⟩=aC (aH Ag gl cg)):=η (λW hW=>by have hd:=(hW.block bx (by omega)).trans Oq.o;have qx:=(hW.block (bx+1) NC).trans HY9.o;have hg:=(hW.cell (p:=⟨gb,na,aB⟩) (cP yA.o.1 oX.o.size)).trans ((oX.o.cell (p:=⟨gb,na,aB⟩) yA.o.1).trans ZM.o);exact⟨bH _ _ _ _ _ (0,0) qx,bH _ _ _ _ _ (0,0) qx,bH _ _ _ _ _ (0,0) qx,bH _ _ _ _ _ (0,0) hd,bH _ _ _ _ _ (0,0) hd,hg⟩);have cF:Hid (∀W,aY w9.heap.size w9 W->aQ aM 75 #[aH Ag gl cg,aG aF xm] W λe w'=>e=aT (aG aF (ofV xm Gn))/\aY W.heap.size W w'):=η (λW hW=>by rw [L5.o];exact a2Q Gn xm Ag cg W (((HGO.o.below oX.o).below hW).dt) HGM.o);have dE:Hid (∀W,aY w9.heap.size w9 W->aQ aM 75 #[aH B6 (aA lost) d6,aG aF xm] W λe w'=>e=aT (aG aF (ofV xm lost))/\aY W.heap.size W w'):=η (λW hW=>a2Q lost xm B6 d6 W (((OO.o.below oX.o).below hW).dt) mH.o);have rL:Hid (∀W,aY w9.heap.size w9 W->aQ aM 74 #[bF (aC ⟨db,0,aB⟩),bQ #[aG aF xm,aG aF (na:Int),aG aF (-xn)],aG aF (ofV xm Gn),bJ (decide (ofV xm lost>0))] W λe W'=>e=aT (bB #[])/\aq db pk {E1 with ob:=lW xm (na:Int) (sL (na:Int) (-xn) (ofV xm Gn) (decide (ofV xm lost>0))) (Bp (-xn) (ofV xm Gn)) E1.ob} W W'/\W'.cell? ⟨bx+1,0,aB⟩=aC (aG aF xm)/\W'.cell? ⟨bx+1,1,aB⟩=aC (aG aF (na:Int))/\W'.cell? ⟨bx+1,2,aB⟩=aC (aG aF (-xn))/\W'.cell? ⟨bx,1,aB⟩=aC (aG aF xm)/\W'.cell? ⟨bx,2,aB⟩=aC (aG aF (na:Int))/\W'.cell? ⟨gb,na,aB⟩=aC (aH Ag gl cg)):=η (λW hW=>by refine(aF2 db pk E1 xm (na:Int) (-xn) (ofV xm Gn) (decide (ofV xm lost>0)) W (HF9.o.below hW) a9R.o).mono ?_;rintro e W' ⟨q1,q2⟩;have hz:=cP NC hW.size;have hzg:=cP yA.o.1 (bz oX.o.size hW.size);obtain⟨r0,r1,r2,r3,r4,r5⟩:=bO.o W hW;exact⟨q1,q2,(q2.cell 0 hz bX.o.2).trans r0,(q2.cell 1 hz bX.o.2).trans r1,(q2.cell 2 hz bX.o.2).trans r2,(q2.cell 1 (by omega) bX.o.1).trans r3,(q2.cell 2 (by omega) bX.o.1).trans r4,(q2.cell na hzg yA.o.2).trans r5⟩);generalize ofV xm Gn=v1 at*;generalize ofV xm lost=v2 at*;clear kG;have bP:aY w9.heap.size w9 w9.drew:=(aX _ _).drew;have hdd:=bO.o _ bP;go_region_held3 (λW=>W.cell? ⟨bx+1,0,aB⟩=aC (aG aF xm)/\W.cell? ⟨bx+1,1,aB⟩=aC (aG aF (na:Int))/\W.cell? ⟨bx+1,2,aB⟩=aC (aG aF (-xn))/\W.cell? ⟨bx,1,aB⟩=aC (aG aF xm)/\W.cell? ⟨bx,2,aB⟩=aC (aG aF (na:Int))/\W.cell? ⟨gb,na,aB⟩=aC (aH Ag gl cg)) (first|(with_reducible assumption)) (first|(go_at_call 75;with_reducible refine tz (cF.o _ (by with_reducible assumption)) ?_;rintro e wa ⟨rfl,nB⟩;have yV:aY w9.heap.size w9 wa:=jy (by with_reducible assumption) (nB.mono (gV (by with_reducible assumption)));have qu:=bO.o _ yV)|(go_at_call 75;with_reducible refine tz (dE.o _ (by with_reducible assumption)) ?_;rintro e wb ⟨rfl,iO⟩;have ru:aY w9.heap.size w9 wb:=jy (by with_reducible assumption) (iO.mono (gV (by with_reducible assumption)));have hcb:=bO.o _ ru)|(go_at_call 74;refine(rL.o _ (by with_reducible assumption)).mono ?_;rintro e wc ⟨rfl,Dg,AB⟩))
     all_goals
      have Cg:Hid (aq db pk (FY GS lost E1 ⟨xc,xm,(na:Int),xn,xd,xs⟩) wr wc):=η (by rw [HM1.o];exact aq.trans (bC.bZ _ (oX.o.trans (Below.mono (by with_reducible assumption) oX.o.size))) (λ_ h=> .inl h) ⟨rfl,rfl,rfl,rfl⟩ Dg);obtain⟨pc,My,Qp⟩:=HQ.o.then Cg.o;have Tg:Hid (cu db p pc (sK GS lost P2 (L.take (j+1))) w wc):=η (by rw [HL.o];exact My);have TJ:Hid (∃cs,mn w db pc gb cs GS (aH Al (aA (iX E k)) cl) (iX E k) wc):=η ⟨_,HI.o.step Qp⟩;have HLC:=η (OO.o.step Qp);have Az:=η (O5.o.step Qp);clear Dg AB nB yV qu iO ru hcb bP hdd bO cF dE rL HQ HI OO O5 My Qp Cg;go_wp2_with fail
      go_roundw
      case rel=>exact⟨j+1,pc,by omega,by go_num,Tg,TJ,HLC,Az⟩
      case measure=>simp [af];omega
    obtain rfl:j=aA L:=by omega
    rw [cT,<-zG.o] at HQ;clear uu OO O5 ux O4 OC zG;go_upto_region 27 with (go_at_call 76;refine(lQ.o _ pk HQ.o.at).mono ?_;rintro e wa ⟨rfl,ha⟩;obtain⟨pa,Qn,_⟩:=HQ.o.then ha;have lS:=η Qn;clear ha Qn)
    have c10:=lS.o.at.cells.c10;have aGL:=lS.o.at.lt;have LZ:=η (aMA pa.xc pa.xv (Nk E).bx pa.xb wa lS.o.at.bx);have Z8:Hid (jA (wa.setCell ⟨pa.xb,8,aB⟩ (aH aB 0 0)) pa.xb pa.xc (aH aB 0 0) []->aq db pa {Nk E with bx:= []} wa (wa.setCell ⟨pa.xb,8,aB⟩ (aH aB 0 0))):=η (λh=>lS.o.at.cleared h);go_upto_region 28 with (go_at_call 77;refine LZ.o.mono ?_;rintro e wb ⟨rfl,rfl,bU⟩;obtain⟨pb,IE,_⟩:=lS.o.then (Z8.o bU);have Cj:=η IE;clear bU IE)
    clear LZ Z8 c10 aGL;generalize (wa.setCell ⟨pa.xb,8,aB⟩ (aH aB 0 0))=wb at*;have f13:wb.frozen? ⟨db,13,aB⟩=aP:=by have hb:=Cj.o.at.blk;simp [iK,hb]
    have c13:=Cj.o.at.cells.c13;have aMl:=Cj.o.at.lt;go_wp2_with fail
    go_ret;refine⟨rfl,pU E,Tj.o, ?_⟩;rw [Fw.o];exact(Cj.o.trans (Cj.o.at.S5 0)).p
section
def yT(x:Ev):Int:=if x.k=5\/x.k=10\/x.k=12 then x.n else if x.k=6\/x.k=13\/x.k=16\/x.k=19 then-x.n else 0
def my:List Ev->Int->Int
 | [],_=>0
 |x::l,a=>(if x.a=a then yT x else 0)+my l a
theorem DO(l r:List Ev)(a:Int):my (l++r) a=my l a+my r a:=by
 induction l with
 |nil=>simp [my]
 |cons x l ih=>grind [my]
theorem DR(e:Ev)(a:Int):my [e] a=if e.a=a then yT e else 0:=by simp [my]
def MH(S:Nat)(x:Ev):Prop:=0<=x.a/\x.a<=(S:Int)/\(1<=x.n\/x.k=4\/x.k=8)
structure Lh(S:Nat)(log:List Ev):Prop where
 ev:∀x∈log,MH S x
 pre:∀k a,0<=my (log.take k) a/\my (log.take k) a<=5000000000000000000
theorem Lh.snoc {S:Nat} {log:List Ev} {e:Ev}(h:Lh S log)(he:MH S e)(hp:∀a,0<=my (log++ [e]) a/\my (log++ [e]) a<=5000000000000000000):Lh S (log++ [e]):=by
 refine⟨λx hx=> ?_,λk a=> ?_⟩
 ·rcases gL.1 hx with hx|hx
  ·exact h.ev x hx
  grind
 by_cases hk:k<=aA log
 ·rw [a0J hk];exact h.pre k a
 grind [List.take_of_length_le]
theorem Gq {M A:Nat} {l:List Int} {k m a:Int}(h:plcA M A k m a=aB):balA M A l k m a=0:=by unfold balA;rw [h]
theorem Vw {h:List Hr} {k m a:Int}(hh:∀r∈h,r.s=8)(hk:k≠8):iP h k m a=0:=by
 suffices H:∀(h:List Hr) (n:Int),(∀r∈h,r.s=8)->h.foldl (λn r=>if r.s==k&&r.m==m&&r.a==a then fW (n+r.n) else n) n=n from H h 0 hh
 intro h;induction h with
 |nil=>intro n _;rfl
 |cons r h ih=>
  grind
structure Oy(M A:Nat)(C F:Int)(l:List Int):Prop where
 ok:nN M A l
 tN:∀m a,balA M A l 8 m a<=1099511627776
 zo:∀m a,balA M A l 9 m a<=F
 AL:∀a,balA M A l 3 0 a<=F
 cap:∀a,balA M A l 4 0 a<=F
 lo:∀m a,-C<=balA M A l 7 m a+balA M A l 8 m a-balA M A l 1 0 a
 hi:∀m a,balA M A l 7 m a+balA M A l 8 m a+balA M A l 1 0 a<=C
 es:∀a,balA M A l 2 0 a+balA M A l 1 0 a<=C
 big:C<=4611686018427387904+1125899906842624
 F0:F<=1099511627776
theorem nN.nn {M A:Nat} {l:List Int}(h:nN M A l) {k:Int}(hk:qJ k=aP)(m a:Int):0<=balA M A l k m a:=by
 cases hp:plcA M A k m a with
 |none=>grind [Gq]
 |some n=>exact h.pos k m a n hp hk
theorem Oy.wide {M A:Nat} {C C' F:Int} {l:List Int}(h:Oy M A C F l)(hc:C<=C')(hb:C'<=4611686018427387904+1125899906842624):Oy M A C' F l:=
 ⟨h.ok,h.tN,h.zo,h.AL,h.cap,λm a=>by have:=h.lo m a;omega,λm a=>by have:=h.hi m a;omega,λa=>by have:=h.es a;omega,hb,h.F0⟩
theorem RT {D:Dk} {fk fm tk tm a n:Int} {i j:Nat}(h:ug D fk fm tk tm a n=0)(hlen:aA D.l=(aA D.x.ss+1)*(6+3*aA D.x.ms))(hf:plcA (aA D.x.ms) (aA D.x.ss+1) fk fm a=aC i)(ht:plcA (aA D.x.ms) (aA D.x.ss+1) tk tm a=aC j)(k m b:Int):
 balA (aA D.x.ms) (aA D.x.ss+1) (bj D fk fm tk tm a n) k m b=balA (aA D.x.ms) (aA D.x.ss+1) D.l k m b+((if k=fk/\m=fm/\b=a then-n else 0)+(if k=tk/\m=tm/\b=a then n else 0)):=by
 cases hp:plcA (aA D.x.ms) (aA D.x.ss+1) k m b with
 |some z=>
  rw [aI8 h hlen hp];grind
 |none=>
  grind [Gq]
structure GK(x:ak):Prop where
 ml:2<=aA x.ms/\aA x.ms<=16
 sl:1<=aA x.ss/\aA x.ss<=8
 cl:aA x.cy<=4
 mI:∀y∈x.ms,(0<=y.a/\y.a<=1099511627776)/\0<=y.b/\y.b<=1099511627776
 sI:∀y∈x.ss,(1<=y.a/\y.a<=1048576)/\y.a<=y.b/\y.b<=1048576
 li:0<=x.line/\x.line<=1099511627776
 ca:0<=x.bV/\x.bV<=1099511627776
 bd:1<=x.bT/\x.bT<=32
structure Lv(M:Nat)(L:List Int):Prop where
 up:L.Pairwise (· < ·)
 pP:∀m∈L,1<=m/\m<=(M:Int)
theorem SR:∀ {L:List Int} {k:Nat} {lo:Int},L.Pairwise (· < ·)->(∀m∈L,lo<m/\m<=lo+(k:Int))->aA L<=k
 | [],k,_,_,_=>bK _
 |x::L,k,lo,h,hi=>by have hx:=hi x (by simp);rw [kf] at h;have:=SR (L:=L) (k:=k-1) (lo:=x) h.2 (λm hm=>⟨h.1 m hm,by grind⟩);grind
theorem Lv.len {M:Nat} {L:List Int}(h:Lv M L):aA L<=M:=SR (lo:=0) h.up (λm hm=>by have:=h.pP m hm;omega)
def dV(f:Ob->Int)(L:List Ob):Int:=(L.map f).sum
def qH(a:Int)(x:Ob):Int:=if x.st=1/\x.az<0/\x.a=a then-x.az else 0
def vN(a:Int)(x:Ob):Int:=if x.st=1/\0<x.az/\x.a=a then x.az else 0
def oF(a:Int)(x:Ob):Int:=if x.st=1/\0<x.az/\x.a=a then x.done else 0
def oD(m a:Int)(x:Ob):Int:=if x.st=1/\0<x.az/\x.m=m/\x.a=a then x.done else 0
structure Lk(M S:Nat)(ai:Int)(who:List Int)(x:Ob):Prop where
 m:1<=x.m/\x.m<=(M:Int)
 a:0<=x.a/\x.a<=(S:Int)
 big: -kU x.a<=x.az/\x.az<=kU x.a
 c:x.c<=ai
 st:1<=x.st/\x.st<=5
 a7K:x.st=2->x.done=x.size
 o:x.st=3->hasB who x.m=aO/\(x.az<0->x.done=0)/\(0<x.az->x.done<x.az)
 cmp:(x.st=4\/x.st=5)->x.az<0/\x.done< -x.az/\(x.st=4->x.a≠0)
def aIv(x y:Ob):Prop:=eZ x=aO->eZ y=aO->x.m<y.m\/(x.m=y.m/\x.a<y.a)
structure kg(M S:Nat)(ai:Int)(who:List Int)(L:List Ob):Prop where
 each:∀x∈L,Lk M S ai who x
 ok:∀x∈L,x.ok
 ord:L.Pairwise aIv
 cl:∀a,dV (qH a) L<=kU a
 db:∀a,dV (vN a) L<=kU a
 len:(aA L:Int)<=120*ai
theorem kg.fine {M S:Nat} {ai:Int} {who:List Int} {L:List Ob}(h:kg M S ai who L)(hc:ai<=4):sT L:=by refine⟨h.ok,λj k hj hk hjk h1 h2=> ?_,by have:=h.len;omega⟩;have:=(vF.1 h.ord) j k hj hk hjk h1 h2;omega
def Yj(x:ak)(d:Bd):Prop:=(1<=d.m/\d.m<=(aA x.ms:Int))/\(1<=d.c/\d.c<=(aA x.ss:Int))/\(1<=d.q/\d.q<=274877906944)/\(1<=d.p/\d.p<=1048576)/\aL d.s
structure aw(C:Int)(g:Nat)(D:Dk):Prop where
 hs:GK D.x
 bD:Oy (aA D.x.ms) (aA D.x.ss+1) C (if D.en=aO then 1099511627776 else 0) D.l
 h8:∀r∈D.h,r.s=8
 hl:aA D.h<=16
 fl:∀a,my D.log a=balA (aA D.x.ms) (aA D.x.ss+1) D.l 1 0 a
 lg:Lh (aA D.x.ss) D.log
 gl:aA D.log<=g
 who:Lv (aA D.x.ms) D.who
 ob:kg (aA D.x.ms) (aA D.x.ss) D.ai D.who D.ob
 bx:∀d∈D.bx,Yj D.x d
 bl:aA D.bx<=32
 st:0<=D.st/\D.st<=2
 ai:0<=D.ai/\D.ai<=4
theorem aw.ok {C:Int} {g:Nat} {D:Dk}(H:aw C g D)(hg:g<=90000):fY D:=
 ⟨H.bD.ok.I,by have:=H.hl;omega,by have:=H.who.len;have:=H.hs.ml;omega,by have:=H.gl;omega,H.ob.fine H.ai.2,by have:=H.bl;omega,by have:=H.st;unfold aL;omega⟩
theorem aw.wide {C C':Int} {g g':Nat} {D:Dk}(H:aw C g D)(hc:C<=C')(hb:C'<=4611686018427387904+1125899906842624)(hg:g<=g'):aw C' g' D:=
 ⟨H.hs,H.bD.wide hc hb,H.h8,H.hl,H.fl,H.lg,by have:=H.gl;omega,H.who,H.ob,H.bx,H.bl,H.st,H.ai⟩
section
variable {C:Int} {g:Nat} {D:Dk}
theorem aw.house(H:aw C g D)(a:Int):0<=(balA (aA D.x.ms) (aA D.x.ss+1) D.l) 1 0 a/\(balA (aA D.x.ms) (aA D.x.ss+1) D.l) 1 0 a<=C:=by refine⟨H.bD.ok.nn rfl 0 a, ?_⟩;have h1:=H.bD.lo 0 a;have h2:=H.bD.hi 0 a;omega
theorem aw.own(H:aw C g D)(m a:Int): -C-1099511627776<=(balA (aA D.x.ms) (aA D.x.ss+1) D.l) 7 m a/\(balA (aA D.x.ms) (aA D.x.ss+1) D.l) 7 m a+(balA (aA D.x.ms) (aA D.x.ss+1) D.l) 1 0 a<=C:=by have h1:=H.bD.lo m a;have h2:=H.bD.hi m a;have h3:=H.bD.ok.nn (k:=8) rfl m a;have h4:=H.bD.tN m a;have h5:=H.bD.ok.nn (k:=1) rfl 0 a;omega
theorem Nc {M A:Nat} {a:Int}(h:0<=a)(h':a<(A:Int)):∃n,plcA M A 1 0 a=aC n:=by unfold plcA jt;simp [h,h']
theorem aJY {M A:Nat} {a:Int}(h:0<=a)(h':a<(A:Int)):∃n,plcA M A 2 0 a=aC n:=by unfold plcA jt;simp [h,h']
theorem aJZ {M A:Nat} {a:Int}(h:0<=a)(h':a<(A:Int)):∃n,plcA M A 3 0 a=aC n:=by unfold plcA jt;simp [h,h']
theorem aJX {M A:Nat} {a:Int}(h:0<=a)(h':a<(A:Int)):∃n,plcA M A 4 0 a=aC n:=by unfold plcA jt;simp [h,h']
theorem Bx {M A:Nat} {k m a:Int}(hk:k=7\/k=8\/k=9)(hm:1<=m/\m<=(M:Int))(h:0<=a)(h':a<(A:Int)):∃n,plcA M A k m a=aC n:=by unfold plcA jt;rcases hk with rfl|rfl|rfl<;>simp [h,h',hm.1,hm.2]
theorem aw.goes(H:aw C g D) {tk tm a n:Int} {e:Ev}(ht:(tk=7/\1<=tm/\tm<=(aA D.x.ms:Int))\/(tk=2/\tm=0))(ha:0<=a/\a<=(aA D.x.ss:Int))(h1:1<=n)(h2:n<=(balA (aA D.x.ms) (aA D.x.ss+1) D.l) 1 0 a)(he:e.a=a/\e.n=n/\yT e= -n):
 ug D 1 0 tk tm a n=0/\aw C (g+1) {D with l:=bj D 1 0 tk tm a n,log:=D.log++ [e]}/\∀k m b,balA (aA D.x.ms) (aA D.x.ss+1) (bj D 1 0 tk tm a n) k m b=(balA (aA D.x.ms) (aA D.x.ss+1) D.l) k m b+((if k=1/\m=0/\b=a then-n else 0)+(if k=tk/\m=tm/\b=a then n else 0)):=by
 obtain⟨i,hi⟩:=Nc (M:=aA D.x.ms) (A:=aA D.x.ss+1) ha.1 (by omega);have hj:∃j,plcA (aA D.x.ms) (aA D.x.ss+1) tk tm a=aC j:=by
  rcases ht with⟨rfl,h⟩|⟨rfl,rfl⟩
  ·exact Bx (.inl rfl) h ha.1 (by omega)
  exact aJY ha.1 (by omega)
 obtain⟨j,hj⟩:=hj;have hb:=H.bD.big;have hle:=H.bD.es a;have hes:=H.bD.ok.nn (k:=2) rfl 0 a;have hr2:aL ((balA (aA D.x.ms) (aA D.x.ss+1) D.l) tk tm a+n):=by
  rcases ht with⟨rfl,_⟩|⟨rfl,rfl⟩
  ·have:=H.own tm a;unfold aL;omega
  unfold aL;omega
 have QS:=NP hi hj (by omega) (by omega) (by unfold aL;omega) (.inr ⟨h2,by rw [Vw H.h8 (by decide)];omega⟩) (by unfold aL;omega) hr2 H.bD.ok.len;have hd:=RT QS H.bD.ok.len hi hj;have dS:nN (aA D.x.ms) (aA D.x.ss+1) (bj D 1 0 tk tm a n):=nN.mv H.bD.ok H.hs.sl.2;refine⟨QS,⟨H.hs,⟨dS, ?_, ?_, ?_, ?_, ?_, ?_, ?_,H.bD.big,H.bD.F0⟩,H.h8,H.hl, ?_, ?_, ?_,H.who,H.ob,H.bx,H.bl,H.st,H.ai⟩,hd⟩
 ·intro m b;show balA (aA D.x.ms) (aA D.x.ss+1) (bj D 1 0 tk tm a n) 8 m b<=_;rw [hd];have:=H.bD.tN m b;split<;>split<;>omega
 ·intro m b;show balA (aA D.x.ms) (aA D.x.ss+1) (bj D 1 0 tk tm a n) 9 m b<=_;rw [hd,ifN (by omega),ifN (by omega)];have:=H.bD.zo m b;simpa using this
 ·intro b;show balA (aA D.x.ms) (aA D.x.ss+1) (bj D 1 0 tk tm a n) 3 0 b<=_;rw [hd,ifN (by omega),ifN (by omega)];have:=H.bD.AL b;simpa using this
 ·intro b;show balA (aA D.x.ms) (aA D.x.ss+1) (bj D 1 0 tk tm a n) 4 0 b<=_;rw [hd,ifN (by omega),ifN (by omega)];have:=H.bD.cap b;simpa using this
 ·intro m b;show _<=balA (aA D.x.ms) (aA D.x.ss+1) (bj D 1 0 tk tm a n) 7 m b+balA (aA D.x.ms) (aA D.x.ss+1) (bj D 1 0 tk tm a n) 8 m b-balA (aA D.x.ms) (aA D.x.ss+1) (bj D 1 0 tk tm a n) 1 0 b;rw [hd 7,hd 8,hd 1];have:=H.bD.lo m b;repeat' split
  all_goals omega
 ·intro m b;show balA (aA D.x.ms) (aA D.x.ss+1) (bj D 1 0 tk tm a n) 7 m b+balA (aA D.x.ms) (aA D.x.ss+1) (bj D 1 0 tk tm a n) 8 m b+balA (aA D.x.ms) (aA D.x.ss+1) (bj D 1 0 tk tm a n) 1 0 b<=_;rw [hd 7,hd 8,hd 1];have:=H.bD.hi m b;repeat' split
  all_goals omega
 ·intro b;show balA (aA D.x.ms) (aA D.x.ss+1) (bj D 1 0 tk tm a n) 2 0 b+balA (aA D.x.ms) (aA D.x.ss+1) (bj D 1 0 tk tm a n) 1 0 b<=_;rw [hd 2,hd 1];have:=H.bD.es b;repeat' split
  all_goals omega
 ·intro b;show my (D.log++ [e]) b=balA (aA D.x.ms) (aA D.x.ss+1) (bj D 1 0 tk tm a n) 1 0 b;rw [DO,DR,H.fl b,hd,he.1,he.2.2];repeat' split
  all_goals omega
 ·refine H.lg.snoc ⟨by rw [he.1];exact ha.1,by rw [he.1];exact ha.2,.inl (by rw [he.2.1];exact h1)⟩ (λb=> ?_);have h9:my (D.log++ [e]) b=balA (aA D.x.ms) (aA D.x.ss+1) (bj D 1 0 tk tm a n) 1 0 b:=by
   rw [DO,DR,H.fl b,hd,he.1,he.2.2];repeat' split
   all_goals omega
  rw [h9];refine⟨dS.nn rfl 0 b, ?_⟩;rw [hd];have:=H.house b;repeat' split
  all_goals omega
 show aA (D.log++ [e])<=g+1;rw [cN];have:=H.gl;simp;omega
end
end
def a2p(l:List Dw)(k m:Int):Int:=l.foldl (λs x=>if x.k=k/\x.m=m then fW (s+x.n) else s) 0
def jd(p:cB)(k m:Int):Int:=
 if 1<=m/\m<=aA p.co/\k=8 then cU p.co m else if 1<=m/\m<=aA p.co/\k=9 then cU p.fu m else if m=0/\k=3 then p.line else if m=0/\k=4 then p.cap else-1
def oP(os:List Int)(k m:Int):Int:=if k=8 then m else if k=9 then (if os.contains m then fW (100+m) else 200) else if k=3 then 300 else 400
structure vJ(y:List Dw):Prop where
 pos:∀x∈y,0<=x.n/\x.n<=1099511627776
 len:aA y<=1000
theorem a2r:∀y:List Dw,sumI (fj y)=(y.map (·.n)).sum
 | []=>rfl
 |x::y=>by show x.n+sumI (fj y)=_;rw [a2r y];simp
theorem VH:∀ {y:List Dw},(∀x∈y,0<=x.n/\x.n<=1099511627776)->0<=sumI (fj y)/\sumI (fj y)<=1099511627776*(aA y:Int)
 | [],_=>by simp [fj,sumI]
 |x::y,h=>by
  have h1:=VH (y:=y) λz hz=>h z (by simp [hz])
  grind [sumI,fj]
theorem a2G {y:List Dw} {nd:Int}(h:vJ y)(hn:0<=nd):iL nd (fj y)=0:=by
 have hb:=VH h.pos;have hl:=h.len;have hlen:aA (fj y)=aA y:=by simp [fj]
 unfold iL;rw [ifN (by omega),ifN,(eA (by unfold aL;omega)).2];rintro (h1|h1)
 ·omega
 unfold xZ at h1;obtain⟨x,hx,mV⟩:=kA.1 h1;obtain⟨z,hz,rfl⟩:=df.1 hx;have:=(h.pos z hz).1;simp at mV;omega
theorem MD(x:Dw)(y:List Dw)(n:Int)(zs:List Int):iy (x::y) (n::zs)=(if 0<n then [⟨x.k,x.m,n⟩] else [])++iy y zs:=by grind [iy,Eb]
theorem a2u:∀ {y:List Dw} {zs:List Int} {z:Dw},z∈iy y zs->0<z.n/\∃x∈y,z.k=x.k/\z.m=x.m
 | [],_,z,h=>by simp [iy] at h
 |_::_,[],z,h=>by simp [iy] at h
 |x::y,n::zs,z,h=>by
  rw [MD] at h;rcases gL.1 h with h|h
  ·grind
  obtain⟨h1,u,hu,e⟩:=a2u h;grind
theorem a2x:∀ {y:List Dw} {zs:List Int},aA zs=aA y->(∀z∈zs,0<=z)->cW (iy y zs)=sumI zs
 | [],[],_,_=>rfl
 | [],_::_,h,_=>by simp at h
 |_::_,[],h,_=>by simp at h
 |x::y,n::zs,h,hz=>by
  have hr:=a2x (y:=y) (zs:=zs) (by simpa using h) λz hz'=>hz z (by simp [hz'])
  have hn:=hz n (by simp);grind [MD,sumI,cW]
theorem a2v:∀y:List Dw,iy y (fj y)=y.filter λx=>decide (0<x.n)
 | []=>rfl
 |x::y=>by show iy (x::y) (x.n::fj y)=_;rw [MD,a2v y,List.filter_cons];by_cases h:0<x.n<;>simp [h]
structure a8j(y:List Dw)(nd:Int):Prop where
 mem:∀z∈nA y nd,0<z.n/\∃x∈y,z.k=x.k/\z.m=x.m
 CG:cW (nA y nd)=min nd (sumI (fj y))
 full:sumI (fj y)<=nd->nA y nd=y.filter λx=>decide (0<x.n)
 Fj:0<=sumI (fj y)
theorem Er {y:List Dw} {nd:Int}(h:vJ y)(hn:0<=nd):a8j y nd:=by
 have hc:=a2G h hn;have G:=Es hc;refine⟨λz hz=>a2u hz, ?_,λhs=> ?_,(VH h.pos).1⟩
 ·unfold nA;rw [a2x (by rw [G.len];simp [fj]) λz hz=> ?_,G.sum];obtain⟨i,hi,rfl⟩:=List.getElem_of_mem hz;exact(G.bd i hi (by rw [<-G.len];exact hi)).1
 grind [nA,dN,a2v]
def gl:Int->List (List Dw)->List Dw
 |_,[]=> []
 |nd,y::ys=>nA y nd++gl (nd-min nd (sumI (fj y))) ys
theorem YS(a b:List Dw):cW (a++b)=cW a+cW b:=by grind [cW]
theorem Q7:∀(ys:List (List Dw)) (nd:Int) (L:List Dw),(∀y∈ys,vJ y)->0<=nd->aL nd->(ys.foldl yo (nd,L)).2=L++gl nd ys
 | [],nd,L,_,_,_=>by simp [gl]
 |y::ys,nd,L,h,hn,hI=>by
  have F:=Er (h y (by simp)) hn;have hs:=F.Fj;have ht:sQ (nA y nd)=min nd (sumI (fj y)):=by unfold aL at hI;rw [SP (by rw [F.CG];omega),F.CG]
  have hw:aF.wrap (nd-min nd (sumI (fj y)))=nd-min nd (sumI (fj y)):=sj _ (by grind [aL]);rw [Cr];have e:yo (nd,L) y=(nd-min nd (sumI (fj y)),L++nA y nd):=by grind [yo]
  rw [e,Q7 ys _ _ (λz hz=>h z (by simp [hz])) (by omega) (by grind [aL])];simp [gl]
theorem a3e:∀ {ys:List (List Dw)},(∀y∈ys,vJ y)->gl 0 ys= []
 | [],_=>rfl
 |y::ys,h=>by
  have F:=Er (nd:=0) (h y (by simp)) (dM _);have hs:=F.Fj;have e:nA y 0= []:=by
   cases hg:nA y 0 with
   |nil=>rfl
   |cons z l=>
    have h1:=(F.mem z (by rw [hg];simp)).1;have h2:=F.CG;rw [hg] at h2;have h3:cW (z::l)=max z.n 0+cW l:=by simp [cW]
    have h4:=Ir l;omega
  unfold gl;rw [e,show (0:Int)-min 0 (sumI (fj y))=0 by omega,a3e λz hz=>h z (by simp [hz])];rfl
theorem Q6:∀ {ys:List (List Dw)} {nd:Int},(∀y∈ys,vJ y)->0<=nd->∀z∈gl nd ys,0<z.n/\∃y∈ys,∃x∈y,z.k=x.k/\z.m=x.m
 | [],_,_,_,z,hz=>by simp [gl] at hz
 |y::ys,nd,h,hn,z,hz=>by
  have F:=Er (h y (by simp)) hn;have hs:=F.Fj;unfold gl at hz;rcases gL.1 hz with hz|hz
  ·obtain⟨h1,x,hx,e⟩:=F.mem z hz;grind
  obtain⟨h1,y',hy,x,hx,e⟩:=Q6 (λz hz=>h z (by simp [hz])) (by omega) z hz;grind
theorem a3b:∀ {ys:List (List Dw)} {nd:Int},(∀y∈ys,vJ y)->0<=nd->cW (gl nd ys)<=nd
 | [],nd,_,hn=>by grind [gl,cW]
 |y::ys,nd,h,hn=>by have F:=Er (h y (by simp)) hn;have hs:=F.Fj;have:=a3b (ys:=ys) (nd:=nd-min nd (sumI (fj y))) (λz hz=>h z (by simp [hz])) (by omega);unfold gl;rw [YS,F.CG];omega
structure Gb(f:Int->Int->Int)(ys:List (List Dw)):Prop where
 up:ys.Pairwise λy y'=>∀x∈y,∀x'∈y',f x.k x.m<f x'.k x'.m
 eq:∀y∈ys,∀x∈y,∀x'∈y,f x.k x.m=f x'.k x'.m
 uniq:∀y∈ys,y.Pairwise λx x'=>¬(x.k=x'.k/\x.m=x'.m)
theorem Gb.tail {f:Int->Int->Int} {y:List Dw} {ys:List (List Dw)}(h:Gb f (y::ys)):Gb f ys:=
 ⟨(kf.1 h.up).2,λy' hy=>h.eq y' (by simp [hy]),λy' hy=>h.uniq y' (by simp [hy])⟩
theorem a3d {f:Int->Int->Int}:∀ {ys:List (List Dw)} {nd:Int},(∀y∈ys,vJ y)->Gb f ys->0<=nd->(gl nd ys).Pairwise λz z'=>f z.k z.m<=f z'.k z'.m
 | [],_,_,_,_=>by simp [gl]
 |y::ys,nd,h,hr,hn=>by
  have F:=Er (h y (by simp)) hn;have hs:=F.Fj;have dS:∀z∈ys,vJ z:=λz hz=>h z (by simp [hz])
  unfold gl;rw [Lf];refine⟨?_,a3d dS hr.tail (by omega),λz hz z' hz'=> ?_⟩
  ·rw [List.pairwise_iff_forall_sublist];intro a b hab;have ha:=hab.subset (by simp:a∈ [a,b]);have hb:=hab.subset (by simp:b∈ [a,b]);obtain⟨_,x,hx,e1,e2⟩:=F.mem a ha;obtain⟨_,x',mV,e3,e4⟩:=F.mem b hb;rw [e1,e2,e3,e4];exact rU (hr.eq y (by simp) x hx x' mV)
  obtain⟨_,x,hx,e1,e2⟩:=F.mem z hz;obtain⟨_,y',hy',x',mV,e3,e4⟩:=Q6 dS (by omega) z' hz';have:=(kf.1 hr.up).1 y' hy' x hx x' mV;grind
def xJ(l:List Dw)(k m:Int):Int:=(l.map λx=>if x.k=k/\x.m=m then x.n else 0).sum
theorem aF9(a b:List Dw)(k m:Int):xJ (a++b) k m=xJ a k m+xJ b k m:=by grind [xJ]
theorem Pt(x:Dw)(l:List Dw)(k m:Int):xJ (x::l) k m=(if x.k=k/\x.m=m then x.n else 0)+xJ l k m:=by simp [xJ]
theorem Pu:∀ {l:List Dw} {k m:Int},(∀z∈l,¬(z.k=k/\z.m=m))->xJ l k m=0
 | [],_,_,_=>rfl
 |x::l,k,m,h=>by rw [Pt,ifN (h x (by simp)),Pu λz hz=>h z (by simp [hz])];rfl
theorem VF:∀ {l:List Dw} {k m s:Int},(∀z∈l,0<=z.n)->0<=s->s+cW l<=9223372036854775807->l.foldl (λs x=>if x.k=k/\x.m=m then fW (s+x.n) else s) s=s+xJ l k m
 | [],k,m,s,_,_,_=>by simp [xJ]
 |x::l,k,m,s,h,h0,hb=>by
  have hx:=h x (by simp);have ht:cW (x::l)=max x.n 0+cW l:=by simp [cW]
  have hl:=Ir l;rw [Cr,Pt];by_cases hc:x.k=k/\x.m=m
  ·rw [ifP hc,ifP hc,show fW (s+x.n)=s+x.n from by unfold fW;omega,VF (λz hz=>h z (by simp [hz])) (by omega) (by omega)];omega
  rw [ifN hc,ifN hc,VF (λz hz=>h z (by simp [hz])) h0 (by omega)];omega
theorem a2o:∀ {y:List Dw} {x:Dw},(∀z∈y,0<=z.n)->(y.Pairwise λx x'=>¬(x.k=x'.k/\x.m=x'.m))->x∈y->xJ (y.filter λx=>decide (0<x.n)) x.k x.m=x.n
 | [],_,_,_,h=>by simp at h
 |u::y,x,h0,hp,hx=>by
  obtain⟨h1,h2⟩:=kf.1 hp;have hu:=h0 u (by simp);rcases fE.1 hx with rfl|hx
  ·have hno:xJ (y.filter λz=>decide (0<z.n)) x.k x.m=0:=Pu λz hz e=>h1 z (jD.1 hz).1 ⟨e.1.symm,e.2.symm⟩
   grind [Pt]
  have hr:=a2o (λz hz=>h0 z (by simp [hz])) h2 hx;grind [Pt]
theorem a3Z {f:Int->Int->Int}:∀ {ys:List (List Dw)} {nd:Int},(∀y∈ys,vJ y)->Gb f ys->0<=nd->∀z∈gl nd ys,∀y∈ys,∀x∈y,f x.k x.m<f z.k z.m->xJ (gl nd ys) x.k x.m=x.n
 | [],_,_,_,_,z,hz,_,_,_,_,_=>by simp [gl] at hz
 |y0::ys,nd,h,hr,hn,z,hz,y,hy,x,hx,hlt=>by
  have F:=Er (h y0 (by simp)) hn;have hs:=F.Fj;have dS:∀z∈ys,vJ z:=λz hz=>h z (by simp [hz])
  have vk:=(kf.1 hr.up).1;unfold gl at hz ⊢;rw [aF9];rcases gL.1 hz with hz|hz
  ·obtain⟨_,u,hu,e1,e2⟩:=F.mem z hz;rw [e1,e2] at hlt;rcases fE.1 hy with rfl|hy
   ·have:=hr.eq y (by simp) x hx u hu;omega
   grind
  have Qj:sumI (fj y0)<=nd:=by grind [a3e]
  have vg:0<=nd-min nd (sumI (fj y0)):=by omega
  rcases fE.1 hy with rfl|hy
  ·rw [F.full Qj,a2o (λz hz=>((h y (by simp)).pos z hz).1) (hr.uniq y (by simp)) hx,Pu]
   ·omega
   intro z' hz' e;obtain⟨_,y',hy',x',mV,e3,e4⟩:=Q6 dS vg z' hz';grind
  rw [a3Z dS hr.tail vg z hz y hy x hx hlt,Pu]
  ·omega
  intro z' hz' e;obtain⟨_,u,hu,e3,e4⟩:=F.mem z' hz';grind
theorem XX {p:cB} {os:List Int}(h:gH p os=0):os.Pairwise (· < ·):=by
 have h0:j9 p=0:=by grind [gH]
 have step:∀k (hk:k+1<aA os),os[k]<os[k+1]:=λk hk=>by grind [tX,XN]
 have all:∀k (hk:k<aA os) i (hi:i<aA os),i<k->os[i]<os[k]:=by
  intro k;induction k with
  |zero=>intro _ i _ h;omega
  |succ k ih=>
   grind
 grind [vF]
theorem Rn(os:List Int)(m:Int):oP os 8 m=m:=by grind [oP]
theorem Ro {os:List Int} {m:Int}(h:m∈os)(h1:1<=m)(h2:m<=1000):oP os 9 m=100+m:=by unfold oP;rw [ifN (by decide),ifP rfl,ifP (U8.2 h)];unfold fW;omega
theorem a6j {os:List Int} {m:Int}(h:os.contains m=aP):oP os 9 m=200:=by grind [oP]
theorem Xs(os:List Int):oP os 3 0=300:=by grind [oP]
theorem Xt(os:List Int):oP os 4 0=400:=by grind [oP]
theorem NV {fu os:List Int}:∀ {k:Nat} {x:Dw},x∈kJ fu os k->∃i:Nat,i<k/\os.contains ((i:Int)+1)=aP/\x=⟨9,(i:Int)+1,fu.getD i 0⟩:=by grind [kJ]
theorem aJ1 {fu os:List Int} {k i:Nat}(hi:i<k)(hc:os.contains ((i:Int)+1)=aP):(⟨9,(i:Int)+1,fu.getD i 0⟩:Dw)∈kJ fu os k:=by grind [kJ]
theorem a6I(fu os:List Int):∀k,(kJ fu os k).Pairwise λx x'=>¬(x.k=x'.k/\x.m=x'.m)
 |0=>by simp [kJ]
 |k+1=>by
  have ih:=a6I fu os k;have e:kJ fu os (k+1)=kJ fu os k++(if os.contains ((k:Int)+1) then [] else [⟨9,(k:Int)+1,fu.getD k 0⟩]):=by grind [kJ,List.range_succ]
  grind [NV]
theorem Nq {p:cB} {os:List Int} {y:List Dw}(h:y∈fR p os):(∃m∈os,y= [⟨8,m,cU p.co m⟩])\/(∃m∈os,y= [⟨9,m,cU p.fu m⟩])\/y=vy p.fu os\/y= [⟨3,0,p.line⟩]\/y= [⟨4,0,p.cap⟩]:=by grind [fR]
theorem Ef {l:List Int} {m:Int}(h1:1<=m)(h2:m<=aA l):cU l m∈l:=by obtain⟨s,hs,rfl⟩:∃s:Nat,s<aA l/\m=(s:Int)+1:=⟨(m-1).toNat,by omega,by omega⟩;grind [Jm]
theorem YB {p:cB} {os:List Int}(F:GU p os):∀y∈fR p os,vJ y:=by
 have hc:∀x∈p.co,0<=x/\x<=1099511627776:=λx hx=>F.all x (by simp [gQ,hx])
 have hf:∀x∈p.fu,0<=x/\x<=1099511627776:=λx hx=>F.all x (by simp [gQ,hx])
 have hlen:=F.len;have kp:=F.big;intro y hy;rcases Nq hy with⟨m,hm,rfl⟩|⟨m,hm,rfl⟩|rfl|rfl|rfl
 ·have:=F.os1 m hm;exact⟨λx hx=>by grind [Ef],by simp⟩
 ·have:=F.os1 m hm;exact⟨λx hx=>by grind [Ef],by simp⟩
 ·refine⟨λx hx=> ?_,by grind [Kd,vy]⟩;obtain⟨i,hi,_,rfl⟩:=NV hx;grind [cH]
 ·exact⟨λx hx=>by simp at hx;subst hx;exact F.all _ (by simp [gQ]),by simp⟩
 exact⟨λx hx=>by simp at hx;subst hx;exact F.all _ (by simp [gQ]),by simp⟩
theorem a7c {p:cB} {os:List Int}(h:gH p os=0):Gb (oP os) (fR p os):=by
 have F:=AP h;have hu:=XX h;have hb:=F.big;have h1:∀m∈os,1<=m/\m<=16:=λm hm=>by have:=F.os1 m hm;omega
 have aMz:∀x∈vy p.fu os,oP os x.k x.m=200:=λx hx=>by obtain⟨i,_,hc,rfl⟩:=NV hx;exact a6j hc
 refine⟨?_,λy hy x hx x' mV=> ?_,λy hy=> ?_⟩
 ·unfold fR;rw [Lf,Lf,BK,BK];refine⟨⟨hu.imp_of_mem λ{a b} ha hb' hab x hx x' mV=> ?_,hu.imp_of_mem λ{a b} ha hb' hab x hx x' mV=> ?_,λy hy y' hy' x hx x' mV=> ?_⟩, ?_,λy hy y' hy' x hx x' mV=> ?_⟩
  ·grind [Rn]
  ·grind [Ro]
  ·grind [Rn,Ro]
  ·grind [kf,Xs,Xt]
  grind [Rn,Ro,Xs,Xt]
 ·grind [Nq]
 rcases Nq hy with⟨m,hm,rfl⟩|⟨m,hm,rfl⟩|rfl|rfl|rfl
 ·simp
 ·simp
 ·exact a6I _ _ _
 ·simp
 simp
def Ui(os:List Int)(k:Nat):List (Int×Int):=(dR k).flatMap λ(i:Nat)=>(if os.contains ((i:Int)+1) then [(8,(i:Int)+1)] else [])++ [(9,(i:Int)+1)]
def PS(os:List Int)(n:Nat):List (Int×Int):=Ui os n++ [(3,0),(4,0)]
theorem aCP {os:List Int} {n:Nat} {a:Int×Int}(h:a∈Ui os n):∃i:Nat,i<n/\((os.contains ((i:Int)+1)=aO/\a=(8,(i:Int)+1))\/a=(9,(i:Int)+1)):=by grind [Ui]
theorem SM {p:cB} {m:Int}(h1:1<=m)(h2:m<=aA p.co):jd p 8 m=cU p.co m:=by grind [jd]
theorem Kk {p:cB} {m:Int}(h1:1<=m)(h2:m<=aA p.co):jd p 9 m=cU p.fu m:=by grind [jd]
theorem SK(p:cB):jd p 3 0=p.line:=by grind [jd]
theorem SL(p:cB):jd p 4 0=p.cap:=by grind [jd]
theorem a1Y {p:cB} {os:List Int}(F:GU p os) {a:Int×Int}(h:a∈PS os (aA p.co)):∃y∈fR p os,∃x∈y,x.k=a.1/\x.m=a.2/\x.n=jd p a.1 a.2:=by
 have hlen:=F.len;unfold PS at h;rcases gL.1 h with h|h
 ·obtain⟨i,hi,⟨hc,rfl⟩|rfl⟩:=aCP h
  ·have hm:=U8.1 hc;exact⟨[⟨8,(i:Int)+1,cU p.co ((i:Int)+1)⟩],by grind [fR],⟨8,(i:Int)+1,cU p.co ((i:Int)+1)⟩,by simp,rfl,rfl,(SM (by omega) (by omega)).symm⟩
  cases hc:os.contains ((i:Int)+1) with
  |true=>
   have hm:=U8.1 hc;exact⟨[⟨9,(i:Int)+1,cU p.fu ((i:Int)+1)⟩],by grind [fR],⟨9,(i:Int)+1,cU p.fu ((i:Int)+1)⟩,by simp,rfl,rfl,(Kk (by omega) (by omega)).symm⟩
  |false=>
   refine⟨vy p.fu os,by unfold fR;simp,⟨9,(i:Int)+1,p.fu.getD i 0⟩,aJ1 (by omega) hc,rfl,rfl, ?_⟩;grind [Kk,Jm]
 simp at h;rcases h with rfl|rfl
 ·exact⟨[⟨3,0,p.line⟩],by unfold fR;simp,⟨3,0,p.line⟩,by simp,rfl,rfl,(SK p).symm⟩
 exact⟨[⟨4,0,p.cap⟩],by unfold fR;simp,⟨4,0,p.cap⟩,by simp,rfl,rfl,(SL p).symm⟩
structure aAK(p:cB)(os:List Int)(l:List Dw):Prop where
 up:∀i j (hi:i<aA l) (hj:j<aA l),i<j->oP os l[i].k l[i].m<=oP os l[j].k l[j].m
 pos:∀z∈l,0<=oP os z.k z.m
 acc:∀a∈PS os (aA p.co),0<=oP os a.1 a.2
 full:∀z∈l,∀a∈PS os (aA p.co),oP os a.1 a.2<oP os z.k z.m->a2p l a.1 a.2=jd p a.1 a.2
 len:aA l<=1000
theorem a6k {p:cB} {os:List Int}(h:gH p os=0) {y:List Dw}(hy:y∈fR p os) {x:Dw}(hx:x∈y):0<=oP os x.k x.m:=by
 have F:=AP h;have hb:=F.big;have h1:∀m∈os,1<=m/\m<=16:=λm hm=>by have:=F.os1 m hm;omega
 rcases Nq hy with⟨m,hm,rfl⟩|⟨m,hm,rfl⟩|rfl|rfl|rfl
 ·grind [Rn]
 ·grind [Ro]
 ·obtain⟨i,_,hc,rfl⟩:=NV hx;rw [a6j hc];omega
 ·grind [Xs]
 grind [Xt]
theorem aIu {p:cB} {os:List Int} {need:Int}(h:sO p os need=0)(hI:aL need)(ky:aA os<=100):aAK p os (oO p os need):=by
 have hm:gH p os=0:=by grind [sO]
 have hn:0<=need:=by grind [sO]
 have F:=AP hm;have dS:=YB F;have hr:=a7c hm;have hL:oO p os need=gl need (fR p os):=by grind [oO,tY,Q7]
 have hlen:aA (oO p os need)<=1000:=by unfold oO;rw [ifP h];have h1:=a6S (fR p os) (need,[]);have h2:=a7d p os;have h3:=F.len;have h4:=F.big;grind [tY]
 rw [hL] at hlen ⊢;have vk:=vF.1 (a3d (f:=oP os) dS hr hn);have Wa:=Q6 (nd:=need) dS hn;refine⟨λi j hi hj qy=>vk i j hi hj qy,λz hz=> ?_,λa ha=> ?_,λz hz a ha hlt=> ?_,hlen⟩
 ·obtain⟨_,y,hy,x,hx,e1,e2⟩:=Wa z hz;rw [e1,e2];exact a6k hm hy hx
 ·obtain⟨y,hy,x,hx,e1,e2,_⟩:=a1Y F ha;rw [<-e1,<-e2];exact a6k hm hy hx
 obtain⟨y,hy,x,hx,e1,e2,e3⟩:=a1Y F ha;rw [<-e1,<-e2] at hlt;have h1:=a3Z (f:=oP os) dS hr hn z hz y hy x hx hlt;have h2:=VF (l:=gl need (fR p os)) (k:=a.1) (m:=a.2) (s:=0) (λz hz=>by grind) (dM _) (by have:=a3b (ys:=fR p os) dS hn;unfold aL at hI;omega);grind [a2p]
def wC(p:cB)(os:List Int):Nat->Int
 |0=>p.line+p.cap
 |k+1=>wC p os k+cU p.fu ((k:Int)+1)+(if os.contains ((k:Int)+1) then cU p.co ((k:Int)+1) else 0)
theorem mem_co {p:cB} {k:Nat}(hk:k<aA p.co):p.co[k]∈gQ p:=by grind [gQ]
theorem aHy {p:cB} {k:Nat}(hk:k<aA p.fu):p.fu[k]∈gQ p:=by grind [gQ]
theorem Y0 {p:cB} {os:List Int}(h:GU p os):∀k,k<=aA p.co->0<=wC p os k/\wC p os k<=(2+2*(k:Int))*1099511627776
 |0,_=>by have h1:=h.all p.line (by simp [gQ]);have h2:=h.all p.cap (by simp [gQ]);unfold wC;omega
 |k+1,hk=>by
  have ih:=Y0 h k (by omega);have hf:k<aA p.fu:=by have:=h.len;omega
  have h1:=h.all _ (mem_co (show k<(aA p.co) by omega));have h2:=h.all _ (aHy hf);grind [wC,Jm]
def pT(f:Int->Int)(os:List Int):Nat->Int
 |0=>0
 |k+1=>pT f os k+(if os.contains ((k:Int)+1) then f ((k:Int)+1) else 0)
theorem a6O {f:Int->Int} {a b:List Int}:∀k:Nat,(∀i:Nat,i<k->a.contains ((i:Int)+1)=b.contains ((i:Int)+1))->pT f a k=pT f b k
 |0,_=>rfl
 |k+1,h=>by unfold pT;rw [a6O k (λi hi=>h i (by omega)),h k (by omega)]
theorem a6P(f:Int->Int):∀k,pT f [] k=0
 |0=>rfl
 |k+1=>by unfold pT;rw [a6P f k];rfl
theorem Ke(f:Int->Int):∀(n:Nat) (os:List Int),os.Pairwise (· < ·)->(∀m∈os,1<=m/\m<=(n:Int))->(os.map f).sum=pT f os n
 |0,os,_,h=>by
  cases os with
  |nil=>rfl
  |cons a l=>grind [pE]
 |n+1,os,hp,h=>by
  rcases P1 os with rfl|⟨zs,z,rfl⟩
  ·rw [a6P];rfl
  rw [P0] at*;have hz:=h z (by simp);obtain⟨p1,_,p3⟩:=Lf.1 hp;have hlt:∀m∈zs,m<z:=λm hm=>p3 m hm z (by simp)
  by_cases Dm:z=(n:Int)+1
  ·have ih:=Ke f n zs p1 λm hm=>⟨(h m (by simp [hm])).1,by grind⟩
   have hc:pT f (zs++ [z]) n=pT f zs n:=a6O n λi hi=>by grind
   grind [pT]
  have ih:=Ke f n (zs++ [z]) hp λm hm=>⟨(h m hm).1,by grind⟩
  grind [pT]
theorem YN:∀ys:List (List Dw),0<=(ys.map cW).sum
 | []=>dM 0
 |y::ys=>by have h1:=YN ys;have h2:=Ir y;grind
theorem a6u:∀(ys:List (List Dw)) (n:Int),0<=n->n+(ys.map cW).sum<=9223372036854775807->ys.foldl (λn y=>aF.wrap (n+sQ y)) n=n+(ys.map cW).sum
 | [],n,_,_=>by simp
 |y::ys,n,h0,h=>by rw [yM,Ea] at h;have h1:=YN ys;have h2:=Ir y;rw [Cr,SP (by omega),sj _ (by omega),a6u ys (n+cW y) (by omega) (by omega),yM,Ea];omega
theorem YT(k m n:Int)(h:0<=n):cW [⟨k,m,n⟩]=n:=by grind [cW]
theorem NS(k:Int)(f:Int->Int):∀os:List Int,(∀m∈os,0<=f m)->((os.map λm=> [(⟨k,m,f m⟩:Dw)]).map cW).sum=(os.map f).sum
 | [],_=>rfl
 |m::os,h=>by rw [yM,yM,Ea,NS k f os λm' hm=>h m' (dh _ hm),YT _ _ _ (h m (pE ..)),yM,Ea]
def BX(fu:List Int):Nat->Int
 |0=>0
 |k+1=>BX fu k+cU fu ((k:Int)+1)
theorem XZ {fu os:List Int}(h:∀x∈fu,0<=x):∀k,k<=aA fu->cW (kJ fu os k)+pT (cU fu) os k=BX fu k
 |0,_=>rfl
 |k+1,hk=>by have ih:=XZ (os:=os) h k (by omega);have hx:=h _ (cH (show k<(aA fu) by omega));unfold pT BX;rw [a6H (show k<(aA fu) by omega) _ rfl,YS,Jm (show k<(aA fu) by omega)];grind [cW]
theorem Ni(p:cB)(os:List Int):∀k,wC p os k=p.line+p.cap+BX p.fu k+pT (cU p.co) os k
 |0=>by grind [wC,BX,pT]
 |k+1=>by unfold wC BX pT;rw [Ni p os k];omega
theorem Xy {p:cB} {os:List Int}(h:gH p os=0):rC p os=wC p os (aA p.co):=by
 have F:=AP h;have vk:=XX h;have Df:=F.all p.line (by simp [gQ]);have hcp:=F.all p.cap (by simp [gQ]);have qw:∀x∈p.co,0<=x:=λx hx=>(F.all x (by simp [gQ,hx])).1
 have Db:∀x∈p.fu,0<=x:=λx hx=>(F.all x (by simp [gQ,hx])).1
 have e1:=NS 8 (cU p.co) os λm hm=>qw _ (Ef (F.os1 m hm).1 (F.os1 m hm).2)
 have e2:=NS 9 (cU p.fu) os λm hm=>Db _ (Ef (F.os1 m hm).1 (by have:=(F.os1 m hm).2;have:=F.len;omega))
 have e3:=Ke (cU p.co) (aA p.co) os vk F.os1;have e4:=Ke (cU p.fu) (aA p.co) os vk F.os1;have e5:=XZ (os:=os) Db (aA p.co) (by have:=F.len;omega);have e6:=Ni p os (aA p.co);have hb:=Y0 F (aA p.co) (aa _);have kp:=F.big;have hs:((fR p os).map cW).sum=wC p os (aA p.co):=by unfold fR vy;rw [dZ,dZ,Ct,Ct,e1,e2,F.len];grind [YT]
 grind [rC,CA,a6u]
def kL(q:cB)(x:Dw):cB:=
 if 1<=x.m/\x.m<=aA q.co/\x.k=8 then {q with co:=q.co.set (x.m-1).toNat (cU q.co x.m-x.n)}
 else if 1<=x.m/\x.m<=aA q.co/\x.k=9 then {q with fu:=q.fu.set (x.m-1).toNat (cU q.fu x.m-x.n)}
 else if x.m=0/\x.k=3 then {q with line:=q.line-x.n}
 else {q with cap:=q.cap-x.n}
def RV:cB:=⟨[],aB,0,[],aB,0,0,0⟩
def RO:cB->List Dw->cB×Int
 |q,[]=>(q,0)
 |q,x::l=>if jd q x.k x.m<0 then (RV,8) else if x.n<0 then (RV,1) else if jd q x.k x.m<x.n then (RV,12) else RO (kL q x) l
def a5L(p:cB)(l:List Dw):cB×Int:=if j9 p≠0 then (RV,j9 p) else RO p l
theorem YA {q:cB} {k m:Int}(h:0<=jd q k m):(1<=m/\m<=aA q.co/\k=8)\/(1<=m/\m<=aA q.co/\k=9)\/(m=0/\k=3)\/(m=0/\k=4):=by grind [jd]
theorem YE {q:cB} {x:Dw}(h:1<=x.m/\x.m<=aA q.co/\x.k=8):kL q x= {q with co:=q.co.set (x.m-1).toNat (cU q.co x.m-x.n)}:=by grind [kL]
theorem YF {q:cB} {x:Dw}(h:1<=x.m/\x.m<=aA q.co/\x.k=9):kL q x= {q with fu:=q.fu.set (x.m-1).toNat (cU q.fu x.m-x.n)}:=by grind [kL]
theorem YC {q:cB} {x:Dw}(h:x.m=0/\x.k=3):kL q x= {q with line:=q.line-x.n}:=by grind [kL]
theorem YD {q:cB} {x:Dw}(h:x.m=0/\x.k=4):kL q x= {q with cap:=q.cap-x.n}:=by grind [kL]
theorem YG(q:cB)(x:Dw):(kL q x).co.length=aA q.co/\(kL q x).fu.length=aA q.fu:=by grind [kL]
theorem Uq {l:List Int} {m v m':Int}(h1:1<=m)(h2:m<=aA l)(h3:1<=m'):cU (l.set (m-1).toNat v) m'=if m'=m then v else cU l m':=by
 unfold cU;rw [tA,List.getElem?_set,tA];by_cases e:m'=m
 ·grind
 rw [ifN e,ifN (by omega)]
theorem a8B {q:cB} {x:Dw}(hf:aA q.fu=aA q.co)(hx:0<=jd q x.k x.m)(k m:Int):jd (kL q x) k m=if k=x.k/\m=x.m then jd q k m-x.n else jd q k m:=by grind [YE,jd,Uq,YF,YC,YD]
theorem a5Q:∀(l:List Dw) (q:cB),aA q.fu=aA q.co->(l.Pairwise λx x'=>¬(x.k=x'.k/\x.m=x'.m))->(∀z∈l,0<=z.n/\z.n<=jd q z.k z.m)->RO q l=(l.foldl kL q,0)
 | [],_,_,_,_=>rfl
 |x::l,q,hf,hp,h=>by
  obtain⟨h1,h2⟩:=h x (pE ..);obtain⟨hx,ni⟩:=kf.1 hp;unfold RO;rw [ifN (by omega),ifN (by omega),ifN (by omega),Cr];refine a5Q l _ (by grind [YG]) ni λz hz=> ?_
  grind [a8B]
theorem aFh(l:List Dw):∀q:cB,(l.foldl kL q).co.length=aA q.co/\(l.foldl kL q).fu.length=aA q.fu:=by
 induction l with
 |nil=>grind
 |cons x l ih=>
  grind [YG]
def Km(q:cB):Prop:=∀x∈gQ q,0<=x/\x<=1099511627776
theorem aCd {q:cB} {x:Dw}(hf:aA q.fu=aA q.co)(h:Km q)(hx:0<=x.n/\x.n<=jd q x.k x.m):Km (kL q x):=by
 have hb:∀v∈q.co++q.fu++ [q.line,q.cap],0<=v/\v<=1099511627776:=h;have key:0<=jd q x.k x.m:=by omega
 intro v hv;rcases YA key with g|g|g|g
 ·have ht:jd q x.k x.m=cU q.co x.m:=by grind [SM]
  have hm:=hb _ (vE _ (vE _ (Ef g.1 g.2.1)));rw [YE g] at hv;unfold gQ at hv
  dsimp only at hv
  rcases gL.1 hv with hv|hv
  ·rcases gL.1 hv with hv|hv
   ·rcases List.mem_or_eq_of_mem_set hv with hv|hv
    ·exact hb _ (vE _ (vE _ hv))
    omega
   exact hb _ (vE _ (GN _ hv))
  exact hb _ (GN _ hv)
 ·have ht:jd q x.k x.m=cU q.fu x.m:=by grind [Kk]
  have hm:=hb _ (vE _ (GN _ (Ef (l:=q.fu) g.1 (by omega))));rw [YF g] at hv;unfold gQ at hv
  dsimp only at hv
  rcases gL.1 hv with hv|hv
  ·rcases gL.1 hv with hv|hv
   ·exact hb _ (vE _ (vE _ hv))
   rcases List.mem_or_eq_of_mem_set hv with hv|hv
   ·exact hb _ (vE _ (GN _ hv))
   omega
  exact hb _ (GN _ hv)
 ·have ht:jd q x.k x.m=q.line:=by grind [SK]
  have hm:=hb q.line (by simp);have vZ:=hb q.cap (by simp);rw [YC g] at hv;unfold gQ at hv
  dsimp only at hv
  rcases gL.1 hv with hv|hv
  ·exact hb _ (vE _ hv)
  grind
 have ht:jd q x.k x.m=q.cap:=by grind [SL]
 have hm:=hb q.cap (by simp);have vZ:=hb q.line (by simp);rw [YD g] at hv;unfold gQ at hv
 dsimp only at hv
 rcases gL.1 hv with hv|hv
 ·exact hb _ (vE _ hv)
 grind
theorem aCc {q:cB}(h1:aA q.co=aA q.fu)(h2:aA q.co<=16)(h:Km q):j9 q=0:=Xj h1 h2 λk hk=>by have:=h _ (cH hk);grind [xg]
theorem a3O {l:List Int} {m v:Int}(h1:1<=m)(h2:m<=aA l):∀k:Nat,BX (l.set (m-1).toNat v) k=if m<=k then BX l k-cU l m+v else BX l k
 |0=>by rw [ifN (by omega)];rfl
 |k+1=>by unfold BX;rw [a3O h1 h2 k,Uq h1 h2 (by omega)];grind
theorem a6Q {l os:List Int} {m v:Int}(h1:1<=m)(h2:m<=aA l)(ho:os.contains m=aO):∀k:Nat,pT (cU (l.set (m-1).toNat v)) os k=if m<=k then pT (cU l) os k-cU l m+v else pT (cU l) os k
 |0=>by rw [ifN (by omega)];rfl
 |k+1=>by unfold pT;rw [a6Q h1 h2 ho k,Uq h1 h2 (by omega)];grind
theorem aKF {q:cB} {x:Dw} {os:List Int}(hf:aA q.fu=aA q.co)(hx:0<=jd q x.k x.m)(ho:x.k=8->os.contains x.m=aO):wC (kL q x) os (aA q.co)=wC q os (aA q.co)-x.n:=by rw [Ni,Ni];grind [YA,YE,a6Q,YF,a3O,YC,YD]
theorem a5I:∀(l:List Dw) (q:cB) (os:List Int),aA q.fu=aA q.co->Km q->(l.Pairwise λx x'=>¬(x.k=x'.k/\x.m=x'.m))->(∀z∈l,0<=z.n/\z.n<=jd q z.k z.m/\(z.k=8->os.contains z.m=aO))->
 Km (l.foldl kL q)/\wC (l.foldl kL q) os (aA q.co)=wC q os (aA q.co)-cW l
 | [],q,os,_,ha,_,_=>⟨ha,by simp [cW]⟩
 |x::l,q,os,hf,ha,hp,h=>by
  obtain⟨h1,h2,h3⟩:=h x (pE ..);obtain⟨hx,ni⟩:=kf.1 hp;have hl:=YG q x;rw [Cr];obtain⟨i1,i2⟩:=a5I l (kL q x) os (by omega) (aCd hf ha ⟨h1,h2⟩) ni λz hz=>by grind [a8B]
  grind [cW,aKF]
def FW(z:Dw):Int×Int:=(z.k,z.m)
theorem a2w:∀(y:List Dw) (zs:List Int),((iy y zs).map FW).Sublist (y.map FW)
 | [],zs=>by simp [iy]
 |x::y,[]=>by simp [iy]
 |x::y,n::zs=>by
  rw [MD,dZ];have ih:=a2w y zs;by_cases h:0<n
  ·rw [ifP h];exact ih.cons_cons _
  grind
theorem a2t:∀ {y:List Dw} {zs:List Int} {z:Dw},(∀i (h:i<aA zs) (h':i<aA y),zs[i]<=y[i].n)->z∈iy y zs->0<z.n/\∃x∈y,z.k=x.k/\z.m=x.m/\z.n<=x.n
 | [],zs,z,_,hz=>by simp [iy] at hz
 |x::y,[],z,_,hz=>by simp [iy] at hz
 |x::y,n::zs,z,h,hz=>by
  rw [MD] at hz;rcases gL.1 hz with hz|hz
  ·grind [pE]
  obtain⟨h1,x',mV,h2⟩:=a2t (λi hi hi'=>h (i+1) (by simpa using hi) (by simpa using hi')) hz;grind
theorem aFs {y:List Dw} {nd:Int}(h:vJ y)(hn:0<=nd) {z:Dw}(hz:z∈nA y nd):0<z.n/\∃x∈y,z.k=x.k/\z.m=x.m/\z.n<=x.n:=by have G:=Es (a2G h hn);refine a2t (λi hi hi'=> ?_) hz;have:=(G.bd i hi (by grind [fj])).2;grind [fj]
theorem VX:∀(ys:List (List Dw)) (nd:Int),((gl nd ys).map FW).Sublist (ys.flatten.map FW)
 | [],nd=>by simp [gl]
 |y::ys,nd=>by unfold gl;rw [List.flatten_cons,dZ,dZ];exact(a2w y _).append (VX ys _)
theorem a3a:∀ {ys:List (List Dw)} {nd:Int},(∀y∈ys,vJ y)->0<=nd->∀z∈gl nd ys,0<z.n/\∃y∈ys,∃x∈y,z.k=x.k/\z.m=x.m/\z.n<=x.n
 | [],_,_,_,z,hz=>by simp [gl] at hz
 |y::ys,nd,h,hn,z,hz=>by
  have F:=Er (h y (by simp)) hn;have hs:=F.Fj;unfold gl at hz;rcases gL.1 hz with hz|hz
  ·obtain⟨h1,x,hx,e⟩:=aFs (h y (by simp)) hn hz;grind
  obtain⟨h1,y',hy,x,hx,e⟩:=a3a (λz hz=>h z (by simp [hz])) (by omega) z hz;grind
theorem aL3 {y:List Dw}(h:∀x∈y,0<=x.n):sumI (fj y)=cW y:=by grind [a2r,cW,Je]
theorem a3c:∀ {ys:List (List Dw)} {nd:Int},(∀y∈ys,vJ y)->0<=nd->cW (gl nd ys)=min nd ((ys.map cW).sum)
 | [],nd,_,hn=>by show (0:Int)=min nd 0;omega
 |y::ys,nd,h,hn=>by
  have F:=Er (h y (by simp)) hn;have hs:=F.Fj;have e:=aL3 λx hx=>((h y (by simp)).pos x hx).1
  have ih:=a3c (ys:=ys) (nd:=nd-min nd (sumI (fj y))) (λz hz=>h z (by simp [hz])) (by omega);have h0:=YN ys;unfold gl;rw [YS,F.CG,ih,yM,Ea,<-e];omega
theorem aFg {f:Int->Int->Int} {ys:List (List Dw)}(h:Gb f ys):(ys.flatten.map FW).Pairwise (· ≠ ·):=by
 rw [BK,List.pairwise_flatten];refine⟨λy hy=>(h.uniq y hy).imp λhne he=> ?_,h.up.imp λhlt x hx x' mV he=> ?_⟩
 ·grind [FW]
 grind [FW]
theorem aK7 {p:cB} {os:List Int}(h:gH p os=0):((fR p os).map cW).sum=rC p os:=by
 have F:=AP h;have vk:=XX h;have Df:=F.all p.line (by simp [gQ]);have hcp:=F.all p.cap (by simp [gQ]);have qw:∀x∈p.co,0<=x:=λx hx=>(F.all x (by simp [gQ,hx])).1
 have Db:∀x∈p.fu,0<=x:=λx hx=>(F.all x (by simp [gQ,hx])).1
 have e1:=NS 8 (cU p.co) os λm hm=>qw _ (Ef (F.os1 m hm).1 (F.os1 m hm).2)
 have e2:=NS 9 (cU p.fu) os λm hm=>Db _ (Ef (F.os1 m hm).1 (by have:=(F.os1 m hm).2;have:=F.len;omega))
 have e3:=Ke (cU p.co) (aA p.co) os vk F.os1;have e4:=Ke (cU p.fu) (aA p.co) os vk F.os1;have e5:=XZ (os:=os) Db (aA p.co) (by have:=F.len;omega);have e6:=Ni p os (aA p.co);rw [Xy h];unfold fR vy;rw [dZ,dZ,Ct,Ct,e1,e2,F.len];grind [YT]
theorem aKw {p:cB} {os:List Int}(F:GU p os) {y:List Dw}(hy:y∈fR p os) {x:Dw}(hx:x∈y):x.n=jd p x.k x.m/\(x.k=8->os.contains x.m=aO):=by
 have hl:=F.len;rcases Nq hy with⟨m,hm,rfl⟩|⟨m,hm,rfl⟩|rfl|rfl|rfl
 ·simp at hx;subst hx;have:=F.os1 m hm;grind [SM]
 ·simp at hx;subst hx;have:=F.os1 m hm;grind [Kk]
 ·obtain⟨i,hi,_,rfl⟩:=NV hx;grind [Kk,cU]
 ·grind [SK]
 grind [SL]
structure a8b(p:cB)(os:List Int)(need:Int)(l:List Dw):Prop where
 len:aA l<=1000
 one:∀z∈l,0<z.n/\z.n<=jd p z.k z.m/\(z.k=8->os.contains z.m=aO)
 uniq:l.Pairwise λx x'=>¬(x.k=x'.k/\x.m=x'.m)
 CG:cW l=min need (rC p os)
theorem a1t {p:cB} {os:List Int} {need:Int}(h:sO p os need=0)(hI:aL need)(ky:aA os<=100):a8b p os need (oO p os need):=by
 have O:=aIu h hI ky;have hm:gH p os=0:=by grind [sO]
 have hn:0<=need:=by grind [sO]
 have F:=AP hm;have dS:=YB F;have e:oO p os need=gl need (fR p os):=by grind [oO,tY,Q7]
 refine⟨O.len, ?_, ?_, ?_⟩
 ·rw [e];intro z hz;obtain⟨h1,y,hy,x,hx,e1,e2,e3⟩:=a3a dS hn z hz;grind [aKw]
 ·rw [e];have:=(aFg (a7c hm)).sublist (VX (fR p os) need);grind [FW]
 grind [a3c,aK7]
structure a8c(p:cB)(os:List Int)(need:Int)(l:List Dw):Prop where
 less:a5L p l=(l.foldl kL p,0)
 may:gH (l.foldl kL p) os=0
 room:rC (l.foldl kL p) os=rC p os-cW l
 chk:j9 (l.foldl kL p)=0
 CG:sQ l=min need (rC p os)
 cW:cW l=min need (rC p os)
 aNB:gH p os=0
 aN8:0<=need
theorem aDE {p:cB} {os:List Int} {need:Int}(h:sO p os need=0)(hI:aL need)(ky:aA os<=100):a8c p os need (oO p os need):=by
 have B:=a1t h hI ky;have hm:gH p os=0:=by grind [sO]
 have hn:0<=need:=by grind [sO]
 have F:=AP hm;generalize oO p os need=l at*;have hl:=aFh l p;obtain⟨a1,a2⟩:=a5I l p os F.len F.all B.uniq λz hz=>⟨by have:=(B.one z hz).1;omega,(B.one z hz).2.1,(B.one z hz).2.2⟩
 have ID:j9 p=0:=by grind [gH]
 have hce:=aCc (by rw [hl.1,hl.2];exact F.len.symm) (by rw [hl.1];exact F.big) a1;have hme:gH (l.foldl kL p) os=0:=by grind [gH]
 refine⟨?_,hme, ?_,hce, ?_,B.CG,hm,hn⟩
 ·unfold a5L;rw [ifN (by omega)];exact a5Q l p F.len B.uniq λz hz=>⟨by have:=(B.one z hz).1;omega,(B.one z hz).2.1⟩
 ·grind [Xy]
 have:=B.CG;grind [aL,SP]
structure Sm(D D':Dk):Prop where
 x:D'.x=D.x
 h:D'.h=D.h
 ob:D'.ob=D.ob
 bx:D'.bx=D.bx
 who:D'.who=D.who
 ai:D'.ai=D.ai
 st:D'.st=D.st
 en:D'.en=D.en
 lg:∃t,D'.log=D.log++t/\∀e∈t,e.k≠15
theorem Sm.refl(D:Dk):Sm D D:=⟨rfl,rfl,rfl,rfl,rfl,rfl,rfl,rfl,[],by simp,by simp⟩
theorem Sm.trans {D E F:Dk}(h:Sm D E)(h':Sm E F):Sm D F:=by obtain⟨t,e,ht⟩:=h.lg;obtain⟨t',e',AH⟩:=h'.lg;exact⟨h'.x.trans h.x,h'.h.trans h.h,h'.ob.trans h.ob,h'.bx.trans h.bx,h'.who.trans h.who,h'.ai.trans h.ai,h'.st.trans h.st,h'.en.trans h.en,t++t',by grind,λx hx=>(gL.1 hx).elim (ht x) (AH x)⟩
def oB(a:Int):List Lg->Int
 | []=>0
 |x::L=>(if x.a=a then x.n else 0)+oB a L
theorem PZ {a:Int}:∀ {L:List Lg},(∀x∈L,1<=x.n)->0<=oB a L
 | [],_=>dM 0
 |x::L,h=>by have:=h x (by simp);have:=PZ (a:=a) (L:=L) (λy hy=>h y (dh _ hy));grind [oB]
abbrev B(D:Dk)(k m a:Int):Int:=balA (aA D.x.ms) (aA D.x.ss+1) D.l k m a
def yK(x:ak)(y:Lg):Prop:=(1<=y.m/\y.m<=(aA x.ms:Int))/\(0<=y.a/\y.a<=(aA x.ss:Int))/\1<=y.n
theorem aw.give {C:Int} {g:Nat} {D:Dk}(H:aw C g D) {x:Lg}(hx:yK D.x x)(h2:x.n<=B D 1 0 x.a):
 aw C (g+1) (Hk D x)/\Sm D (Hk D x)/\(∀k m b,k≠1->k≠7->B (Hk D x) k m b=B D k m b)/\∀b,B (Hk D x) 1 0 b=B D 1 0 b-if x.a=b then x.n else 0:=by
 obtain⟨_,h,hd⟩:=H.goes (tk:=7) (tm:=x.m) (a:=x.a) (n:=x.n) (e:=⟨13,x.m,x.a,x.n,0⟩) (.inl ⟨rfl,hx.1⟩) hx.2.1 hx.2.2 h2 ⟨rfl,rfl,rfl⟩;refine⟨h,⟨rfl,rfl,rfl,rfl,rfl,rfl,rfl,rfl,[⟨13,x.m,x.a,x.n,0⟩],rfl,by simp⟩, ?_, ?_⟩
 ·intro k m b h1 h7;refine(hd k m b).trans ?_;grind
 intro b;refine(hd 1 0 b).trans ?_;grind
theorem aw.gives:∀(L:List Lg) {C:Int} {g:Nat} {D:Dk},aw C g D->(∀x∈L,yK D.x x)->(∀a,oB a L<=B D 1 0 a)->
 (∀k,k<=aA L->aw C (g+k) (iz D (L.take k)))/\Sm D (iz D L)/\(∀k m b,k≠1->k≠7->B (iz D L) k m b=B D k m b)/\∀b,B (iz D L) 1 0 b=B D 1 0 b-oB b L
 | [],C,g,D,H,_,_=>⟨λk hk=>by have:k=0:=by simpa using hk
                              subst this;exact H,Sm.refl D,λ_ _ _ _ _=>rfl,λb=>by simp [oB,iz]⟩
 |x::L,C,g,D,H,hx,ha=>by
  have h1:=hx x (by simp);have hp:∀y∈L,yK D.x y:=λy hy=>hx y (dh _ hy)
  have Mq:=λa=>PZ (a:=a) (L:=L) (λy hy=>(hp y hy).2.2)
  have h2:x.n<=B D 1 0 x.a:=by have h3:=ha x.a;have:=Mq x.a;unfold oB at h3;rw [ifP rfl] at h3;omega
  obtain⟨G,S,K,Hs⟩:=H.give h1 h2;have ih:=aw.gives L G hp (λa=>by have:=ha a;rw [Hs a];simp only [oB] at this;omega);obtain⟨G2,S2,K2,H2⟩:=ih;refine⟨?_,S.trans S2, ?_, ?_⟩
  ·intro k hk;cases k with
   |zero=>exact H
   |succ k=>
    have:=G2 k (by simpa using hk);rw [show g+(k+1)=g+1+k by omega];exact this
  ·intro k m b e1 e7;exact(K2 k m b e1 e7).trans (K k m b e1 e7)
  intro b;refine(H2 b).trans ?_;rw [Hs b];simp only [oB];omega
theorem aw.Pz {C:Int} {kd:Int}(hk:kd=4\/kd=14\/kd=15):∀(L:List Lg) {g:Nat} {D:Dk},aw C g D->(∀x∈L,(0<=x.a/\x.a<=(aA D.x.ss:Int))/\(1<=x.n\/kd=4))->aw C (g+aA L) (kE D kd L)
 | [],g,D,H,_=>by show aw C g {D with log:=D.log++ []};rw [List.append_nil];exact H
 |x::L,g,D,H,h=>by
  have h1:=h x (by simp);have hf:yT ⟨kd,x.m,x.a,x.n,0⟩=0:=by grind [yT]
  have G:aw C (g+1) {D with log:=D.log++ [⟨kd,x.m,x.a,x.n,0⟩]}:=by
   have gW:∀a,my (D.log++ [⟨kd,x.m,x.a,x.n,0⟩]) a=B D 1 0 a:=λa=>by rw [DO,DR,H.fl a,hf];split<;>simp
   refine⟨H.hs,H.bD,H.h8,H.hl,gW,H.lg.snoc ⟨h1.1.1,h1.1.2, ?_⟩ (λa=>by rw [gW];have h5:=H.house a;have h6:=H.bD.big;exact⟨h5.1,by grind⟩),by show aA (D.log++ [_])<=g+1;rw [cN];have:=H.gl;simp;omega,H.who,H.ob,H.bx,H.bl,H.st,H.ai⟩;grind
  have ih:=aw.Pz hk L G (λy hy=>h y (dh _ hy));grind [kE]
theorem a2y(D:Dk) {kd:Int}(hk:kd≠15)(L:List Lg):Sm D (kE D kd L):=⟨rfl,rfl,rfl,rfl,rfl,rfl,rfl,rfl,_,rfl,λe he=>by grind⟩
def Lm(x:ak)(k m:Int):Prop:=((k=8\/k=9)/\1<=m/\m<=(aA x.ms:Int))\/((k=3\/k=4)/\m=0)
theorem aw.comes {C:Int} {g:Nat} {D:Dk}(H:aw C g D) {x:Dw}(hs:Lm D.x x.k x.m)(hh:D.h= [])(h1:1<=x.n)(h2:x.n<=B D x.k x.m 0)(hC:C+2*x.n<=4611686018427387904+1125899906842624):
 aw (C+2*x.n) (g+1) (qI D x)/\Sm D (qI D x)/\∀k m b,B (qI D x) k m b=B D k m b+((if k=x.k/\m=x.m/\b=0 then-x.n else 0)+(if k=1/\m=0/\b=0 then x.n else 0)):=by
 obtain⟨fk,fm,n⟩:=x;simp only at hs h1 h2 hC ⊢;obtain⟨j,hj⟩:=Nc (M:=aA D.x.ms) (A:=aA D.x.ss+1) (a:=0) (by omega) (by omega);have hi:∃i,plcA (aA D.x.ms) (aA D.x.ss+1) fk fm 0=aC i:=by
  rcases hs with⟨h,h'⟩|⟨h,rfl⟩
  ·exact Bx (.inr h) h' (by omega) (by omega)
  rcases h with rfl|rfl
  ·exact aJZ (by omega) (by omega)
  exact aJX (by omega) (by omega)
 obtain⟨i,hi⟩:=hi;have hne:¬fk=1:=by rcases hs with⟨h,_⟩|⟨h,_⟩<;>omega
 have zx:=H.house 0;have hF:=H.bD.F0;have bP:B D fk fm 0<=1099511627776:=by
  rcases hs with⟨h|h,_⟩|⟨h|h,rfl⟩
  ·subst h;exact H.bD.tN fm 0
  ·subst h;have:=H.bD.zo fm 0;show balA _ _ _ _ _ _<=_;omega
  ·subst h;have:=H.bD.AL 0;show balA _ _ _ _ _ _<=_;omega
  subst h;have:=H.bD.cap 0;show balA _ _ _ _ _ _<=_;omega
 have uX:n<=balA (aA D.x.ms) (aA D.x.ss+1) D.l fk fm 0:=h2;have aMb:balA (aA D.x.ms) (aA D.x.ss+1) D.l fk fm 0<=1099511627776:=bP;have QS:ug D fk fm 1 0 0 n=0:=NP hi hj (by omega) (by omega) (by unfold aL;omega) (.inr ⟨uX,by rw [hh];show (0:Int)<=_;omega⟩) (by unfold aL;omega) (by unfold aL;omega) H.bD.ok.len;have hd:=RT QS H.bD.ok.len hi hj;have dS:nN (aA D.x.ms) (aA D.x.ss+1) (bj D fk fm 1 0 0 n):=nN.mv H.bD.ok H.hs.sl.2;have gW:∀b,my (D.log++ [⟨10,fm,0,n,fk⟩]) b=balA (aA D.x.ms) (aA D.x.ss+1) (bj D fk fm 1 0 0 n) 1 0 b:=by intro b;rw [DO,DR,H.fl b,hd,show yT ⟨10,fm,0,n,fk⟩=n from rfl];grind
 refine⟨⟨H.hs,⟨dS, ?_, ?_, ?_, ?_, ?_, ?_, ?_,hC,H.bD.F0⟩,H.h8,H.hl, ?_, ?_, ?_,H.who,H.ob,H.bx,H.bl,H.st,H.ai⟩,⟨rfl,rfl,rfl,rfl,rfl,rfl,rfl,rfl,[⟨10,fm,0,n,fk⟩],rfl,by simp⟩,hd⟩
 ·intro m b;refine jz (rU (hd 8 m b)) ?_;have:=H.bD.tN m b;split<;>split<;>omega
 ·intro m b;refine jz (rU (hd 9 m b)) ?_;have:=H.bD.zo m b;show balA _ _ _ _ _ _+_<=(if D.en=aO then (1099511627776:Int) else 0);omega
 ·intro b;refine jz (rU (hd 3 0 b)) ?_;have:=H.bD.AL b;show balA _ _ _ _ _ _+_<=(if D.en=aO then (1099511627776:Int) else 0);omega
 ·intro b;refine jz (rU (hd 4 0 b)) ?_;have:=H.bD.cap b;show balA _ _ _ _ _ _+_<=(if D.en=aO then (1099511627776:Int) else 0);omega
 ·intro m b;show _<=balA (aA D.x.ms) (aA D.x.ss+1) (bj D fk fm 1 0 0 n) 7 m b+balA (aA D.x.ms) (aA D.x.ss+1) (bj D fk fm 1 0 0 n) 8 m b-balA (aA D.x.ms) (aA D.x.ss+1) (bj D fk fm 1 0 0 n) 1 0 b;rw [hd 7,hd 8,hd 1];have:=H.bD.lo m b;grind
 ·intro m b;show balA (aA D.x.ms) (aA D.x.ss+1) (bj D fk fm 1 0 0 n) 7 m b+balA (aA D.x.ms) (aA D.x.ss+1) (bj D fk fm 1 0 0 n) 8 m b+balA (aA D.x.ms) (aA D.x.ss+1) (bj D fk fm 1 0 0 n) 1 0 b<=_;rw [hd 7,hd 8,hd 1];have:=H.bD.hi m b;grind
 ·intro b;show balA (aA D.x.ms) (aA D.x.ss+1) (bj D fk fm 1 0 0 n) 2 0 b+balA (aA D.x.ms) (aA D.x.ss+1) (bj D fk fm 1 0 0 n) 1 0 b<=_;rw [hd 2,hd 1];have:=H.bD.es b;grind
 ·intro b;exact gW b
 ·refine H.lg.snoc ⟨by grind,by grind,.inl h1⟩ (λb=> ?_);rw [gW];refine⟨dS.nn rfl 0 b, ?_⟩;rw [hd];have h5:=(H.house b).2;omega
 show aA (D.log++ [_])<=g+1;rw [cN];have:=H.gl;simp;omega
def Hf(k m:Int):List Dw->Int
 | []=>0
 |x::L=>(if k=x.k/\m=x.m then x.n else 0)+Hf k m L
theorem VI {k m:Int}:∀ {L:List Dw},(∀x∈L,¬(k=x.k/\m=x.m))->Hf k m L=0
 | [],_=>rfl
 |x::L,h=>by simp only [Hf];rw [ifN (h x (by simp)),VI (λy hy=>h y (dh _ hy))];rfl
theorem aw.draws:∀(L:List Dw) {C:Int} {g:Nat} {D:Dk},aw C g D->D.h= []->(∀x∈L,Lm D.x x.k x.m/\1<=x.n/\x.n<=B D x.k x.m 0)->(L.Pairwise λx x'=>¬(x.k=x'.k/\x.m=x'.m))->C+2*cW L<=4611686018427387904+1125899906842624->
 (∀k,k<=aA L->aw (C+2*cW L) (g+k) (oG D (L.take k)))/\Sm D (oG D L)/\(∀k m b,B (oG D L) k m b=B D k m b+((if b=0 then-Hf k m L else 0)+(if k=1/\m=0/\b=0 then cW L else 0)))
 | [],C,g,D,H,_,_,_,hC=>by grind [cW,Sm.refl,Hf,oG]
 |x::L,C,g,D,H,hh,hx,hp,hC=>by
  rw [kf] at hp;have h1:=hx x (by simp);have hn:=Ir L;have hne:¬(x.k=1):=by rcases h1.1 with⟨h,_⟩|⟨h,_⟩<;>omega
  have et:cW (x::L)=x.n+cW L:=by grind [cW]
  rw [et] at hC ⊢;obtain⟨G,S,K⟩:=H.comes h1.1 hh h1.2.1 h1.2.2 (by omega);have ih:=aw.draws L G (by rw [S.h];exact hh) (λy hy=>by
   have hy':=hx y (dh _ hy);have hd:=hp.1 y hy;have hny:¬(y.k=1):=by rcases hy'.1 with⟨h,_⟩|⟨h,_⟩<;>omega
   refine⟨hy'.1,hy'.2.1, ?_⟩;grind) hp.2 (by omega)
  obtain⟨G2,S2,K2⟩:=ih;refine⟨?_,S.trans S2, ?_⟩
  ·intro k hk;cases k with
   |zero=>exact(H.wide (by omega) (by omega) (by omega))
   |succ k=>
    have:=G2 k (by simpa using hk);rw [show g+(k+1)=g+1+k by omega,show C+2*(x.n+cW L)=C+2*x.n+2*cW L by omega];exact this
  intro k m b;refine(K2 k m b).trans ?_;grind [Hf]
theorem V9(D:Dk)(n:Nat) {i:Nat}(hi:i<aA (iA D n)):(iA D n)[i]=B D 8 ((i:Int)+1) 0:=by simp [iA,B]
theorem VU(D:Dk)(n:Nat) {i:Nat}(hi:i<aA (iG D n)):(iG D n)[i]=B D 9 ((i:Int)+1) 0:=by simp [iG,B]
theorem a1l(D:Dk) {m:Int}(h1:1<=m)(h2:m<=(aA D.x.ms:Int)):cU (iA D (aA D.x.ms)) m=B D 8 m 0:=by
 unfold cU;have hl:(m-1).toNat<aA (iA D (aA D.x.ms)):=by rw [pJ];omega
 rw [tA,iE hl,P7,V9,show (((m-1).toNat:Nat):Int)+1=m by omega]
theorem a1m(D:Dk) {m:Int}(h1:1<=m)(h2:m<=(aA D.x.ms:Int)):cU (iG D (aA D.x.ms)) m=B D 9 m 0:=by
 unfold cU;have hl:(m-1).toNat<aA (iG D (aA D.x.ms)):=by rw [vR];omega
 rw [tA,iE hl,P7,VU,show (((m-1).toNat:Nat):Int)+1=m by omega]
theorem aw.may {C:Int} {g:Nat} {D:Dk}(H:aw C g D):gH (ju D) D.who=0:=by
 have hF:(if D.en=aO then (1099511627776:Int) else 0)<=1099511627776:=by split<;>omega
 refine a5X (Xj (by show aA (iA D _)=aA (iG D _);rw [pJ,vR]) (by show aA (iA D _)<=16;rw [pJ];exact H.hs.ml.2) ?_) ?_
 ·intro k hk;have hm:=cH hk;generalize (gQ (ju D))[k]=v at hm;have Qc:v∈iA D (aA D.x.ms)++iG D (aA D.x.ms)++ [B D 3 0 0,B D 4 0 0]:=hm;have key:0<=v/\v<=1099511627776:=by
   simp only [gL,fE,List.not_mem_nil,or_false] at Qc;rcases Qc with (h|h)|h|h
   ·obtain⟨i,_,rfl⟩:=df.1 h;exact⟨H.bD.ok.nn rfl _ _,H.bD.tN _ _⟩
   ·obtain⟨i,_,rfl⟩:=df.1 h;exact⟨H.bD.ok.nn rfl _ _,jz (H.bD.zo _ _) hF⟩
   ·subst h;exact⟨H.bD.ok.nn rfl _ _,jz (H.bD.AL _) hF⟩
   subst h;exact⟨H.bD.ok.nn rfl _ _,jz (H.bD.cap _) hF⟩
  grind [xg]
 intro k hk;have hg:D.who.getD k 0=D.who[k]:=by grind
 have h1:=H.who.pP _ (cH hk);unfold tX;rw [hg,show (ju D).co.length=(aA D.x.ms) from pJ _ _,decide_eq_false (by omega),decide_eq_false (by omega),Bool.false_or,Bool.false_or];by_cases h0:0<k
 ·have xR:k-1<aA D.who:=by omega
  have hg1:D.who.getD (k-1) 0=D.who[k-1]:=by grind
  have:=vF.1 H.who.up (k-1) k xR hk (by omega);grind
 grind
def mE(D:Dk):Int:=rC (ju D) D.who
theorem aw.room {C:Int} {g:Nat} {D:Dk}(H:aw C g D):0<=mE D/\mE D<=37383395344384:=by
 unfold mE;rw [Xy H.may];have h:=Y0 (AP H.may) (ju D).co.length (aa _);have hl:(ju D).co.length<=16:=by rw [show (ju D).co.length=(aA D.x.ms) from pJ _ _];exact H.hs.ml.2
 omega
theorem aJe {D:Dk} {x:Dw}(hs:Lm D.x x.k x.m)(K:∀k m b,B (qI D x) k m b=B D k m b+((if k=x.k/\m=x.m/\b=0 then-x.n else 0)+(if k=1/\m=0/\b=0 then x.n else 0))):ju (qI D x)=kL (ju D) x:=by
 obtain⟨fk,fm,n⟩:=x;have jY:(ju D).co.length=aA D.x.ms:=pJ _ _;have e8:∀i:Nat,i<aA D.x.ms->B (qI D ⟨fk,fm,n⟩) 8 ((i:Int)+1) 0=B D 8 ((i:Int)+1) 0+(if 8=fk/\(i:Int)+1=fm then-n else 0):=λi _=>by rw [K];simp
 have e9:∀i:Nat,i<aA D.x.ms->B (qI D ⟨fk,fm,n⟩) 9 ((i:Int)+1) 0=B D 9 ((i:Int)+1) 0+(if 9=fk/\(i:Int)+1=fm then-n else 0):=λi _=>by rw [K];simp
 have e3:=K 3 0 0;have e4:=K 4 0 0;have qw:¬fk=8->iA (qI D ⟨fk,fm,n⟩) (aA D.x.ms)=iA D (aA D.x.ms):=λh=>by refine Lc (by rw [pJ,pJ]) (λi h1 h2=> ?_);grind [V9]
 have Db:¬fk=9->iG (qI D ⟨fk,fm,n⟩) (aA D.x.ms)=iG D (aA D.x.ms):=λh=>by refine Lc (by rw [vR,vR]) (λi h1 h2=> ?_);grind [VU]
 have hp:∀li ca,B (qI D ⟨fk,fm,n⟩) 3 0 0=li->B (qI D ⟨fk,fm,n⟩) 4 0 0=ca->ju (qI D ⟨fk,fm,n⟩)=⟨iA (qI D ⟨fk,fm,n⟩) (aA D.x.ms),aB,0,iG (qI D ⟨fk,fm,n⟩) (aA D.x.ms),aB,0,li,ca⟩:=by rintro _ _ rfl rfl;rfl
 simp only at e3 e4 hs;unfold kL;rw [jY];rcases hs with⟨h|h,h1,h2⟩|⟨h|h,h1⟩
 ·subst h;rw [ifP ⟨h1,h2,rfl⟩,hp (B D 3 0 0) (B D 4 0 0) (by rw [e3];simp) (by rw [e4];simp),Db (by decide)];have:iA (qI D ⟨8,fm,n⟩) (aA D.x.ms)=(iA D (aA D.x.ms)).set (fm-1).toNat (cU (iA D (aA D.x.ms)) fm-n):=by
   refine Lc (by grind [pJ]) (λi g1 g2=> ?_);grind [pJ,V9,a1l]
  rw [this];rfl
 ·subst h;rw [ifN (by simp),ifP ⟨h1,h2,rfl⟩,hp (B D 3 0 0) (B D 4 0 0) (by rw [e3];simp) (by rw [e4];simp),qw (by decide)];have:iG (qI D ⟨9,fm,n⟩) (aA D.x.ms)=(iG D (aA D.x.ms)).set (fm-1).toNat (cU (iG D (aA D.x.ms)) fm-n):=by
   refine Lc (by grind [vR]) (λi g1 g2=> ?_);grind [vR,VU,a1m]
  rw [this];rfl
 ·subst h h1;rw [ifN (by simp),ifN (by simp),ifP ⟨rfl,rfl⟩,hp (B D 3 0 0-n) (B D 4 0 0) (by rw [e3];simp;omega) (by rw [e4];simp),qw (by decide),Db (by decide)];rfl
 subst h h1;rw [ifN (by simp),ifN (by simp),ifN (by simp),hp (B D 3 0 0) (B D 4 0 0-n) (by rw [e3];simp) (by rw [e4];simp;omega),qw (by decide),Db (by decide)];rfl
theorem a6W:∀(L:List Dw) {C:Int} {g:Nat} {D:Dk},aw C g D->D.h= []->(∀x∈L,Lm D.x x.k x.m/\1<=x.n/\x.n<=B D x.k x.m 0)->(L.Pairwise λx x'=>¬(x.k=x'.k/\x.m=x'.m))->C+2*cW L<=4611686018427387904+1125899906842624->
 ju (oG D L)=L.foldl kL (ju D)
 | [],C,g,D,_,_,_,_,_=>rfl
 |x::L,C,g,D,H,hh,hx,hp,hC=>by
  rw [kf] at hp;have h1:=hx x (by simp);have hn:=Ir L;have hne:¬(x.k=1):=by rcases h1.1 with⟨h,_⟩|⟨h,_⟩<;>omega
  have et:cW (x::L)=x.n+cW L:=by grind [cW]
  rw [et] at hC;obtain⟨G,S,K⟩:=H.comes h1.1 hh h1.2.1 h1.2.2 (by omega);rw [Cr,<-aJe h1.1 K];exact a6W L G (by rw [S.h];exact hh) (λy hy=>by
   have hy':=hx y (dh _ hy);have hd:=hp.1 y hy;have hny:¬(y.k=1):=by rcases hy'.1 with⟨h,_⟩|⟨h,_⟩<;>omega
   refine⟨hy'.1,hy'.2.1, ?_⟩;grind) hp.2 (by omega)
structure a8g(C:Int)(g:Nat)(D:Dk)(n:Int):Prop where
 steps:∀k,k<=aA (iF D n)->aw (C+140737488355328) (g+k) (oG D ((iF D n).take k))
 len:aA (iF D n)<=50
 dI:∀x∈iF D n,aL x.k/\aL x.m/\aL x.n/\0<=x.n
 sm:Sm D (ly D n)
 keep:∀k m b,(b≠0\/k=2\/k=5\/k=6\/k=7)->B (ly D n) k m b=B D k m b
 house:B (ly D n) 1 0 0=B D 1 0 0+min (max n 0) (mE D)
 room:mE (ly D n)=mE D-min (max n 0) (mE D)
theorem aKx(p:cB)(os:List Int):(fR p os).flatten.length<=2*aA os+aA p.fu+2:=by
 have h:=Kd p.fu os (aA p.fu);have h1:∀(f:Int->Dw) (l:List Int),(l.map (λm=> [f m])).flatten.length=aA l:=by
  intro f l;induction l with
  |nil=>rfl
  |cons x l ih=>grind
 unfold fR;rw [a9u,a9u,cN,cN,h1 (λm=>⟨8,m,cU p.co m⟩),h1 (λm=>⟨9,m,cU p.fu m⟩)];grind [vy]
theorem aJT {p:cB} {os:List Int} {need:Int}(h:sO p os need=0)(hm:gH p os=0)(hn:0<=need)(hI:aL need):aA (oO p os need)<=2*aA os+aA p.fu+2:=by
 have dS:=YB (AP hm);have e:oO p os need=gl need (fR p os):=by grind [oO,tY,Q7]
 grind [VX,iV,aKx]
theorem aw.drawn {C:Int} {g:Nat} {D:Dk}(H:aw C g D)(hh:D.h= []) {n:Int}(hn:aL n)(hC:C+140737488355328<=4611686018427387904+1125899906842624):a8g C g D n:=by
 have hr:=H.room;by_cases h0:n<=0
 ·have e:iF D n= []:=by grind [iF]
  have e':ly D n=D:=by unfold ly;rw [e];rfl
  have em:min (max n 0) (mE D)=0:=by omega
  refine⟨?_,by rw [e];simp,by rw [e];simp,by grind [Sm.refl],λk m b _=>by rw [e'],by rw [e',em];omega,by rw [e',em];omega⟩;rw [e];intro k hk;have:k=0:=by simpa using hk
  subst this;exact H.wide (by omega) hC (by omega)
 have ID:sO (ju D) D.who n=0:=by unfold sO;rw [ifN (by rw [H.may];simp),ifN (by omega)]
 have KM:=H.who.len;have ir:=H.hs.ml;have BF:=a1t ID hn (by omega);have BL:=aDE ID hn (by omega);have hpl:=aJT ID H.may (by omega) hn;have e:iF D n=oO (ju D) D.who n:=by grind [iF]
 have gW:(ju D).fu.length=aA D.x.ms:=vR _ _;have jY:(ju D).co.length=aA D.x.ms:=pJ _ _;rw [<-e] at BF BL hpl;have IJ:∀x∈iF D n,Lm D.x x.k x.m/\1<=x.n/\x.n<=B D x.k x.m 0:=λx hx=>by
  obtain⟨a1,a2,_⟩:=BF.one x hx;have h8:0<=jd (ju D) x.k x.m:=by omega
  rcases YA h8 with g|g|g|g
  ·rw [jY] at g;refine⟨.inl ⟨.inl g.2.2,g.1,g.2.1⟩,a1, ?_⟩;grind [SM,ju,a1l]
  ·rw [jY] at g;refine⟨.inl ⟨.inr g.2.2,g.1,g.2.1⟩,a1, ?_⟩;grind [Kk,ju,a1m]
  ·refine⟨.inr ⟨.inl g.2,g.1⟩,a1, ?_⟩;rw [g.1,g.2,SK] at a2;rw [g.1,g.2];exact a2
  refine⟨.inr ⟨.inr g.2,g.1⟩,a1, ?_⟩;rw [g.1,g.2,SL] at a2;rw [g.1,g.2];exact a2
 have ht:cW (iF D n)=min n (mE D):=BF.CG;have N4:C+2*cW (iF D n)<=C+140737488355328:=by rw [ht];omega
 obtain⟨G,S,K⟩:=aw.draws (iF D n) H hh IJ BF.uniq (by omega);have aGp:=a6W (iF D n) H hh IJ BF.uniq (by omega);have em:min (max n 0) (mE D)=cW (iF D n):=by rw [ht];omega
 refine⟨λk hk=>(G k hk).wide N4 hC (aa _),by omega, ?_,S, ?_, ?_, ?_⟩
 ·intro x hx;obtain⟨s,a1,a2⟩:=IJ x hx;have hb:B D x.k x.m 0<=1099511627776:=by
   have hF:(if D.en=aO then (1099511627776:Int) else 0)<=1099511627776:=by split<;>omega
   rcases s with⟨h|h,_⟩|⟨h|h,e⟩
   ·rw [h];exact H.bD.tN _ _
   ·rw [h];exact jz (H.bD.zo _ _) hF
   ·rw [h,e];exact jz (H.bD.AL _) hF
   rw [h,e];exact jz (H.bD.cap _) hF
  refine⟨?_, ?_,by unfold aL;omega,by omega⟩<;>rcases s with⟨h,h',h''⟩|⟨h,h'⟩<;>unfold aL<;>omega
 ·intro k m b hkb;refine(K k m b).trans ?_;have hd:b=0->Hf k m (iF D n)=0:=λ_=>VI (λx hx AB=>by
   obtain⟨s,_,_⟩:=IJ x hx;rcases s with⟨h,_⟩|⟨h,_⟩<;>omega)
  omega
 ·refine(K 1 0 0).trans ?_;rw [ifP rfl,ifP ⟨rfl,rfl,rfl⟩,VI (λx hx AB=>by
   obtain⟨s,_,_⟩:=IJ x hx;rcases s with⟨h,_⟩|⟨h,_⟩<;>omega),em]
  omega
 show rC (ju (oG D (iF D n))) (oG D (iF D n)).who=_;rw [aGp,S.who,BL.room,em];rfl
def jw(p:Lg->Bool):List Lg->Int
 | []=>0
 |x::l=>(if p x then x.n else 0)+jw p l
theorem S8(p:Lg->Bool):∀(l m:List Lg),jw p (l++m)=jw p l+jw p m
 | [],m=>by simp [jw]
 |x::l,m=>by simp only [List.cons_append,jw,S8 p l m];omega
theorem Kj:∀l:List Lg,jw (λ_=>aO) l=sumI (bG l)
 | []=>rfl
 |x::l=>by have:=Kj l;grind [jw,bG,sumI]
theorem YI(p:Lg->Bool):∀(l:List Lg),(∀x∈l,0<=x.n)->0<=jw p l
 | [],_=>by simp [jw]
 |x::l,h=>by
  have h1:=YI p l λy hy=>h y (dh _ hy)
  grind [jw]
def NN(x:Lg)(n:Int):Lg:=⟨x.m,x.a,n⟩
theorem Y7(x:Lg)(L:List Lg)(n:Int)(xs:List Int):eo (x::L) (n::xs)=(if 0<n then [NN x n] else [])++eo L xs:=by
 unfold eo;rw [Eb];by_cases c:0<n
 ·rw [List.filter_cons_of_pos (by simpa using c),ifP c];rfl
 grind
def pm(m:Int)(x:Lg):Bool:=x.m==m
def UH(p:Lg->Bool):Prop:=∀x n,p (NN x n)=p x
theorem aHw(m:Int):UH (pm m):=λ_ _=>rfl
theorem aHv:UH (λ_=>aO):=λ_ _=>rfl
theorem Y9 {p:Lg->Bool}(hp:UH p):∀(L:List Lg) (xs:List Int),aA xs=aA L->(∀x∈xs,0<=x)->(∀x∈kR (· - ·) (bG L) xs,0<=x)->
 jw p (eo L xs)+jw p (eo L (kR (· - ·) (bG L) xs))=jw p L
 | [],[],_,_,_=>by simp [eo,jw,bG]
 |x::L,n::xs,hl,h0,h1=>by
  have ih:=Y9 hp L xs (by simpa using hl) (λy hy=>h0 y (dh _ hy)) (λy hy=>h1 y (by grind [bG,Eb]));have a0:=h0 n (pE ..);have a1:=h1 (x.n-n) (by grind [bG,Eb]);have e:kR (· - ·) (bG (x::L)) (n::xs)=(x.n-n)::kR (· - ·) (bG L) xs:=rfl;have q:∀k:Int,0<=k->jw p (if 0<k then [NN x k] else [])=if p x then k else 0:=λk hk=>by
   by_cases c:0<k
   ·rw [ifP c];simp only [jw];rw [hp x k];grind [NN]
   grind [jw]
  rw [e,Y7,Y7,S8,S8,q n a0,q _ a1];grind [jw]
 | [],_::_,hl,_,_=>by simp at hl
 |_::_,[],hl,_,_=>by simp at hl
theorem a7T:∀(L:List Lg) (xs:List Int),aA xs=aA L->(∀x∈xs,0<=x)->jw (λ_=>aO) (eo L xs)=sumI xs
 | [],[],_,_=>rfl
 |x::L,n::xs,hl,h0=>by have ih:=a7T L xs (by simpa using hl) (λy hy=>h0 y (dh _ hy));have a0:=h0 n (pE ..);rw [Y7,S8,ih];grind [jw,sumI,NN]
 | [],_::_,hl,_=>by simp at hl
 |_::_,[],hl,_=>by simp at hl
theorem a7Q(L:List Lg)(xs:List Int):∀x∈eo L xs,0<=x.n:=by grind [eo]
theorem aJw {L:List Lg}(h:dD L=0):∀k (hk:k<aA L) i (hi:i<aA L),i<k->L[i].m<L[k].m:=by
 obtain⟨_,b,_⟩:=BS h;have step:∀k (hk:k+1<aA L),L[k].m<L[k+1].m:=λk hk=>by grind [Gp,Rh]
 intro k;induction k with
 |zero=>intro _ i _ h;omega
 |succ k ih=>
  grind
theorem a7n {p:Lg->Bool}:∀ {l:List Lg},(∀x∈l,p x=aP)->jw p l=0
 | [],_=>rfl
 |x::l,h=>by simp only [jw];rw [h x (pE ..),a7n λy hy=>h y (dh _ hy)];rfl
theorem aI3 {L:List Lg}(h:dD L=0) {m:Int} {k:Nat}(hk:k<aA L)(e:L[k].m=m):jw (pm m) (L.take k)=0:=by
 refine a7n λx hx=> ?_
 obtain⟨i,hi,rfl⟩:=tB.1 hx;rw [vD] at hi;rw [List.getElem_take];have:=aJw h k hk i (by omega) (by omega);grind [pm]
structure aCH(cE:Int)(L:List Lg)(m:Int):Prop where
 g0:∀x∈jl cE L,0<=x.n
 l0:∀x∈js cE L,0<=x.n
 tg:jw (λ_=>aO) (jl cE L)=min cE (sumI (bG L))
 tl:jw (λ_=>aO) (js cE L)=sumI (bG L)-min cE (sumI (bG L))
 me:jw (pm m) (jl cE L)+jw (pm m) (js cE L)=jw (pm m) L
 mz:∀k (hk:k<aA L),L[k].m=m->jw (pm m) (L.take k)=0
 n0:∀x∈L,0<=x.n
 gl:aA (jl cE L)<=aA L
 ll:aA (js cE L)<=aA L
theorem a8P {cE:Int} {L:List Lg}(m:Int)(h:jM cE L=0):aCH cE L m:=by
 obtain⟨QR,jY,K7⟩:=Pn h;have G:=Es QR;have kr:oN (bG L) (dN cE (bG L))=kR (· - ·) (bG L) (dN cE (bG L)):=by grind [oN,VW]
 have hg:jl cE L=eo L (dN cE (bG L)):=by grind [jl]
 have hk:js cE L=eo L (kR (· - ·) (bG L) (dN cE (bG L))):=by grind [js]
 have hlen:aA (dN cE (bG L))=aA L:=by rw [G.len,qi]
 have p1:∀x∈dN cE (bG L),0<=x:=λx hx=>by obtain⟨i,hi,rfl⟩:=tB.1 hx;exact(G.bd i hi (by rw [<-G.len];exact hi)).1
 have p2:∀x∈kR (· - ·) (bG L) (dN cE (bG L)),0<=x:=λx hx=>by obtain⟨i,hi,rfl⟩:=tB.1 hx;rw [EZ] at hi;rw [List.getElem_zipWith];have:=G.bd i (by omega) (by omega);omega
 have s1:=Y9 aHv L _ hlen p1 p2;have s2:=Y9 (aHw m) L _ hlen p1 p2;have s3:=a7T L _ hlen p1;rw [G.sum] at s3;rw [<-hg,<-hk] at s1 s2;rw [<-hg] at s3;rw [Kj L] at s1;refine⟨by rw [hg];exact a7Q _ _,by rw [hk];exact a7Q _ _,s3,by omega,s2,λk hk e=>aI3 jY hk e,λx hx=> ?_,by grind [Rz],by grind [Rz]⟩;grind [tB,BS,Gp]
section
theorem aFv {D:Dk} {a:Int} {y:Lg}(h:y∈di D a):∃x∈D.ob,x.st=1/\x.az<0/\x.a=a/\hasB D.who x.m=aP/\y=x.claim:=by grind [di,tJ,pK]
theorem xY(a:Int):0<=kU a/\kU a<=288230376151711744:=by grind [kU]
theorem a2K {x:Ob}(h: -kU x.a<=x.az):x.claim.n= -x.az:=by have:=xY x.a;grind [Ob.claim,fw]
def vS(D:Dk)(a:Int):Int:=sumI (bG (di D a))
theorem a7i(x:Int)(l:List Int):sumI (x::l)=x+sumI l:=rfl
theorem a3f {a:Int} {p:Ob->Bool}:∀(L:List Ob),(∀x∈L,-kU x.a<=x.az)->(∀x∈L,p x=aO->x.st=1/\x.az<0/\x.a=a)->0<=sumI (bG ((L.filter p).map Ob.claim))/\sumI (bG ((L.filter p).map Ob.claim))<=dV (qH a) L
 | [],_,_=>⟨dM 0,dM 0⟩
 |x::L,hb,hp=>by
  have ih:=a3f (a:=a) (p:=p) L (λy hy=>hb y (dh _ hy)) (λy hy=>hp y (dh _ hy));have e:dV (qH a) (x::L)=qH a x+dV (qH a) L:=by simp [dV]
  rw [e];by_cases h:p x=aO
  ·rw [List.filter_cons_of_pos h];grind [bG,a7i,a2K,qH]
  grind [qH]
theorem aDy {L:List Lg} {a:Int}(hl:aA L<=1024)(h1:∀x∈L,1<=x.n/\x.a=a)(hp:L.Pairwise (λx y=>x.m<y.m))(hI:aL (sumI (bG L))):dD L=0:=by unfold dD;rw [ifN (by omega),ifN,(eA hI).2];grind [Gp,Up,vF,Rh]
structure a8p(D:Dk)(a:Int):Prop where
 clm:dD (di D a)=0
 bd:0<=vS D a/\vS D a<=kU a
 each:∀y∈di D a,yK D.x y/\y.a=a/\hasB D.who y.m=aP
 up:(di D a).Pairwise (λx y=>x.m<y.m)
 len:aA (di D a)<=16
theorem aw.DT {C:Int} {g:Nat} {D:Dk}(H:aw C g D)(a:Int):a8p D a:=by
 have kp:∀x∈D.ob,-kU x.a<=x.az:=λx hx=>(H.ob.each x hx).big.1
 have hs:0<=vS D a/\vS D a<=dV (qH a) D.ob:=a3f D.ob kp (λx _ hp=>by grind [tJ,pK]);have jY:=H.ob.cl a;have dF:=xY a;have QT:∀y∈di D a,yK D.x y/\y.a=a/\hasB D.who y.m=aP:=λy hy=>by obtain⟨x,hx,h1,h2,h3,h4,rfl⟩:=aFv hy;have E:=H.ob.each x hx;exact⟨⟨E.m,E.a,by grind [a2K]⟩,h3,h4⟩
 have vk:(di D a).Pairwise (λx y=>x.m<y.m):=by
  unfold di;rw [BK];refine(aMR.1 (H.ob.ord.filter _)).imp ?_;rintro x y ⟨hx,hy,ho⟩;have hx2:=(jD.1 hx).2;have nE:=(jD.1 hy).2;simp only [tJ,pK,je,beq_iff_eq,decide_eq_true_eq,Sa] at hx2 nE;rcases ho (by grind [eZ]) (by grind [eZ]) with h|h
  ·exact h
  omega
 have hlen:aA (di D a)<=16:=by have h:=SR (L:=(di D a).map (·.m)) (k:=aA D.x.ms) (lo:=0) (by grind) (λm hm=>by obtain⟨y,hy,rfl⟩:=df.1 hm;have:=(QT y hy).1.1;omega);rw [iV] at h;have:=H.hs.ml;omega
 exact⟨aDy (by omega) (λx hx=>⟨(QT x hx).1.2.2,(QT x hx).2.1⟩) vk (show aL (vS D a) by unfold aL;omega),⟨hs.1,by omega⟩,QT,vk,hlen⟩
section
variable {C:Int} {g:Nat} {D:Dk}
theorem aw.a7L(H:aw C g D)(a:Int):jM (B D 1 0 a) (di D a)=0:=by unfold jM;rw [ifN (by rw [(H.DT a).clm];simp),ifN (by have:=(H.house a).1;show¬balA _ _ _ _ _ _<0;omega)]
theorem aw.short(H:aw C g D)(a:Int):jO D a=max (vS D a-B D 1 0 a) 0:=by have hb:=(H.DT a).bd;have hm:=xY a;unfold jO AX;rw [ifP (H.a7L a)];exact aJ4 (show 0<=vS D a by omega) (H.house a).1 (show aL (vS D a) by unfold aL;omega)
theorem aw.a7h(H:aw C g D)(a:Int):iY (di D a)=vS D a:=by unfold iY;rw [ifP (H.DT a).clm];rfl
theorem Xa {a b:Int}(ha:0<=a)(hb:0<=b)(h:aL a):pS a b=max (a-b) 0:=by grind [pS,aL]
theorem aw.beyond(H:aw C g D):yP D=max (B D 1 0 0-vS D 0) 0:=by have hb:=(H.DT 0).bd;have hh:=H.house 0;have kp:=H.bD.big;unfold yP;rw [H.a7h 0];grind [Xa,aL]
end
def td:List Fi->Int
 | []=>0
 |x::L=>x.q+td L
def mr:List Fi->Int
 | []=>0
 |x::L=>x.c+mr L
theorem Y2:∀(Bs:List Bd) (la ca:Int),(∀x∈Bs,1<=x.q/\1<=x.p)->0<=la->0<=ca->
 (∀f∈mZ Bs la ca,f.b∈Bs/\1<=f.q/\1<=f.c)/\td (mZ Bs la ca)<=la/\mr (mZ Bs la ca)<=ca/\aA (mZ Bs la ca)<=aA Bs
 | [],la,ca,_,h1,h2=>⟨by simp [mZ],by grind [mZ,td],by grind [mZ,mr],by simp [mZ]⟩
 |x::Bs,la,ca,hx,h1,h2=>by
  have hx1:=hx x (by simp);have hr:∀y∈Bs,1<=y.q/\1<=y.p:=λy hy=>hx y (dh _ hy)
  unfold mZ;by_cases h0:la=0
  ·grind [td,mr]
  rw [ifN h0];have hd:0<=ca/x.p:=Int.ediv_nonneg h2 (by omega);have qx:ca/x.p*x.p<=ca:=Int.ediv_mul_le ca (by omega);have ht:0<=takeN x la ca/\takeN x la ca<=la/\takeN x la ca<=ca/x.p:=by unfold takeN;omega
  by_cases h3:takeN x la ca=0
  ·rw [ifP h3];obtain⟨i1,i2,i3,i4⟩:=Y2 Bs la ca hr h1 h2;grind
  rw [ifN h3];have hmul:takeN x la ca*x.p<=ca:=jz (Lb ht.2.2 (by omega)) qx;have Qj:1<=takeN x la ca*x.p:=by have h5:1*1<=takeN x la ca*x.p:=Int.mul_le_mul (by omega) hx1.2 (by omega) (by omega);omega
  obtain⟨i1,i2,i3,i4⟩:=Y2 Bs (la-takeN x la ca) (ca-takeN x la ca*x.p) hr (by omega) (by omega);grind [td,mr]
theorem MA:∀ {L:List Fi},(∀f∈L,1<=f.c)->0<=mr L
 | [],_=>dM 0
 |x::L,h=>by have:=h x (by simp);have:=MA (L:=L) (λy hy=>h y (dh _ hy));grind [mr]
theorem Rl:∀ {L:List Fi},(∀f∈L,1<=f.q)->0<=td L
 | [],_=>dM 0
 |x::L,h=>by have:=h x (by simp);have:=Rl (L:=L) (λy hy=>h y (dh _ hy));grind [td]
theorem wrap64_in {n:Int}(h:aL n):fW n=n:=by unfold fW;unfold aL at h;omega
theorem a2T:∀(L:List Fi) (n:Int),(∀f∈L,1<=f.c)->0<=n->n+mr L<=9223372036854775807->L.foldl (λn x=>fW (n+x.c)) n=n+mr L
 | [],n,_,_,_=>by simp [mr]
 |x::L,n,h,h0,hb=>by
  have h1:=h x (by simp);have hr:∀f∈L,1<=f.c:=λy hy=>h y (dh _ hy)
  have hn:=MA hr;simp only [mr] at hb;rw [Cr,wrap64_in (by unfold aL;omega),a2T L (n+x.c) hr (by omega) (by omega)];grind [mr]
theorem aEU {L:List Fi}(h:∀f∈L,1<=f.c)(hb:mr L<=9223372036854775807):rY L=mr L:=by grind [rY,a2T]
theorem aLf {M A:Nat} {l:List Int} {h:List Hr} {es:List En}(hlen:aA l=A*(6+3*M))(hc:xt M A l es)(hf:∀k m a,qJ k=aP->fB es (k,m,a)<0->0<=balA M A l k m a+fB es (k,m,a)/\iP h k m a<=balA M A l k m a+fB es (k,m,a)):lZ M A l h es=0:=by
 have hb:nT M A l es=0:=by unfold nT;rw [ifN (by rw [a2F hc];simp),ifN];intro ha;obtain⟨c,hc1,hc2⟩:=kA.1 ha;obtain⟨⟨k,m,a⟩,hq,rfl⟩:=df.1 hc1;grind [rh,kD,ki]
 unfold lZ;rw [ifN (by rw [hb];simp),ifN];intro ha;obtain⟨x,hx,hx2⟩:=kA.1 ha;unfold sJ at hx2;simp only [je,decide_eq_true_eq,Sa] at hx2;obtain⟨⟨a1,a2⟩,a3⟩:=hx2;obtain⟨i,hi⟩:=hc.Na x hx;have e:=KV hlen hc (q:=x.spot) hi;have e2:ki M A l x.spot=balA M A l x.k x.m x.a:=rfl;have e3:fB es x.spot=fB es (x.k,x.m,x.a):=rfl;grind
theorem a6X {M A:Nat} {l:List Int} {es:List En}(hlen:aA l=A*(6+3*M))(hc:xt M A l es)(k m a:Int):balA M A (kH M A l es) k m a=balA M A l k m a+fB es (k,m,a):=by
 cases hp:plcA M A k m a with
 |some z=>exact KV hlen hc (q:=(k,m,a)) hp
 |none=>
  rw [Gq hp,Gq hp,YM]
  ·rfl
  intro hq;obtain⟨n,hn⟩:=hc.spot _ hq;have:plcA M A k m a=aC n:=hn;grind
theorem aL6(s:Int)(x:Fi)(k m a:Int):fB (fN s x) (k,m,a)=(if k=7/\m=x.b.m/\a=s then-x.q else 0)+(if k=1/\m=0/\a=s then x.q else 0)+(if k=1/\m=0/\a=0 then-x.c else 0)+(if k=7/\m=x.b.m/\a=0 then x.c else 0):=by have e:fN s x=((([]++ [⟨7,x.b.m,s,-x.q⟩])++ [⟨1,0,s,x.q⟩])++ [⟨1,0,0,-x.c⟩])++ [⟨7,x.b.m,0,x.c⟩]:=rfl;rw [e,Ip,Ip,Ip,Ip];have:fB [] (k,m,a)=0:=rfl;grind [En.spot,PC]
theorem aDL(s:Int)(x:Fi)(i:Nat):sumI (gy (fN s x) i)=0:=by grind [gy,fN,sumI]
theorem aw.fill {C:Int} {g:Nat} {D:Dk}(H:aw C g D) {s:Int} {x:Fi}(hs:1<=s/\s<=(aA D.x.ss:Int))(hm:1<=x.b.m/\x.b.m<=(aA D.x.ms:Int))(hq:1<=x.q/\x.q<=274877906944)(hc:1<=x.c)(h2:x.c<=B D 1 0 0)(hC:C+2*x.q<=4611686018427387904+1125899906842624):
 aw (C+2*x.q) (g+2) (Hi s D x)/\Sm D (Hi s D x)/\∀k m b,B (Hi s D x) k m b=B D k m b+((if k=7/\m=x.b.m/\b=s then-x.q else 0)+(if k=1/\m=0/\b=s then x.q else 0)+(if k=1/\m=0/\b=0 then-x.c else 0)+(if k=7/\m=x.b.m/\b=0 then x.c else 0)):=by
 have zx:=H.house 0;have WB:=H.house s;have ho0:=H.own x.b.m 0;have Wi:=H.own x.b.m s;have uX:x.c<=balA (aA D.x.ms) (aA D.x.ss+1) D.l 1 0 0:=h2;have jr:=aL6 s x;obtain⟨i1,p1⟩:=Bx (M:=aA D.x.ms) (A:=aA D.x.ss+1) (k:=7) (.inl rfl) hm (a:=s) (by omega) (by omega);obtain⟨i2,p2⟩:=Nc (M:=aA D.x.ms) (A:=aA D.x.ss+1) (a:=s) (by omega) (by omega);obtain⟨i3,p3⟩:=Nc (M:=aA D.x.ms) (A:=aA D.x.ss+1) (a:=0) (by omega) (by omega);obtain⟨i4,p4⟩:=Bx (M:=aA D.x.ms) (A:=aA D.x.ss+1) (k:=7) (.inl rfl) hm (a:=0) (by omega) (by omega);have v1:fB (fN s x) (7,x.b.m,s)= -x.q:=by rw [jr,ifP ⟨rfl,rfl,rfl⟩,ifN (by omega),ifN (by omega),ifN (by omega)];omega
 have v2:fB (fN s x) (1,0,s)=x.q:=by rw [jr,ifN (by omega),ifP ⟨rfl,rfl,rfl⟩,ifN (by omega),ifN (by omega)];omega
 have v3:fB (fN s x) (1,0,0)= -x.c:=by rw [jr,ifN (by omega),ifN (by omega),ifP ⟨rfl,rfl,rfl⟩,ifN (by omega)];omega
 have v4:fB (fN s x) (7,x.b.m,0)=x.c:=by rw [jr,ifN (by omega),ifN (by omega),ifN (by omega),ifP ⟨rfl,rfl,rfl⟩];omega
 have nX:xt (aA D.x.ms) (aA D.x.ss+1) D.l (fN s x):=by
  refine⟨by simp [fN], ?_,λi _=>aDL s x i, ?_⟩
  ·intro y hy;simp only [fN,fE,List.not_mem_nil,or_false] at hy;rcases hy with rfl|rfl|rfl|rfl
   ·exact⟨i1,p1⟩
   ·exact⟨i2,p2⟩
   ·exact⟨i3,p3⟩
   exact⟨i4,p4⟩
  rintro⟨k,m,a⟩ l7;obtain⟨y,hy,e⟩:=KU.1 l7;have e2:ki (aA D.x.ms) (aA D.x.ss+1) D.l (k,m,a)=balA (aA D.x.ms) (aA D.x.ss+1) D.l k m a:=rfl;rw [e2];simp only [fN,fE,List.not_mem_nil,or_false] at hy;rcases hy with rfl|rfl|rfl|rfl
  ·simp only [En.spot,PC] at e;obtain⟨rfl,rfl,rfl⟩:=e;rw [v1];unfold aL;omega
  ·simp only [En.spot,PC] at e;obtain⟨rfl,rfl,rfl⟩:=e;rw [v2];unfold aL;omega
  ·simp only [En.spot,PC] at e;obtain⟨rfl,rfl,rfl⟩:=e;rw [v3];unfold aL;omega
  simp only [En.spot,PC] at e;obtain⟨rfl,rfl,rfl⟩:=e;rw [v4];unfold aL;omega
 have hv:lZ (aA D.x.ms) (aA D.x.ss+1) D.l D.h (fN s x)=0:=aLf H.bD.ok.len nX (by
  intro k m a Da KF;rw [jr] at KF ⊢;have F9:k≠7:=by rintro rfl;cases Da
  rw [ifN (by omega),ifN (by omega:¬(k=7/\m=x.b.m/\a=0))] at KF ⊢;have hk:k=1/\m=0/\a=0:=by
   by_cases h:k=1/\m=0/\a=0
   ·exact h
   rw [ifN h] at KF;split at KF<;>omega
  obtain⟨rfl,rfl,rfl⟩:=hk;rw [Vw H.h8 (by decide),ifN (by omega),ifP ⟨rfl,rfl,rfl⟩];omega)
 have hd:=a6X H.bD.ok.len nX;have dS:nN (aA D.x.ms) (aA D.x.ss+1) (kH (aA D.x.ms) (aA D.x.ss+1) D.l (fN s x)):=nN.post H.bD.ok (by have:=H.hs.sl;omega) hv;have el:eT D (fN s x)=kH (aA D.x.ms) (aA D.x.ss+1) D.l (fN s x):=by unfold eT;rw [ifP hv]
 have Ba:∀k m b,balA (aA D.x.ms) (aA D.x.ss+1) (eT D (fN s x)) k m b=balA (aA D.x.ms) (aA D.x.ss+1) D.l k m b+((if k=7/\m=x.b.m/\b=s then-x.q else 0)+(if k=1/\m=0/\b=s then x.q else 0)+(if k=1/\m=0/\b=0 then-x.c else 0)+(if k=7/\m=x.b.m/\b=0 then x.c else 0)):=by intro k m b;rw [el,hd,jr]
 rw [<-el] at dS;have k7:∀m b,balA (aA D.x.ms) (aA D.x.ss+1) (eT D (fN s x)) 7 m b=balA (aA D.x.ms) (aA D.x.ss+1) D.l 7 m b+((if m=x.b.m/\b=s then-x.q else 0)+(if m=x.b.m/\b=0 then x.c else 0)):=by intro m b;rw [Ba];simp
 have k8:∀m b,balA (aA D.x.ms) (aA D.x.ss+1) (eT D (fN s x)) 8 m b=balA (aA D.x.ms) (aA D.x.ss+1) D.l 8 m b:=by intro m b;rw [Ba];simp
 have k9:∀m b,balA (aA D.x.ms) (aA D.x.ss+1) (eT D (fN s x)) 9 m b=balA (aA D.x.ms) (aA D.x.ss+1) D.l 9 m b:=by intro m b;rw [Ba];simp
 have k3:∀b,balA (aA D.x.ms) (aA D.x.ss+1) (eT D (fN s x)) 3 0 b=balA (aA D.x.ms) (aA D.x.ss+1) D.l 3 0 b:=by intro b;rw [Ba];simp
 have k4:∀b,balA (aA D.x.ms) (aA D.x.ss+1) (eT D (fN s x)) 4 0 b=balA (aA D.x.ms) (aA D.x.ss+1) D.l 4 0 b:=by intro b;rw [Ba];simp
 have k2:∀b,balA (aA D.x.ms) (aA D.x.ss+1) (eT D (fN s x)) 2 0 b=balA (aA D.x.ms) (aA D.x.ss+1) D.l 2 0 b:=by intro b;rw [Ba];simp
 have k1:∀b,balA (aA D.x.ms) (aA D.x.ss+1) (eT D (fN s x)) 1 0 b=balA (aA D.x.ms) (aA D.x.ss+1) D.l 1 0 b+((if b=s then x.q else 0)+(if b=0 then-x.c else 0)):=by intro b;rw [Ba];simp
 have oK:∀b,my (D.log++ [⟨12,x.b.m,s,x.q,x.b.s⟩]) b=balA (aA D.x.ms) (aA D.x.ss+1) D.l 1 0 b+if s=b then x.q else 0:=by intro b;rw [DO,DR,H.fl b,show yT ⟨12,x.b.m,s,x.q,x.b.s⟩=x.q from rfl]
 have hl2:∀b,my ((D.log++ [⟨12,x.b.m,s,x.q,x.b.s⟩])++ [⟨19,x.b.m,0,x.c,x.b.s⟩]) b=balA (aA D.x.ms) (aA D.x.ss+1) (eT D (fN s x)) 1 0 b:=by
  intro b;rw [DO,DR,oK,k1,show yT ⟨19,x.b.m,0,x.c,x.b.s⟩= -x.c from rfl];repeat' split
  all_goals (simp only at*;omega)
 have eg:D.log++ [Ev.mk 12 x.b.m s x.q x.b.s,Ev.mk 19 x.b.m 0 x.c x.b.s]=(D.log++ [Ev.mk 12 x.b.m s x.q x.b.s])++ [Ev.mk 19 x.b.m 0 x.c x.b.s]:=by simp
 refine⟨⟨H.hs,⟨dS, ?_, ?_, ?_, ?_, ?_, ?_, ?_,hC,H.bD.F0⟩,H.h8,H.hl, ?_, ?_, ?_,H.who,H.ob,H.bx,H.bl,H.st,H.ai⟩,⟨rfl,rfl,rfl,rfl,rfl,rfl,rfl,rfl,_,rfl,by simp⟩,Ba⟩
 ·intro m b;exact jz (rU (k8 m b)) (H.bD.tN m b)
 ·intro m b;exact jz (rU (k9 m b)) (H.bD.zo m b)
 ·intro b;exact jz (rU (k3 b)) (H.bD.AL b)
 ·intro b;exact jz (rU (k4 b)) (H.bD.cap b)
 ·intro m b;show _<=balA (aA D.x.ms) (aA D.x.ss+1) (eT D (fN s x)) 7 m b+balA (aA D.x.ms) (aA D.x.ss+1) (eT D (fN s x)) 8 m b-balA (aA D.x.ms) (aA D.x.ss+1) (eT D (fN s x)) 1 0 b;rw [k7,k8,k1];have:=H.bD.lo m b;repeat' split
  all_goals omega
 ·intro m b;show balA (aA D.x.ms) (aA D.x.ss+1) (eT D (fN s x)) 7 m b+balA (aA D.x.ms) (aA D.x.ss+1) (eT D (fN s x)) 8 m b+balA (aA D.x.ms) (aA D.x.ss+1) (eT D (fN s x)) 1 0 b<=_;rw [k7,k8,k1];have:=H.bD.hi m b;repeat' split
  all_goals omega
 ·intro b;show balA (aA D.x.ms) (aA D.x.ss+1) (eT D (fN s x)) 2 0 b+balA (aA D.x.ms) (aA D.x.ss+1) (eT D (fN s x)) 1 0 b<=_;rw [k2,k1];have:=H.bD.es b;repeat' split
  all_goals omega
 ·intro b;show my (D.log++ [Ev.mk 12 x.b.m s x.q x.b.s,Ev.mk 19 x.b.m 0 x.c x.b.s]) b=_;rw [eg];exact hl2 b
 ·show Lh _ (D.log++ [Ev.mk 12 x.b.m s x.q x.b.s,Ev.mk 19 x.b.m 0 x.c x.b.s]);rw [eg];refine(H.lg.snoc ⟨by show (0:Int)<=s;omega,hs.2,.inl hq.1⟩ (λb=> ?_)).snoc ⟨by show (0:Int)<=0;omega,by show (0:Int)<=_;omega,.inl hc⟩ (λb=> ?_)
  ·rw [oK];have:=H.house b;split<;>omega
  rw [hl2];refine⟨dS.nn rfl 0 b, ?_⟩;rw [k1];have:=H.house b;repeat' split
  all_goals omega
 show aA (D.log++ [Ev.mk 12 x.b.m s x.q x.b.s,Ev.mk 19 x.b.m 0 x.c x.b.s])<=g+2;rw [cN];have:=H.gl;simp;omega
end
theorem a5f:∀ {L:List Fi} {f:Fi},(∀f∈L,1<=f.q)->f∈L->f.q<=td L
 |x::L,f,h,hf=>by
  have h1:=h x (by simp);have hr:∀y∈L,1<=y.q:=λy hy=>h y (dh _ hy)
  have hn:=Rl hr;simp only [td];rcases fE.1 hf with rfl|hf
  ·omega
  have:=a5f hr hf;omega
theorem a5a:∀ {L:List Fi} {f:Fi},(∀f∈L,1<=f.c)->f∈L->f.c<=mr L
 |x::L,f,h,hf=>by
  have h1:=h x (by simp);have hr:∀y∈L,1<=y.c:=λy hy=>h y (dh _ hy)
  have hn:=MA hr;simp only [mr];rcases fE.1 hf with rfl|hf
  ·omega
  have:=a5a hr hf;omega
theorem aw.a3J {s:Int}:∀(L:List Fi) {C:Int} {g:Nat} {D:Dk},aw C g D->(1<=s/\s<=(aA D.x.ss:Int))->(∀f∈L,(1<=f.b.m/\f.b.m<=(aA D.x.ms:Int))/\(1<=f.q/\f.q<=274877906944)/\1<=f.c)->mr L<=B D 1 0 0->C+2*td L<=4611686018427387904+1125899906842624->
 (∀k,k<=aA L->aw (C+2*td L) (g+2*k) (tQ s D (L.take k)))/\Sm D (tQ s D L)/\(∀k m b,k≠1->k≠7->B (tQ s D L) k m b=B D k m b)/\B (tQ s D L) 1 0 0=B D 1 0 0-mr L
 | [],C,g,D,H,_,_,_,hC=>by grind [td,Sm.refl,mr,tQ]
 |x::L,C,g,D,H,hs,hx,hc,hC=>by
  have h1:=hx x (by simp);have hr:∀f∈L,(1<=f.b.m/\f.b.m<=(aA D.x.ms:Int))/\(1<=f.q/\f.q<=274877906944)/\1<=f.c:=λy hy=>hx y (dh _ hy)
  have hq:=Rl (L:=L) (λf hf=>(hr f hf).2.1.1);have hcn:=MA (L:=L) (λf hf=>(hr f hf).2.2);simp only [td] at hC ⊢;simp only [mr] at hc ⊢;obtain⟨G,S,K⟩:=H.fill hs h1.1 h1.2.1 h1.2.2 (by omega) (by omega);have h0:B (Hi s D x) 1 0 0=B D 1 0 0-x.c:=by grind
  obtain⟨G2,S2,K2,H2⟩:=aw.a3J L G hs hr (by omega) (by omega);refine⟨?_,S.trans S2, ?_, ?_⟩
  ·intro k hk;cases k with
   |zero=>exact H.wide (by omega) (by omega) (by omega)
   |succ k=>
    have:=G2 k (by simpa using hk);rw [show g+2*(k+1)=g+2+2*k by omega,show C+2*(x.q+td L)=C+2*x.q+2*td L by omega];exact this
  ·intro k m b e1 e7;refine(K2 k m b e1 e7).trans ((K k m b).trans ?_);grind
  refine H2.trans ?_;rw [h0];omega
theorem aDC {D:Dk} {s:Int} {Bs:List Bd}(h:Fo D s Bs):aA Bs<=aA D.bx/\∀x∈Bs,x∈D.bx:=by
 obtain⟨is,ho,rfl⟩:=h;have hl:aA is=aA (qP D.bx s):=by rw [ho.len,iV]
 have hf:aA (qP D.bx s)<=aA D.bx:=qg _ _;refine⟨by grind,λx hx=> ?_⟩;obtain⟨i,hi,rfl⟩:=df.1 hx;have hlt:=ho.lt i hi;rw [iV] at hlt;rw [tA,iE hlt];exact(jD.1 (cH hlt)).1
def jc:Int:=140737488355328+549755813888
theorem aw.a1u {C:Int} {g:Nat} {D:Dk}(H:aw C g D)(hh:D.h= []) {s:Int}(hs:1<=s/\s<=(aA D.x.ss:Int)) {Bs:List Bd}(hB:Fo D s Bs)(hC:C+jc<=4611686018427387904+1125899906842624)(hg:g+114<=90000):
 Ym D s Bs/\aw (C+jc) (g+114) (Jo D s Bs)/\Sm D (Jo D s Bs):=by
 obtain⟨hBl,hBm⟩:=aDC hB;have hbl:=H.bl;have MU:∀x∈Bs,Yj D.x x:=λx hx=>H.bx x (hBm x hx)
 have hgd:=H.DT s;have hg0:=(H.DT 0).bd;have s8:=H.short s;have WB:=H.house s;have zx:=H.house 0;have km:=H.beyond;have hrm:=H.room;have dF:kU s=274877906944:=by grind [kU]
 have kp:=H.bD.big;have hgb:=hgd.bd;have hB0:B D 1 0 s=balA (aA D.x.ms) (aA D.x.ss+1) D.l 1 0 s:=rfl;have Va:B D 1 0 0=balA (aA D.x.ms) (aA D.x.ss+1) D.l 1 0 0:=rfl;have qu:yQ D=yP D+mE D:=rfl;have a4N:0<=jO D s/\jO D s<=274877906944:=by rw [s8];omega
 have a4F:0<=yQ D/\yQ D<=C+37383395344384:=by rw [qu,km];omega
 obtain⟨R1,R2,R3,R4⟩:=Y2 Bs (jO D s) (yQ D) (λx hx=>⟨(MU x hx).2.2.1.1,(MU x hx).2.2.2.1.1⟩) a4N.1 a4F.1;have Jh:∀f∈mq D s Bs,f.b∈Bs/\1<=f.q/\1<=f.c:=R1;have R2':td (mq D s Bs)<=jO D s:=R2;have R3':mr (mq D s Bs)<=yQ D:=R3;have R4':aA (mq D s Bs)<=aA Bs:=R4;have hcs:rY (mq D s Bs)=mr (mq D s Bs):=aEU (λf hf=>(Jh f hf).2.2) (by omega);have hcn:=MA (L:=mq D s Bs) (λf hf=>(Jh f hf).2.2);have hqn:=Rl (L:=mq D s Bs) (λf hf=>(Jh f hf).2.1);have tT:aL (pI D s Bs):=by grind [pI,aL]
 have W:=H.drawn hh tT (by grind [jc]);have MV:=W.steps _ (aa _);rw [cT] at MV;have K5:aw (C+140737488355328) (g+50) (ly D (pI D s Bs)):=MV.wide (dM _) (by grind [jc]) (by have:=W.len;omega);have hx1:(ly D (pI D s Bs)).x=D.x:=W.sm.x;have aGV:mr (mq D s Bs)<=B (ly D (pI D s Bs)) 1 0 0:=by have:=W.house;grind [pI]
 have hfi:∀f∈mq D s Bs,(1<=f.b.m/\f.b.m<=((ly D (pI D s Bs)).x.ms.length:Int))/\(1<=f.q/\f.q<=274877906944)/\1<=f.c:=λf hf=>by obtain⟨a1,a2,a3⟩:=Jh f hf;have hq:=a5f (λf hf=>(Jh f hf).2.1) hf;rw [hx1];exact⟨(MU f.b a1).1,⟨a2,by omega⟩,a3⟩
 obtain⟨G,S,K,HH⟩:=aw.a3J (mq D s Bs) K5 (by rw [hx1];exact hs) hfi aGV (by grind [jc]);have vY:=G _ (aa _);rw [cT] at vY;have QY:aw (C+jc) (g+114) (Jo D s Bs):=vY.wide (by unfold jc;omega) hC (by omega);refine⟨⟨?_, ?_, ?_,tT, ?_,W.dI,by have:=W.len;omega, ?_, ?_,by omega⟩,QY,W.sm.trans S⟩
 ·grind [aL]
 ·unfold uP;rw [ifN (by omega),ifN];rintro (h|h|h)
  ·omega
  ·omega
  obtain⟨x,hx,hb⟩:=kA.1 h;have:=MU x hx;unfold rX at hb;rw [decide_eq_false (by have:=this.2.2.1;omega),decide_eq_false (by have:=this.2.2.2.1;omega)] at hb;cases hb
 ·intro x hx;have:=MU x hx;have h1:=this.2.2.1;have h2:=this.2.2.2.1;unfold aL;omega
 ·intro k hk;exact(W.steps k hk).ok (by have:=W.len;omega)
 ·intro k hk;exact(G k hk).ok (by omega)
 intro f hf;have h1:=hfi f hf;rw [hx1] at h1;have hm:=H.hs.ml;have hc:=a5a (λf hf=>(Jh f hf).2.2) hf;grind [aL]
theorem aw.aDI {C:Int} {g:Nat} {D:Dk}(H:aw C g D)(hh:D.h= []) {s:Int}(hs:1<=s/\s<=(aA D.x.ss:Int))(hC:C+jc<=4611686018427387904+1125899906842624)(hg:g+114<=90000):Sc D s:=by
 have ir:=H.hs.ml;have jK:=H.hs.sl;have WB:=H.house s;have zx:=H.house 0;have kp:=H.bD.big;refine⟨H.ok (by omega),by unfold aL;omega,by unfold aL;omega,by unfold aL;omega,by omega,λm hm=> ?_,λd hd=> ?_,λ_ Bs hB=>(H.a1u hh hs hB hC hg).1⟩
 ·have:=H.who.pP m hm;unfold aL;omega
 exact(H.bx d hd).2.2.2.2
theorem aw.aDJ {C:Int} {g:Nat} {D D':Dk}(H:aw C g D)(hh:D.h= []) {s:Int}(hs:1<=s/\s<=(aA D.x.ss:Int))(hC:C+jc<=4611686018427387904+1125899906842624)(hg:g+114<=90000)(hR:J0 D s D'):aw (C+jc) (g+114) D'/\Sm D D':=by
 rcases hR with⟨_,rfl⟩|⟨_,Bs,hB,rfl⟩
 ·exact⟨H.wide (by unfold jc;omega) hC (by omega),Sm.refl _⟩
 exact(H.a1u hh hs hB hC hg).2
theorem aw.Pf {C:Int} {g:Nat} {D:Dk}(H:aw C g D)(hh:D.h= [])(hC:C+8*jc<=4611686018427387904+1125899906842624)(hg:g+114*8<=90000) {n:Nat} {E:Dk}(hR:wH D n E):n<=aA D.x.ss->aw (C+(n:Int)*jc) (g+114*n) E/\Sm D E:=by
 have jK:=H.hs.sl;induction hR with
 |zero=>grind [Sm.refl]
 |succ hB hR ih=>
  rename_i n E E';intro hn;obtain⟨G,S⟩:=ih (by omega);have hc1:C+(n:Int)*jc+jc<=4611686018427387904+1125899906842624:=by grind [jc]
  obtain⟨G',S'⟩:=G.aDJ (S.h.trans hh) (s:=(n:Int)+1) (by rw [S.x];omega) hc1 (by omega) hR;refine⟨?_,S.trans S'⟩;grind
theorem Y8 {z:Lg}:∀ {L:List Lg} {xs:List Int},z∈eo L xs->0<z.n/\∃y∈L,z.m=y.m/\z.a=y.a
 | [],xs,h=>by simp [eo] at h
 |y::L,[],h=>by simp [eo] at h
 |y::L,n::xs,h=>by
  rw [Ri] at h;rcases gL.1 h with h|h
  ·grind
  obtain⟨h1,y',hy',h2⟩:=Y8 h;grind
theorem aFo {c:Int} {L:List Lg} {z:Lg}(h:z∈jl c L):0<z.n/\∃y∈L,z.m=y.m/\z.a=y.a:=by
 unfold jl at h;split at h
 ·exact Y8 h
 cases h
theorem aHS {c:Int} {L:List Lg} {z:Lg}(h:z∈js c L):0<z.n/\∃y∈L,z.m=y.m/\z.a=y.a:=by
 unfold js at h;split at h
 ·exact Y8 h
 cases h
theorem a1k {a a0:Int}:∀ {L:List Lg},(∀x∈L,x.a=a0)->oB a L=if a=a0 then sumI (bG L) else 0
 | [],_=>by split<;>rfl
 |x::L,h=>by have h1:=h x (by simp);have ih:=a1k (a:=a) (a0:=a0) (L:=L) (λy hy=>h y (dh _ hy));grind [oB,sumI,bG]
theorem a1e:∀ {L:List Lg},(∀x∈L,1<=x.n)->0<=sumI (bG L)
 | [],_=>dM 0
 |x::L,h=>by have h1:=h x (by simp);have:=a1e (L:=L) (λy hy=>h y (dh _ hy));grind [sumI,bG]
theorem a5Z:∀ {L:List Lg} {z:Lg},(∀x∈L,1<=x.n)->z∈L->z.n<=sumI (bG L)
 |x::L,z,h,hz=>by
  have h1:=h x (by simp);have hr:∀y∈L,1<=y.n:=λy hy=>h y (dh _ hy)
  have hn:=a1e hr;have e:sumI (bG (x::L))=x.n+sumI (bG L):=rfl;rcases fE.1 hz with rfl|hz
  ·omega
  have:=a5Z hr hz;omega
structure Split(c:Int)(L:List Lg)(a0:Int):Prop where
 g:∀z∈jl c L,1<=z.n/\z.a=a0/\∃y∈L,z.m=y.m
 k:∀z∈js c L,1<=z.n/\z.a=a0/\∃y∈L,z.m=y.m
 sum:∀a,oB a (jl c L)=if a=a0 then min c (sumI (bG L)) else 0
 gl:aA (jl c L)<=aA L
 kl:aA (js c L)<=aA L
 em:js c L= []↔sumI (bG L)<=c
 kn:∀z∈js c L,z.n<=sumI (bG L)
theorem a7b {c:Int} {L:List Lg} {a0:Int}(h:jM c L=0)(ha:∀y∈L,y.a=a0):Split c L a0:=by
 have W:=a8P 0 h;have P:=aJG 0 h;have hg:∀z∈jl c L,1<=z.n/\z.a=a0/\∃y∈L,z.m=y.m:=λz hz=>by obtain⟨h1,y,hy,e1,e2⟩:=aFo hz;grind
 have hk:∀z∈js c L,1<=z.n/\z.a=a0/\∃y∈L,z.m=y.m:=λz hz=>by grind [aHS]
 have hS:0<=sumI (bG L):=by
  have:=YI (λ_=>aO) L W.n0
  rwa [Kj] at this
 refine⟨hg,hk,λa=> ?_,W.gl,W.ll,P.em,λz hz=> ?_⟩
 rotate_left
 ·have h1:=a5Z (λx hx=>(hk x hx).1) hz;have h2:=W.tl;rw [Kj] at h2;have:=(Pn h).2.2;omega
 rw [a1k (λx hx=>(hg x hx).2.1),<-Kj,W.tg]
theorem aG7 {C:Int} {g:Nat} {D:Dk}(H:aw C g D) {s:Int}(hs:1<=s/\s<=(aA D.x.ss:Int))(hg:g+32<=90000):
 Ov D s/\aw C (g+32) (Ez D s)/\Sm D (Ez D s)/\(∀k m b,k≠1->k≠7->B (Ez D s) k m b=B D k m b)/\(∀y∈oI D s,yK D.x y/\y.a=s/\aL y.n)/\aA (oI D s)<=16/\(∀y∈jX D s,1<=y.n)/\aA (jX D s)<=16:=by
 have G:=H.DT s;have P:=a7b (H.a7L s) (λy hy=>(G.each y hy).2.1);have ir:=H.hs.ml;have jK:=H.hs.sl;have kp:=H.bD.big;have WB:=H.house s;have Ew:∀z∈jX D s,yK D.x z/\z.a=s:=λz hz=>by obtain⟨h1,h2,y,hy,e⟩:=P.g z hz;have:=(G.each y hy).1;exact⟨⟨by rw [e];exact this.1,by rw [h2];omega,h1⟩,h2⟩
 have K6:∀z∈oI D s,yK D.x z/\z.a=s/\aL z.n:=λz hz=>by obtain⟨h1,h2,y,hy,e⟩:=P.k z hz;have:=(G.each y hy).1;have hn:z.n<=vS D s:=P.kn z hz;have hb:=G.bd;have hm:=xY s;exact⟨⟨by rw [e];exact this.1,by rw [h2];omega,h1⟩,h2,by unfold aL;omega⟩
 have kG:aA (jX D s)<=16:=bz P.gl G.len;have eE:aA (oI D s)<=16:=bz P.kl G.len;have jr:∀a,oB a (jX D s)<=B D 1 0 a:=λa=>by
  have e:oB a (jX D s)=if a=s then min (B D 1 0 s) (vS D s) else 0:=P.sum a
  rw [e];split
  ·grind
  exact(H.house a).1
 obtain⟨G1,S1,K1,_⟩:=aw.gives (jX D s) H (λx hx=>(Ew x hx).1) jr;have vY:=G1 _ (aa _);rw [cT] at vY;have Mo:aw C (g+16) (iz D (jX D s)):=vY.wide (dM _) kp (by omega);have hE:=aw.Pz (kd:=14) (.inr (.inl rfl)) (oI D s) Mo (λx hx=>by rw [S1.x];exact⟨(K6 x hx).1.2.1,.inl (K6 x hx).1.2.2⟩);refine⟨⟨by unfold aL;omega,λk hk=>(G1 k hk).ok (by omega),λx hx=> ?_,by omega,by have:=Mo.gl;omega,by omega⟩,hE.wide (dM _) kp (by omega),S1.trans (a2y _ (by decide) _), ?_,K6,eE,λy hy=>(Ew y hy).1.2.2,kG⟩
 ·have h:=(Ew x hx).1;have oL:x.n<=B D 1 0 s:=by
   have e:oB s (jX D s)=min (B D 1 0 s) (vS D s):=by
    have:=P.sum s
    rwa [ifP rfl] at this
   have:∀ {L:List Lg},(∀y∈L,1<=y.n/\y.a=s)->x∈L->x.n<=oB s L:=by
    intro L;induction L with
    |nil=>intro _ h;cases h
    |cons y L ih=>
     intro hh hx;have h0:=PZ (a:=s) (L:=L) (λz hz=>(hh z (dh _ hz)).1);have h1:=hh y (by simp);simp only [oB];rw [ifP h1.2];rcases fE.1 hx with rfl|hx
     ·omega
     have:=ih (λz hz=>hh z (dh _ hz)) hx;omega
   have:=this (λy hy=>⟨(Ew y hy).1.2.2,(Ew y hy).2⟩) hx;omega
  have h1:=h.1;have h2:=h.2.1;have h3:=h.2.2;grind [aL]
 intro k m b e1 e7;exact K1 k m b e1 e7
end Go.Proofs.YtdokipdchlcmeaaGreat
