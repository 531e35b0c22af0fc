/-
  Several texts in one, for one claim (printed by pack.py).
-/
import Derived.Test.YtdokipdchlcmeaaGreatPf4
import Derived.Lib.SliceRun
import Derived.Laws.IdiomCopy
import Derived.StillTailTactics
import Derived.Maps.RangeWalk
import Derived.Maps.RangeRun
set_option linter.all false
set_option maxRecDepth 100000
set_option maxHeartbeats 12800000
open Array renaming getElem?_eq_some_iff→fY,replicate→jh
open Bool renaming true→aO,false→aP,and_eq_true→ji,and_false→JF
open Go renaming World→aJ,Value→aN,Calls→aQ,Addr→ai,cell_of_row→bH,maxLen→bO,TypeId→bZ,heap_alloc_new→cQ,info_parts→dP,Ending→dX,rounds_succ→eI,wpList_append_own→jC,seen→tz,wp_loop_rounds→ux
open Go.Builtin renaming zeroCells→EH,clear_→Yz
open Go.Calls renaming quiet_of_same→JJ
open Go.Ending renaming returned→aT
open Go.Instr renaming entry→a9q,next→a9s,range→a9t
open Go.IntKind renaming i64→aF
open Go.IntWalk renaming i64_in→sr
open Go.MapKept renaming run_getObj_map→BP
open Go.Obj renaming cells→aK
open Go.Proofs renaming intOf→ag
open Go.Proofs.Tryz renaming prog→aM,underlying53→mX,underlying39→tG,underlying46→yU,underlying185→Pb,func213→Uj,ntmps213→Uq,func147→a0c,func240→a0k,func243→a0l,func248→a0m,func50→a0o,ntmps147→a0w,ntmps240→a1E,ntmps243→a1F,ntmps248→a1G,ntmps50→a1J,results147→a1L,func113→aAg,ntmps113→aBT,results113→aCC
open Go.Result renaming andThen→uU
open Go.RowKit renaming Below→aa
open Go.RowKit.Below renaming refl→aX,alloc→rK,setCell→EF
open Go.Value renaming int→aG,slice→aH,tuple→bC,pointer→bD,bool→bK,agg→bP,ownBlock→eF
open Go.World renaming ownsRow_nil→gG,frozen?→iO,ownsRow→kF,size_alloc→DK
open Int renaming le_refl→dM
open List renaming length→aA,getElem_mem→cK,length_append→cN,take_length→cU,range→dQ,map_append→dh,mem_map→di,mem_cons→fG,take_succ_eq_append_getElem→fH,mem_append→gN,replicate→gP,getElem?_eq_getElem→iG,length_map→iX,mem_filter→jG,any_eq_true→kE,eq_nil_of_length_eq_zero→nU,mem_range→nV,take_zero→nW,length_filter_le→qo,mem_iff_getElem→tD,length_cons→uS,length_take→vN,pairwise_iff_getElem→vQ,flatMap_cons→xB,getElem_map→xC,any_eq_false→zT,getElem?_eq_some_iff→zU,pairwise_map→BO,nil_append→Gi,all_eq_false→Jt,getElem?_eq_none→M4,drop→UR,take→UY,getElem_set_self→a0J,take_append_of_le_length→a0M,take_take→aAB
open List.Pairwise renaming imp_of_mem→PD
open Nat renaming le_refl→aZ,zero_le→bM,le_trans→bz,lt_of_lt_of_le→cL,lt_or_ge→rZ,add_zero→Gp,mul_le_mul_right→Gr,lt_trans→M9
open Option renaming none→aB,some→aC
open Option.some renaming inj→pH
open Or renaming inl→aS,inr→aU
namespace Go.Proofs.YtdokipdchlcmeaaGreat
open Go.Proofs.Tryz Go.RowKit
theorem aLd(vb:Nat)(p:Vp)(M A:Nat)(room:Int)(l:List Int)(h:List Hr)(nb:Nat)(nv:aN)(l':List Int)(xz:Int)(es:List En)(AA:Option ai)(c:Nat)(w:aJ)(H:gY w vb p M A room l h)(HN:fK w nb M A nv l' xz)(hs:aW w w.heap.size AA (qy es))(hI:∀x∈es,x.ok)(hl:aA h<=100000)(Qj:aA es<=100000):
 aQ aM 100 #[π vb,π nb,aH AA (aA es) c] w λe w'=>e=aT (bK (es.any (sN M A l l' h)))/\β w w':=by
 have HV:=η H;have HK:=η HN;have HS:=η hs;have HI:=η hI;have Im:=H.lt;have aY:Hid (β w w):=η (aX _ _);have iF:Hid ((es.take 0).any (sN M A l l' h)=aP):=η (by rw [nW];rfl);go_enter func100,ntmps100
 go_wp2_with fail
 go_loopw [8,9,10,11,12,15] (λ_ _ _ _ _ i wr=>∃k:Nat,k<=aA es/\i=ν (k:Int)/\Hid (β w wr)/\Hid ((es.take k).any (sN M A l l' h)=aP)) (λ_ _ _ _ _ i _=>aA es-(ag i).toNat)
 case atStart=>exact⟨0,bM _,rfl,aY,iF⟩
 case round=>
  obtain⟨k,hk,rfl,HB,HP⟩:=hrel;by_cases hlt:k<aA es
  ·obtain⟨be,oe,rfl,kY,e0,e1,e2,e3⟩:=Vd ((HS.o.below HB.o).mono HB.o.size) hlt;have dU:=HI.o _ (cK hlt);have cG:=η (zb (sN M A l l' h) hlt);have GM:=η (λ(q:sN M A l l' h es[k]=aO)=>kE.2 ⟨_,cK hlt,q⟩);have ej:(0:Int)<=(k:Int):=by omega
   have hkb:(k:Int)<(aA es:Int):=by omega
   generalize es[k]=x at*;obtain⟨xk,xm,xa,xn⟩:=x;simp only at e0 e1 e2 e3;obtain⟨Ku,Kv,_,_⟩:=dU;simp only at Ku Kv;have aR:Hid (β w (wr.alloc (aK #[ν xk,ν xm,ν xa,ν xn] 103))):=η (HB.o.alloc HB.o.size _);have cu:Hid ((wr.alloc (aK #[ν xk,ν xm,ν xa,ν xn] 103)).heap[wr.heap.size]? =aC (aK #[ν xk,ν xm,ν xa,ν xn] 103 (0,0))):=η (cQ wr _);have RV:wr.heap.size<(wr.alloc (aK #[ν xk,ν xm,ν xa,ν xn] 103)).heap.size:=by simp
   have hvx:vb<(wr.alloc (aK #[ν xk,ν xm,ν xa,ν xn] 103)).heap.size:=cL Im aR.o.size;have BD:Hid (sN M A l l' h ⟨xk,xm,xa,xn⟩=(!tU xk&&decide (balA M A l' xk xm xa<balA M A l xk xm xa)&&decide (balA M A l' xk xm xa<iR h xk xm xa))):=η rfl;have yN:=η (HV.o.below aR.o);have c0:=yN.o.c0;have uH:=η (λW (hW:β w W)=>VC M A p.bv l p.po xk xm xa p.bb W (HV.o.below hW).bk Ku Kv);have kS:=η (λW (hW:β w W)=>VC M A nv l' xz xk xm xa nb W (HK.o.below hW) Ku Kv);have JQ:=η (λW (hW:β w W)=>a8W vb p M A room l h xk xm xa W (HV.o.below hW) hl);go_upto_region 4 with fail
   generalize (wr.alloc (aK #[ν xk,ν xm,ν xa,ν xn] 103))=w1 at*;generalize wr.heap.size=bx at*;obtain⟨x0,x1,x2⟩:=O0 cu;generalize balA M A l xk xm xa=was at*;generalize balA M A l' xk xm xa=now at*;generalize nN (plcA M A xk xm xa)=en at*;generalize iR h xk xm xa=hd at*;have yf:=λ(n:sV w1.heap.size w1) (b o:Nat) (hb:b<w1.heap.size)=>n.cells b o hb
   refine Ss w1.heap.size (by kernel_rfl) (by kernel_rfl) ?_;repeat (go_big_quiet_step ((go_at_call 92;exact Calls.MQ (aZ _) (uH.o _ (aR.o.trans ((sV.h _).mono aR.o.size))))))
   refine wpQuiet_nil ?_;intro _ hw';obtain⟨nq,hw''⟩:=hw';subst hw'';have hn:=nq.h;generalize nq.wd=w2 at*;have aV:Hid (β w w2):=τ aR hn;have y0:=(fD hn).1 bx 0 RV;have y1:=(fD hn).1 bx 1 RV;have y2:=(fD hn).1 bx 2 RV;rw [x0] at y0;rw [x1] at y1;rw [x2] at y2;have hz2:bx<w2.heap.size:=cL RV hn.size;cases hf:tU xk with
   |true=>
    rw [hf] at BD;have mR:Hid ((es.take (k+1)).any (sN M A l l' h)=aP):=η (by rw [cG.o,HP.o,BD.o];rfl);have wW:Hid (∀W,aQ aM 112 #[bP #[ν xk,ν xm]] W λe w'=>e=aT (bK aO)/\β W w'):=η (λW=>by rw [<-hf];exact Q0 xk xm W);go_wp2_with (first|(go_at_call 92;refine(kS.o _ aV.o).mono ?_;rintro e w3 ⟨rfl,hb3⟩;have af:Hid (β w w3):=τ aV hb3;have iV:Hid (β w2 w3):=η hb3;have z0:=(fD hb3).1 bx 0 hz2;have z1:=(fD hb3).1 bx 1 hz2;have z2:=(fD hb3).1 bx 2 hz2;rw [y0] at z0;rw [y1] at z1;rw [y2] at z2)|(go_at_call 112;refine(wW.o _).mono ?_;rintro e w4 ⟨rfl,hb4⟩;have ar:Hid (β w w4):=τ af hb4;have u0:=(fD hb4).1 bx 0 (cL hz2 iV.o.size);have u1:=(fD hb4).1 bx 1 (cL hz2 iV.o.size);have u2:=(fD hb4).1 bx 2 (cL hz2 iV.o.size);rw [z0] at u0;rw [z1] at u1;rw [z2] at u2))
    go_roundw
    case rel=>exact⟨k+1,by omega,by go_num,ar,mR⟩
    case measure=>simp [ag];omega
   |false=>
    rw [hf] at BD;have wW:Hid (∀W,aQ aM 112 #[bP #[ν xk,ν xm]] W λe w'=>e=aT (bK aP)/\β W w'):=η (λW=>by rw [<-hf];exact Q0 xk xm W);by_cases h1:now<was
    ·by_cases h2:now<hd
     ·have HE:Hid (es.any (sN M A l l' h)=aO):=η (GM.o (by rw [BD.o];simp [h1,h2]));go_wp2_with (first|(go_at_call 92;refine(kS.o _ aV.o).mono ?_;rintro e w3 ⟨rfl,hb3⟩;have af:Hid (β w w3):=τ aV hb3;have iV:Hid (β w2 w3):=η hb3;have z0:=(fD hb3).1 bx 0 hz2;have z1:=(fD hb3).1 bx 1 hz2;have z2:=(fD hb3).1 bx 2 hz2;rw [y0] at z0;rw [y1] at z1;rw [y2] at z2)|(go_at_call 112;refine(wW.o _).mono ?_;rintro e w4 ⟨rfl,hb4⟩;have ar:Hid (β w w4):=τ af hb4;have u0:=(fD hb4).1 bx 0 (cL hz2 iV.o.size);have u1:=(fD hb4).1 bx 1 (cL hz2 iV.o.size);have u2:=(fD hb4).1 bx 2 (cL hz2 iV.o.size);rw [z0] at u0;rw [z1] at u1;rw [z2] at u2)|(go_at_call 160;refine(JQ.o _ ar.o).mono ?_;rintro e w5 ⟨rfl,dA⟩;have cY:Hid (β w w5):=τ ar dA))
      go_ret;exact⟨by rw [HE.o];rfl,cY.o⟩
     have mR:Hid ((es.take (k+1)).any (sN M A l l' h)=aP):=η (by rw [cG.o,HP.o,BD.o];simp [h2]);have ud:hd<=now:=by omega
     go_wp2_with (first|(go_at_call 92;refine(kS.o _ aV.o).mono ?_;rintro e w3 ⟨rfl,hb3⟩;have af:Hid (β w w3):=τ aV hb3;have iV:Hid (β w2 w3):=η hb3;have z0:=(fD hb3).1 bx 0 hz2;have z1:=(fD hb3).1 bx 1 hz2;have z2:=(fD hb3).1 bx 2 hz2;rw [y0] at z0;rw [y1] at z1;rw [y2] at z2)|(go_at_call 112;refine(wW.o _).mono ?_;rintro e w4 ⟨rfl,hb4⟩;have ar:Hid (β w w4):=τ af hb4;have u0:=(fD hb4).1 bx 0 (cL hz2 iV.o.size);have u1:=(fD hb4).1 bx 1 (cL hz2 iV.o.size);have u2:=(fD hb4).1 bx 2 (cL hz2 iV.o.size);rw [z0] at u0;rw [z1] at u1;rw [z2] at u2)|(go_at_call 160;refine(JQ.o _ ar.o).mono ?_;rintro e w5 ⟨rfl,dA⟩;have cY:Hid (β w w5):=τ ar dA))
     go_roundw
     case rel=>exact⟨k+1,by omega,by go_num,cY,mR⟩
     case measure=>simp [ag];omega
    have mR:Hid ((es.take (k+1)).any (sN M A l l' h)=aP):=η (by rw [cG.o,HP.o,BD.o];simp [h1]);have ub:was<=now:=by omega
    go_wp2_with (first|(go_at_call 92;refine(kS.o _ aV.o).mono ?_;rintro e w3 ⟨rfl,hb3⟩;have af:Hid (β w w3):=τ aV hb3;have iV:Hid (β w2 w3):=η hb3;have z0:=(fD hb3).1 bx 0 hz2;have z1:=(fD hb3).1 bx 1 hz2;have z2:=(fD hb3).1 bx 2 hz2;rw [y0] at z0;rw [y1] at z1;rw [y2] at z2)|(go_at_call 112;refine(wW.o _).mono ?_;rintro e w4 ⟨rfl,hb4⟩;have ar:Hid (β w w4):=τ af hb4;have u0:=(fD hb4).1 bx 0 (cL hz2 iV.o.size);have u1:=(fD hb4).1 bx 1 (cL hz2 iV.o.size);have u2:=(fD hb4).1 bx 2 (cL hz2 iV.o.size);rw [z0] at u0;rw [z1] at u1;rw [z2] at u2))
    go_roundw
    case rel=>exact⟨k+1,by omega,by go_num,ar,mR⟩
    case measure=>simp [ag];omega
  obtain rfl:k=aA es:=by omega
  rw [cU] at HP;go_wp2_with fail
  go_ret;exact⟨by rw [HP.o];rfl,HB.o⟩
def Uw(vb:Nat)(p:Vp)(M A:Nat)(room:Int)(l:List Int)(h:List Hr)(es:List En)(w:aJ)(e:dX)(w':aJ):Prop:=
 ∃p',e=aT (ν (lf M A l h es))/\gY w' vb p' M A room (if lf M A l h es=0 then kN M A l es else l) h/\bA (λk=>k=vb) w w'/\∀k,qK vb p' k->qK vb p k\/w.heap.size<=k
theorem gY.swap {w:aJ} {vb:Nat} {p:Vp} {M A:Nat} {room:Int} {l l':List Int} {h:List Hr}(H:gY w vb p M A room l h) {nb:Nat} {nv:aN} {po:Int}(hn:fK w nb M A nv l' po):gY (w.setCell ⟨vb,0,aB⟩ (bD (aC ⟨nb,0,aB⟩))) vb ⟨nb,nv,po,p.tb,p.tv⟩ M A room l' h:=by
 have mF:nb≠vb:=λe=>by have h1:=hn.blk;rw [e,H.blk] at h1;injection h1 with h1;injection h1 with h1 h2;exact absurd h2 (by decide)
 have NP:p.tb≠vb:=λe=>by have h1:=H.tb.blk;rw [e,H.blk] at h1;injection h1 with h1;injection h1 with h1 h2;exact absurd h2 (by decide)
 have hu:bA (λk=>k=vb) w (w.setCell ⟨vb,0,aB⟩ (π nb)):=(bA.refl (λk=>k=vb) w).setCell (p:=⟨vb,0,aB⟩) (aS rfl) _;refine⟨(lz H.blk 0 _).trans rfl,hn.upd hu mF (λk hk e=>gS hn.own H.blk (by decide) (e▸hk)),H.tb.upd hu NP (λk hk e=>gS H.tb.own H.blk (by decide) (e▸hk))⟩
theorem Yk(vb:Nat)(p:Vp)(M A:Nat)(room:Int)(l:List Int)(h:List Hr)(es:List En)(AA:Option ai)(c:Nat)(w:aJ)(H:gY w vb p M A room l h)(hs:aW w w.heap.size AA (qy es))(hI:∀x∈es,x.ok)(vq:∀y∈l,aL y)(hl:aA h<=100000)(Qj:aA es<=100000):
 aQ aM 50 #[π vb,aH AA (aA es) c] w (Uw vb p M A room l h es w):=by
 have HV:=η H;have HS:=η hs;have HI:=η hI;have Ja:=η vq;have c0:=H.c0;have CX:=η (a1s M A p.bv l p.po p.bb w H.bk);by_cases h0:nZ M A l es=0
 ·have HE:Hid (lf M A l h es=if es.any (sN M A l (kN M A l es) h)=aO then 13 else 0):=η (by unfold lf;rw [ifN (by simpa using h0)]);have HP:Hid (∀(nb:Nat) (nv:aN) (W:aJ),fK W nb M A nv l p.po->β w W->aQ aM 99 #[π nb,aH AA (aA es) c] W λe w'=>∃xz,e=aT (ν 0)/\fK w' nb M A nv (kN M A l es) xz/\bA (λk=>k=nb\/nv.ownBlock=aC k) W w'):=η λnb nv W hk hW=>(a1y M A nv l p.po es AA c nb W hk ((HS.o.below hW).mono hW.size) HI.o Ja.o Qj).mono λe w' ⟨xz,he,hb,hu⟩=>⟨xz,by rw [he,h0],by unfold L4 at hb;rw [ifP h0] at hb;exact hb,hu⟩
  have fC:=η (λ(nb:Nat) (nv:aN) (xz:Int) (W:aJ) (hk:fK W nb M A nv (kN M A l es) xz) (hW:β w W)=>aLd vb p M A room l h nb nv (kN M A l es) xz es AA c W (HV.o.below hW) hk ((HS.o.below hW).mono hW.size) HI.o hl Qj);by_cases h1:es.any (sN M A l (kN M A l es) h)=aO
  ·rw [h1] at HE fC;have rO:Hid (lf M A l h es=13):=η (by rw [HE.o];rfl);go_enter a0o,a1J
   go_wp2_with (first|(go_at_call 98;refine CX.o.mono ?_;rintro e w2 ⟨nb,nv,rfl,hk2,oP,nu,hb2⟩;have aV:=η hb2;have lq:=η hk2;have rR:Hid (w.heap.size<=nb/\∀k,nv.ownBlock=aC k->w.heap.size<=k):=η ⟨oP,nu⟩;have hz2:=hk2.lt)|(go_at_call 99;refine(HP.o nb nv _ lq.o aV.o).mono ?_;rintro e w3 ⟨Ny,rfl,hk3,qU⟩;have oh:=η hk3;have af:=η (aV.o.trans (qU.toBelow aV.o.size (λk hk=>hk.elim (λe=>by rw [e];exact rR.o.1) (λe=>rR.o.2 k e)))))|(go_at_call 100;refine(fC.o nb nv Ny _ oh.o af.o).mono ?_;rintro e w4 ⟨rfl,hb4⟩;have ar:=τ af hb4;have yJ:=η (oh.o.below hb4)))
   go_ret;exact⟨p,by rw [rO.o];rfl,by rw [rO.o];exact HV.o.below ar.o,bA.bY _ ar.o,λk hk=>aS hk⟩
  have ub:es.any (sN M A l (kN M A l es) h)=aP:=by simpa using h1
  rw [ub] at HE fC;have rO:Hid (lf M A l h es=0):=η (by rw [HE.o];rfl);go_enter a0o,a1J
  go_wp2_with (first|(go_at_call 98;refine CX.o.mono ?_;rintro e w2 ⟨nb,nv,rfl,hk2,oP,nu,hb2⟩;have aV:=η hb2;have lq:=η hk2;have rR:Hid (w.heap.size<=nb/\∀k,nv.ownBlock=aC k->w.heap.size<=k):=η ⟨oP,nu⟩;have hz2:=hk2.lt)|(go_at_call 99;refine(HP.o nb nv _ lq.o aV.o).mono ?_;rintro e w3 ⟨Ny,rfl,hk3,qU⟩;have oh:=η hk3;have af:=η (aV.o.trans (qU.toBelow aV.o.size (λk hk=>hk.elim (λe=>by rw [e];exact rR.o.1) (λe=>rR.o.2 k e)))))|(go_at_call 100;refine(fC.o nb nv Ny _ oh.o af.o).mono ?_;rintro e w4 ⟨rfl,hb4⟩;have ar:=τ af hb4;have yJ:=η (oh.o.below hb4);have z0:=(HV.o.below ar.o).c0;have mh:=(HV.o.below ar.o).lt;have zf:w4.frozen? ⟨vb,0,aB⟩=aP:=(by simp [iO,(HV.o.below ar.o).blk])))
  go_ret;refine⟨⟨nb,nv,Ny,p.tb,p.tv⟩,by rw [rO.o];rfl,by rw [rO.o];exact(HV.o.below ar.o).swap yJ.o,((bA.bY (λk=>k=vb) ar.o).setCell (p:=⟨vb,0,aB⟩) (aS rfl) _), ?_⟩;rintro k (hk|hk|hk|hk|hk)
  ·exact aS (aS hk)
  ·exact aU (by rw [hk];exact rR.o.1)
  ·exact aU (rR.o.2 k hk)
  ·exact aS (aU (aU (aU (aS hk))))
  exact aS (aU (aU (aU (aU hk))))
 have HE:Hid (lf M A l h es=nZ M A l es):=η (by unfold lf;rw [ifP h0]);have om:=η h0;have a4Y:(nZ M A l es !=0)=aO:=by simpa using h0
 have HP:Hid (∀(nb:Nat) (nv:aN) (W:aJ),fK W nb M A nv l p.po->β w W->aQ aM 99 #[π nb,aH AA (aA es) c] W λe w'=>∃xz,e=aT (ν (nZ M A l es))/\fK w' nb M A nv (L4 M A l es) xz/\bA (λk=>k=nb\/nv.ownBlock=aC k) W w'):=η λnb nv W hk hW=>a1y M A nv l p.po es AA c nb W hk ((HS.o.below hW).mono hW.size) HI.o Ja.o Qj
 generalize nZ M A l es=E at*;go_enter a0o,a1J
 go_wp2_with (first|(go_at_call 98;refine CX.o.mono ?_;rintro e w2 ⟨nb,nv,rfl,hk2,oP,nu,hb2⟩;have aV:=η hb2;have lq:=η hk2;have rR:Hid (w.heap.size<=nb/\∀k,nv.ownBlock=aC k->w.heap.size<=k):=η ⟨oP,nu⟩;have hz2:=hk2.lt)|(go_at_call 99;refine(HP.o nb nv _ lq.o aV.o).mono ?_;rintro e w3 ⟨Ny,rfl,hk3,qU⟩;have oh:=η hk3;have af:=η (aV.o.trans (qU.toBelow aV.o.size (λk hk=>hk.elim (λe=>by rw [e];exact rR.o.1) (λe=>rR.o.2 k e))))))
 go_ret;exact⟨p,by rw [HE.o];rfl,by rw [ifN (by rw [HE.o];exact om.o)];exact HV.o.below af.o,bA.bY _ af.o,λk hk=>aS hk⟩
def lC(fk fm tk tm a n:Int):List En:= [⟨fk,fm,a,-n⟩,⟨tk,tm,a,n⟩]
theorem aLg(vb:Nat)(p:Vp)(M A:Nat)(room:Int)(l:List Int)(h:List Hr)(fk fm tk tm a n:Int)(w:aJ)(H:gY w vb p M A room l h)(hf:aL fk/\aL fm)(ht:aL tk/\aL tm)(ha:aL a)(hn:aL n)(mE:0<=n)(vq:∀y∈l,aL y)(hl:aA h<=100000):
 aQ aM 87 #[π vb,bP #[ν fk,ν fm],bP #[ν tk,ν tm],ν a,ν n] w (Uw vb p M A room l h (lC fk fm tk tm a n) w):=by
 have N9: -n<=9223372036854775807/\-9223372036854775808<=-n:=by unfold aL at hn;omega
 have hIn:aL (-n):=by unfold aL;omega
 have af:Hid (β w (((w.alloc (aK #[ν fk,ν fm] 51)).alloc (aK #[ν tk,ν tm] 51)).alloc (aK #[ν fk,ν fm,ν a,ν (-n),ν tk,ν tm,ν a,ν n] 103))):=η ((σ.alloc (by simp) _).alloc (by simp;omega) _);have Jo:=η (H.below af.o);have pB:Hid (aW (((w.alloc (aK #[ν fk,ν fm] 51)).alloc (aK #[ν tk,ν tm] 51)).alloc (aK #[ν fk,ν fm,ν a,ν (-n),ν tk,ν tm,ν a,ν n] 103)) (((w.alloc (aK #[ν fk,ν fm] 51)).alloc (aK #[ν tk,ν tm] 51)).alloc (aK #[ν fk,ν fm,ν a,ν (-n),ν tk,ν tm,ν a,ν n] 103)).heap.size (aC ⟨w.heap.size+2,0,aB⟩) (qy (lC fk fm tk tm a n))):=η (by
  have h1:=a7Q ((w.alloc (aK #[ν fk,ν fm] 51)).alloc (aK #[ν tk,ν tm] 51)) 103 (qy (lC fk fm tk tm a n));have e:((w.alloc (aK #[ν fk,ν fm] 51)).alloc (aK #[ν tk,ν tm] 51)).heap.size=w.heap.size+2:=by simp
  rw [e] at h1;exact h1)
 have Co:=η (Yk vb p M A room l h (lC fk fm tk tm a n) (aC ⟨w.heap.size+2,0,aB⟩) 2 _ Jo.o pB.o (by
  intro x hx;simp only [lC,fG,List.not_mem_nil,or_false] at hx;rcases hx with rfl|rfl
  ·exact⟨hf.1,hf.2,ha,hIn⟩
  exact⟨ht.1,ht.2,ha,hn⟩) vq hl (by simp [lC]))
 have hwr:aF.wrap (-n)= -n:=sr _ (by omega);go_enter func87,ntmps87
 go_wp2_with (go_at_call 50;refine Co.o.mono ?_;rintro e w4 ⟨p',rfl,hv4,qV,j8⟩;have P4:=η hv4;have Ga:=η qV;have jT:=η j8)
 go_ret;refine⟨p',rfl,P4.o,(bA.bY _ af.o).trans Ga.o (λk hk=>aS hk),λk hk=>(jT.o k hk).imp id (λh=>bz af.o.size h)⟩
def qx(a b:Int):Int:=if a<b then-1 else if b<a then 1 else 0
theorem XS(a:Int)(w:aJ):aQ aM 249 #[aG aF a] w λe w'=>e=aT (bK aP)/\w=w':=by
 go_enter func249,ntmps249
 go_wp2
 go_ret;exact⟨rfl,rfl⟩
theorem VK(a b:Int)(w:aJ):aQ aM 213 #[aG aF a,aG aF b] w λe w'=>e=aT (aG aF (qx a b))/\w=w':=by
 unfold qx;by_cases h1:a<b
 ·rw [ifP h1];go_enter Uj,Uq
  go_wp2_with (go_at_call 249;refine(XS _ _).mono ?_;rintro e w' ⟨rfl,rfl⟩)
  go_ret;exact⟨rfl,rfl⟩
 rw [ifN h1];have ub:b<=a:=by omega
 by_cases h2:b<a
 ·rw [ifP h2];go_enter Uj,Uq
  go_wp2_with (go_at_call 249;refine(XS _ _).mono ?_;rintro e w' ⟨rfl,rfl⟩)
  go_ret;exact⟨rfl,rfl⟩
 rw [ifN h2];have ud:a<=b:=by omega
 go_enter Uj,Uq
 go_wp2_with (go_at_call 249;refine(XS _ _).mono ?_;rintro e w' ⟨rfl,rfl⟩)
 go_ret;exact⟨rfl,rfl⟩
theorem a8I(r:Hr)(i:Int)(w:aJ):aQ aM 212 #[bP #[aG aF r.i,aG aF r.s,aG aF r.m,aG aF r.a,aG aF r.n],aG aF i] w λe w'=>e=aT (aG aF (qx r.i i))/\aa w.heap.size w w':=by
 have hx:(w.alloc (aK #[ν r.i,ν r.s,ν r.m,ν r.a,ν r.n] 188)).cell? ⟨w.heap.size,0,aB⟩=aC (ν r.i):=cM w _ _ 0 rfl;go_enter func212,ntmps212
 go_wp2_with (go_at_call 213;refine(VK _ _ _).mono ?_;rintro e w' ⟨rfl,rfl⟩)
 go_ret;exact⟨rfl,(aX _ _).alloc (aZ _) _⟩
def qI(L:List Hr):Prop:=L.Pairwise (λx y=>x.i<y.i)
def E6(L:List Hr)(i:Int):Nat:=L.findIdx λr=>decide (i<=r.i)
def wE(L:List Hr)(i:Int):Bool:=L.any λr=>r.i==i
theorem Xy {L:List Hr} {i:Int} {k:Nat}(hk:k<=aA L)(h1:∀j (hj:j<aA L),j<k->L[j].i<i)(h2:∀(hj:k<aA L),i<=L[k].i):E6 L i=k:=by
 unfold E6;rcases rZ k (aA L) with h|h
 ·rw [List.findIdx_eq h];exact⟨by simpa using h2 h,λj hj=>by simpa using h1 j (by omega) hj⟩
 have e:k=aA L:=by omega
 rw [e,List.findIdx_eq_length];intro x hx;obtain⟨j,hj,rfl⟩:=tD.1 hx;simpa using h1 j hj (by omega)
theorem a4y {L:List Hr} {i:Int}(hu:qI L) {k:Nat}(hk:k<=aA L)(h1:∀j (hj:j<aA L),j<k->L[j].i<i)(h2:∀(hj:k<aA L),i<=L[k].i):wE L i=(decide (k<aA L)&&(match L[k]? with|some r=>decide (r.i=i)|none=>aP)):=by
 unfold wE;rcases rZ k (aA L) with h|h
 ·rw [iG h];simp only [h,decide_true,Bool.true_and];by_cases e:L[k].i=i
  ·simp only [e,decide_true];exact kE.2 ⟨_,cK h,by simpa using e⟩
  simp only [e,decide_false];rw [zT];intro x hx;obtain⟨j,hj,rfl⟩:=tD.1 hx;have h3:=h2 h;rcases Nat.lt_trichotomy j k with hjk|hjk|hjk
  ·have:=h1 j hj hjk;simp;omega
  ·subst hjk;simpa using e
  have:=vQ.1 hu k j h hj hjk;simp;omega
 rw [M4 h];simp only [JF];rw [zT];intro x hx;obtain⟨j,hj,rfl⟩:=tD.1 hx;have:=h1 j hj (by omega);simp;omega
theorem aDK(L:List Hr)(i:Int)(A:Option ai)(c:Nat)(w:aJ)(hs:aW w w.heap.size A (sF L))(hl:aA L<=100000)(hu:qI L):
 aQ aM 211 #[aH A (aA L) c,ν i,.func (.func 212) #[] #[]] w λe w'=>e=aT (bC #[ν (E6 L i:Int),bK (wE L i)])/\β w w':=by
 have HS:=η hs;have HU:=η hu;have aY:Hid (β w w):=η (aX _ _);have Le:Hid (∀j (hj:j<aA L),j<0->L[j].i<i):=η (λj hj h=>absurd h (by omega));have LX:Hid (∀j (hj:j<aA L),aA L<=j->i<=L[j].i):=η (λj hj h=>absurd h (by omega));clear hs hu;go_enter func211,ntmps211
 go_wp2_with fail
 go_loopw [9,10,11] (λa b _ wr=>∃lo hi:Nat,lo<=hi/\hi<=aA L/\a=ν (lo:Int)/\b=ν (hi:Int)/\Hid (∀j (hj:j<aA L),j<lo->L[j].i<i)/\Hid (∀j (hj:j<aA L),hi<=j->i<=L[j].i)/\Hid (β w wr)) (λa b _ _=>(ag b-ag a).toNat)
 case atStart=>exact⟨0,_,bM _,aZ _,rfl,rfl,Le,LX,aY⟩
 case round=>
  clear Le LX aY;obtain⟨lo,hi,hlh,WT,rfl,rfl,ET,og,HB⟩:=hrel;by_cases hlt:lo<hi
  ·obtain⟨mid,Wt⟩:∃mid:Nat,mid=(lo+hi)/2:=⟨_,rfl⟩;have tX:lo<=mid:=by omega
   have xW:mid<hi:=by omega
   have zJ:Hid (((lo:Int)+(hi:Int))/2=(mid:Int)):=η (by omega);clear Wt;go_upto_region 5 with fail
   rw [zJ.o];have ir:mid<aA L:=by omega
   obtain⟨be,oe,rfl,kY,e0,e1,e2,e3,e4⟩:=Ke ((HS.o.below HB.o).mono HB.o.size) ir;have HF:=η (λW=>a8I L[mid] i W);have ej:(0:Int)<=(mid:Int):=by omega
   have hkb:(mid:Int)<(aA L:Int):=by omega
   by_cases hc:L[mid].i<i
   ·have a9Y:Hid (∀j (hj:j<aA L),j<mid+1->L[j].i<i):=η (λj hj h=>by
     rcases rZ j mid with h'|h'
     ·have:=vQ.1 HU.o j mid hj ir h';omega
     obtain rfl:j=mid:=by omega
     exact hc)
    have hv:qx L[mid].i i= -1:=by unfold qx;rw [ifP hc]
    rw [hv] at HF;clear hv hc ET;generalize L[mid]=r at*;obtain⟨ri,rs,rm,ra,rn⟩:=r;simp only at e0 e1 e2 e3 e4 HF;go_wp2_with (go_at_call 212;refine(HF.o _).mono ?_;rintro e w2 ⟨rfl,hb2⟩;have aV:Hid (β w w2):=τ HB hb2;clear hb2)
    go_roundw
    case rel=>exact⟨mid+1,hi,by omega,by omega,by go_num,rfl,a9Y,og,aV⟩
    case measure=>simp [ag];omega
   have a9T:Hid (∀j (hj:j<aA L),mid<=j->i<=L[j].i):=η (λj hj h=>by
    rcases rZ mid j with h'|h'
    ·have:=vQ.1 HU.o mid j ir hj h';omega
    obtain rfl:j=mid:=by omega
    omega)
   have hv:0<=qx L[mid].i i:=by unfold qx;rw [ifN hc];split<;>omega
   clear hc og;generalize qx L[mid].i i=cv at*;generalize L[mid]=r at*;obtain⟨ri,rs,rm,ra,rn⟩:=r;simp only at e0 e1 e2 e3 e4 HF;go_wp2_with (go_at_call 212;refine(HF.o _).mono ?_;rintro e w2 ⟨rfl,hb2⟩;have aV:Hid (β w w2):=τ HB hb2;clear hb2)
   go_roundw
   case rel=>exact⟨lo,mid,by omega,by omega,rfl,rfl,ET,a9T,aV⟩
   case measure=>simp [ag];omega
  obtain rfl:lo=hi:=by omega
  have hp:=Xy WT ET.o (λhj=>og.o _ hj (aZ _));have qT:=a4y HU.o WT ET.o (λhj=>og.o _ hj (aZ _));have HP:=η hp;have HIS:=η qT;clear hp qT;by_cases sA:lo<aA L
  ·obtain⟨be,oe,rfl,kY,e0,e1,e2,e3,e4⟩:=Ke ((HS.o.below HB.o).mono HB.o.size) sA;have HF:=η (λW=>a8I L[lo] i W);have ej:(0:Int)<=(lo:Int):=by omega
   have hkb:(lo:Int)<(aA L:Int):=by omega
   have AB:=og.o _ sA (aZ _);have fg:Hid (wE L i=decide (L[lo].i=i)):=η (by rw [HIS.o,iG sA];simp [sA]);have ZL:Hid ((qx L[lo].i i==0)=decide (L[lo].i=i)):=η (by
    unfold qx;rw [ifN (by omega)];split
    ·rename_i h;have:L[lo].i≠i:=by omega
     simp [this]
    rename_i h;have:L[lo].i=i:=by omega
    simp [this])
   have HR:Hid (wE L i=(qx L[lo].i i==0)):=η (by rw [fg.o,ZL.o]);generalize qx L[lo].i i=cv at*;clear fg ZL HIS og ET AB;generalize L[lo]=r at*;obtain⟨ri,rs,rm,ra,rn⟩:=r;simp only at e0 e1 e2 e3 e4 HF;go_wp2_with (go_at_call 212;refine(HF.o _).mono ?_;rintro e w2 ⟨rfl,hb2⟩;have aV:Hid (β w w2):=τ HB hb2;clear hb2)
   go_ret2;exact⟨by rw [HP.o,HR.o];rfl,aV.o⟩
  have pP:decide ((lo:Int)<(aA L:Int))=aP:=decide_eq_false (by omega);have aGu:decide (lo<aA L)=aP:=decide_eq_false sA;have fg:Hid (wE L i=aP):=η (by rw [HIS.o,aGu];rfl);go_wp2_with fail
  go_ret2;exact⟨by rw [HP.o,fg.o];rfl,HB.o⟩
theorem Sc(room:Int)(v:aN)(L:List Hr)(i:Int)(tb:Nat)(w:aJ)(h:jH w tb room v L)(hl:aA L<=100000)(hu:qI L):
 aQ aM 172 #[π tb,ν i] w λe w'=>e=aT (bC #[ν (E6 L i:Int),bK (wE L i)])/\β w w':=by
 have c1:=h.c1;obtain⟨A,c,hv⟩:=bL h.own;subst hv;have HC:=η (aDK L i A c w (aW.cB h.own) hl hu);go_enter func172,ntmps172
 go_wp2_with (go_at_call 211;refine mM HC.o λw2 aV=> ?_)
 go_ret2;exact⟨rfl,aV⟩
def a9J(v:aN)(n:Nat)(xs:List aN)(w:aJ)(e:dX)(w':aJ):Prop:=
 ∃g cap,e=aT (aH (aC ⟨g,0,aB⟩) (n+1) cap)/\w'.ownsRow 0 188 5 (aH (aC ⟨g,0,aB⟩) (n+1) cap) (n+1) xs/\w.grownBy w' v.ownBlock/\(v.ownBlock=aC g\/w.heap.size<=g)
theorem aHN(n:Nat)(xs:List aN)(A:Option ai)(c nb:Nat)(news:List aN)(w:aJ)(hown:w.ownsRow 0 188 5 (aH A n c) n xs)(hl:n<=100000)(pP:aA news=5)(hn:∀j u,news[j]? =aC u->w.cell? ((⟨nb,0,aB⟩:ai).add j)=aC u)(h1:∀u∈news,u.oneCell'=aO):
 aQ aM 173 #[aH A n c,ν (n:Int),aH (aC ⟨nb,0,aB⟩) 1 1] w (a9J (aH A n c) n (xs++news) w):=by
 have xX:n<=c/\c<=bO:=by
  rcases hown.2 with⟨hv,h0⟩|⟨g,cap,cur,hv,_,hb,h3,h4,_⟩
  ·injection hv with e1 e2 e3;rw [e2,e3];simp [bO]
  injection hv with e1 e2 e3;rw [e3];exact⟨h3,h4⟩
 have hAn:A=aB->c=n:=by
  rintro rfl;rcases hown.2 with⟨hv,h0⟩|⟨g,cap,cur,hv,_⟩
  ·injection hv with e1 e2 e3;omega
  injection hv with e1 e2 e3;cases e1
 have aN5:(n:Int)<=(c:Int):=by omega
 have aN6:=xX.1;have mE:(0:Int)<=(n:Int):=by omega
 have HO:=η hown;have HN:=η hn;have H1:=η h1;have rR:=η pP;obtain⟨ih,Qq,a4m,XN,a4n⟩:=dP XQ;have Cs:Hid (∃u,∀W:aJ,(Instr.slice 185 (aH A n c) (aC (ν (n:Int))) aB aB).run aM W= .ok u W):=η (by
  by_cases e:c=n
  ·subst e;refine⟨aH A 0 0,λW=> ?_⟩;cases A<;>go_simp
  cases A with
  |none=>
   exact absurd (hAn rfl) e
  |some a=>exact⟨aH (aC (a.add (n*5))) 0 (c-n),λW=>by go_simp⟩)
 obtain⟨u,hu⟩:=Cs.o;go_enter func173,ntmps173
 go_wp2_with (at_builtin;refine wpList_append_lies _ rfl _ _ 185 rfl 0 188 ih _ 5 40 Pb Qq a4m XN a4n rfl (by omega) (aH A n c) n xs rfl HO.o ⟨nb,0,aB⟩ 1 1 news rfl rR.o HN.o H1.o (by omega) (by simp only [bO];omega) (by omega) (bM _) w.heap.size rfl ?_)
 intro g cap w' hown' hgr hat _;have HO':=η hown';have HG:=η hgr;have HA:=η hat;go_wp2
 go_ret;exact⟨g,cap,rfl,HO'.o,HG.o,HA.o.imp id (λe=>by rw [e];exact aZ _)⟩
def a0W(tb:Nat)(room:Int)(v:aN)(L:List Hr)(w:aJ)(e:dX)(w':aJ):Prop:=
 ∃v',e=aT (ν 0)/\jH w' tb room v' L/\bA (λk=>k=tb\/v.ownBlock=aC k) w w'/\∀k,v'.ownBlock=aC k->v.ownBlock=aC k\/w.heap.size<=k
theorem aGx(L:List Hr)(x:Hr):sF (L++ [x])=sF L++x.cells:=by simp [sF]
theorem aGy(x:Hr):∀u∈x.cells,u.oneCell'=aO:=by intro u hu;simp [Hr.cells] at hu;rcases hu with rfl|rfl|rfl|rfl|rfl<;>rfl
theorem jH.ne {w:aJ} {tb:Nat} {room:Int} {v:aN} {L:List Hr}(h:jH w tb room v L):v.ownBlock≠aC tb:=gS h.own h.blk (by decide)
theorem aLY(room:Int)(v:aN)(L:List Hr)(x:Hr)(tb:Nat)(w:aJ)(h:jH w tb room v L)(hl:aA L<=99999)(hu:qI L)(hp:E6 L x.i=aA L)(hi:wE L x.i=aP)(hr:(aA L:Int)<room):
 aQ aM 115 #[π tb,ν x.i,bP #[ν x.s,ν x.m,ν x.a,ν x.n]] w (a0W tb room v (L++ [x]) w):=by
 obtain⟨xi,xs,xm,xa,xn⟩:=x;simp only at hp hi;have aY:Hid (β w (w.alloc (aK #[ν xs,ν xm,ν xa,ν xn] 113))):=η σ;have HF:=η (Sc room v L xi tb _ (h.below aY.o) (by omega) hu);rw [hp,hi] at HF;have HT:=η (h.below aY.o);have hz0:w.heap.size<(w.alloc (aK #[ν xs,ν xm,ν xa,ν xn] 113)).heap.size:=by simp
 have HX:Hid ((w.alloc (aK #[ν xs,ν xm,ν xa,ν xn] 113)).heap[w.heap.size]? =aC (aK #[ν xs,ν xm,ν xa,ν xn] 113 (0,0))):=η (cQ w _);have Ff:=h.lt;have rW:Hid (∀k,v.ownBlock=aC k->k<w.heap.size):=η (λk hk=>(h.own.lt k hk).2);clear h hu hp hi;have AB:decide (room<=(aA L:Int))=aP:=decide_eq_false (by omega);go_enter func115,ntmps115
 go_wp2_with (go_at_call 172;refine HF.o.mono ?_;rintro e w2 ⟨rfl,hb2⟩;have aV:=η hb2;clear hb2)
 generalize w.alloc (aK #[ν xs,ν xm,ν xa,ν xn] 113)=w1 at*;obtain⟨bx,bU⟩:∃bx,bx=w.heap.size:=⟨_,rfl⟩;have dJ:=η bU;rw [<-bU] at HX hz0 ⊢;have htx:tb<bx:=by omega
 clear bU;have qi:=η (HT.o.below aV.o);have c0:=qi.o.c0;have c1:=qi.o.c1;obtain⟨A,c,hv⟩:=bL qi.o.own;subst hv;go_quiet (fail)
 have af:Hid (β w1 (w2.drewN nq)):=η (below_drewN aV.o nq);have zR:Hid (jH (w2.drewN nq) tb room (aH A (aA L) c) L):=η ⟨qi.o.blk,qi.o.own⟩;clear aV qi c0 c1;generalize w2.drewN nq=w3 at*;go_upto_region 8 with fail
 have hz3:bx<w3.heap.size:=cL hz0 af.o.size;have oD:Hid (w3.heap[bx]? =aC (aK #[ν xs,ν xm,ν xa,ν xn] 113 (0,0))):=η ((af.o.block bx hz0).trans HX.o);have d0:w3.drew.cell? ⟨tb,1,aB⟩=aC (aH A (aA L) c):=zR.o.c1;obtain⟨d1,d2,d3,d4⟩:=S9 oD;have rV:Hid (jH w3.drew tb room (aH A (aA L) c) L):=η ⟨zR.o.blk,zR.o.own⟩;have ar:Hid (β w1 w3.drew):=η af.o.drew;have a4g:tb<w3.drew.heap.size:=zR.o.lt;have Qc:bx<w3.drew.heap.size:=hz3;have qc:Hid (aC tb≠(aH A (aA L) c).ownBlock):=η (λe=>zR.o.ne e.symm);have bX:Hid (aC bx≠(aH A (aA L) c).ownBlock):=η (λe=>by have:=rW.o bx e.symm;rw [dJ.o] at this;omega);obtain⟨r,hr⟩:∃r,r=(aH A (aA L) c).ownBlock:=⟨_,rfl⟩;rw [<-hr] at qc bX;have HR:=η hr;clear hr zR oD af;refine CM (S:=λW=>W.cell? ⟨tb,1,aB⟩=aC (aH A (aA L) c)/\W.cell? ⟨bx,0,aB⟩=aC (ν xs)/\W.cell? ⟨bx,1,aB⟩=aC (ν xm)/\W.cell? ⟨bx,2,aB⟩=aC (ν xa)/\W.cell? ⟨bx,3,aB⟩=aC (ν xn)) 13 (by kernel_rfl) ⟨d0,d1,d2,d3,d4⟩ (λhHeld=> ?_);have bJ:Hid (∀W,w3.drew.grownBy W r->W.cell? ⟨tb,1,aB⟩=aC (aH A (aA L) c)/\W.cell? ⟨bx,0,aB⟩=aC (ν xs)/\W.cell? ⟨bx,1,aB⟩=aC (ν xm)/\W.cell? ⟨bx,2,aB⟩=aC (ν xa)/\W.cell? ⟨bx,3,aB⟩=aC (ν xn)):=η λW hg=>⟨(hg.cell_far ⟨tb,1,aB⟩ a4g qc.o).trans d0,(hg.cell_far ⟨bx,0,aB⟩ Qc bX.o).trans d1,(hg.cell_far ⟨bx,1,aB⟩ Qc bX.o).trans d2,(hg.cell_far ⟨bx,2,aB⟩ Qc bX.o).trans d3,(hg.cell_far ⟨bx,3,aB⟩ Qc bX.o).trans d4⟩
 clear d0 d1 d2 d3 d4;generalize w3.drew=w4 at*;have B8:Hid (w4.grownBy w4 r):=η (IA (aX _ _) r);refine cP (i:=0) (v:=π tb) rfl (by kernel_rfl) (by kernel_rfl) (by kernel_rfl) (by kernel_rfl) (by kernel_rfl) (λ_ _ _ h=>h) (aS ⟨by rfl,λw' hSw=>by obtain⟨s0,s1,s2,s3,s4⟩:=hSw;go_simp⟩) hHeld ?_;refine cP (i:=1) (v:=π tb) rfl (by kernel_rfl) (by kernel_rfl) (by kernel_rfl) (by kernel_rfl) (by kernel_rfl) (λ_ _ _ h=>h) (aS ⟨by rfl,λw' hSw=>by obtain⟨s0,s1,s2,s3,s4⟩:=hSw;go_simp⟩) hHeld ?_;refine cP (i:=2) (v:=π tb) rfl (by kernel_rfl) (by kernel_rfl) (by kernel_rfl) (by kernel_rfl) (by kernel_rfl) (λ_ _ _ h=>h) (aS ⟨by rfl,λw' hSw=>by obtain⟨s0,s1,s2,s3,s4⟩:=hSw;go_simp⟩) hHeld ?_;refine cP (i:=3) (v:=bD (aC ⟨tb,1,aB⟩)) rfl (by kernel_rfl) (by kernel_rfl) (by kernel_rfl) (by kernel_rfl) (by kernel_rfl) (λ_ _ _ h=>h) (aS ⟨by rfl,λw' hSw=>by obtain⟨s0,s1,s2,s3,s4⟩:=hSw;go_simp⟩) hHeld ?_;refine cP (i:=4) (v:=aH A (aA L) c) rfl (by kernel_rfl) (by kernel_rfl) (by kernel_rfl) (by kernel_rfl) (by kernel_rfl) (λ_ _ _ h=>h) (aS ⟨by rfl,λw' hSw=>by obtain⟨s0,s1,s2,s3,s4⟩:=hSw;go_simp⟩) hHeld ?_;refine cP (i:=5) (v:=ν (aA L:Int)) rfl (by kernel_rfl) (by kernel_rfl) (by kernel_rfl) (by kernel_rfl) (by kernel_rfl) (λ_ _ _ h=>h) (aS ⟨by rfl,λw' hSw=>by obtain⟨s0,s1,s2,s3,s4⟩:=hSw;go_simp⟩) hHeld ?_;refine cP (i:=6) (v:=ν xi) rfl (by kernel_rfl) (by kernel_rfl) (by kernel_rfl) (by kernel_rfl) (by kernel_rfl) (λ_ _ _ h=>h) (aS ⟨by rfl,λw' hSw=>by obtain⟨s0,s1,s2,s3,s4⟩:=hSw;go_simp⟩) hHeld ?_;refine cP (i:=7) (v:=bP #[ν xs,ν xm,ν xa,ν xn]) rfl (by kernel_rfl) (by kernel_rfl) (by kernel_rfl) (by kernel_rfl) (by kernel_rfl) (λ_ _ _ h=>h) (aS ⟨by rfl,λw' hSw=>by obtain⟨s0,s1,s2,s3,s4⟩:=hSw;go_simp⟩) hHeld ?_;refine cP (i:=8) (v:=bP #[ν xi,ν xs,ν xm,ν xa,ν xn]) rfl (by kernel_rfl) (by kernel_rfl) (by kernel_rfl) (by kernel_rfl) (by kernel_rfl) (λ_ _ _ h=>h) (aS ⟨by rfl,λw' hSw=>by obtain⟨s0,s1,s2,s3,s4⟩:=hSw;go_simp⟩) hHeld ?_;clear hHeld;refine iv (rs:= [9]) (by kernel_rfl) (by simp) ?_;refine cX.cons rfl (λK hK=> ?_) cX.nil;go_simp
 have B9:Hid (w4.grownBy (w4.alloc (aK #[ν xi,ν xs,ν xm,ν xa,ν xn] 188)) r):=η (QO B8.o _);have fP:=η (rV.o.own.alloc (aK #[ν xi,ν xs,ν xm,ν xa,ν xn] 188));have oq:=η (dS w4 188 #[ν xi,ν xs,ν xm,ν xa,ν xn] rfl);refine hK.o _ _ (λ_=>bJ.o _ B9.o) (λ_=> ?_);clear hK K;have GM:=η (aHN (aA L) (sF L) A c w4.heap.size [ν xi,ν xs,ν xm,ν xa,ν xn] _ fP.o (by omega) rfl oq.o (aGy ⟨xi,xs,xm,xa,xn⟩));generalize (w4.alloc (aK #[ν xi,ν xs,ν xm,ν xa,ν xn] 188))=w5 at*;refine iv (rs:= [10]) (by kernel_rfl) (by simp) ?_;refine cX.cons rfl (λK hK=> ?_) cX.nil;go_simp
 go_at_call 173
 refine GM.o.mono ?_;rintro e w6 ⟨g,cap,rfl,sB,xV,ha6⟩;have lx:=η sB;have BA:Hid (w4.grownBy w6 r):=η (F6 B9.o xV (aS HR.o.symm));have LH:Hid ((aH A (aA L) c).ownBlock=aC g\/w4.heap.size<=g):=η (ha6.imp id (λe=>bz B9.o.size e));clear sB xV ha6;go_wp2_with fail
 refine hK.o _ _ (λ_=>bJ.o _ BA.o) (λ_=> ?_);clear hK K;refine cP (i:=11) (v:=π tb) rfl (by kernel_rfl) (by kernel_rfl) (by kernel_rfl) (by kernel_rfl) (by kernel_rfl) (λ_ _ _ h=>h) (aS ⟨by rfl,λw' hSw=>by obtain⟨s0,s1,s2,s3,s4⟩:=hSw;go_simp⟩) (bJ.o _ BA.o) ?_;refine cP (i:=12) (v:=bD (aC ⟨tb,1,aB⟩)) rfl (by kernel_rfl) (by kernel_rfl) (by kernel_rfl) (by kernel_rfl) (by kernel_rfl) (λ_ _ _ h=>h) (aS ⟨by rfl,λw' hSw=>by obtain⟨s0,s1,s2,s3,s4⟩:=hSw;go_simp⟩) (bJ.o _ BA.o) ?_;refine iv (rs:= [13]) (by kernel_rfl) (by simp) ?_;refine cX.cons rfl (λK hK=> ?_) cX.nil;have c1:=(bJ.o _ BA.o).1;have iQ:=(BA.o.block tb a4g qc.o).trans rV.o.blk;have hf6:w6.frozen? ⟨tb,1,aB⟩=aP:=by simp [iO,iQ]
 have fC:=η iQ;clear iQ;go_simp
 refine hK.o _ _ (λh=>absurd rfl h) (λ_=> ?_);clear hK K;refine CL (by kernel_rfl) ?_ _;go_wp2_with fail
 go_ret;have IP:g≠tb:=by
  rintro rfl;rcases LH.o with e|e
  ·exact qc.o (by rw [HR.o,e])
  omega
 refine⟨aH (aC ⟨g,0,aB⟩) (aA L+1) cap,rfl,⟨(lz fC.o 1 _).trans rfl, ?_⟩, ?_, ?_⟩
 ·rw [cN,aGx];exact kP lx.o (λe=>IP (by simpa [eF] using e)) _
 ·have h1:bA (λk=>k=tb\/(aH A (aA L) c).ownBlock=aC k) w w4:=bA.bY _ (aY.o.trans (ar.o.mono aY.o.size));have h2:bA (λk=>k=tb\/(aH A (aA L) c).ownBlock=aC k) w4 w6:=bA.Iy BA.o (λk hk=>aS (aU (by rw [<-HR.o];exact hk)));exact(h1.trans h2 (λk hk=>aS hk)).setCell (p:=⟨tb,1,aB⟩) (aS (aS rfl)) _
 intro k hk;have e:k=g:=by simpa [eF] using hk.symm
 subst e;rcases LH.o with e|e
 ·exact aS e
 exact aU (bz (bz aY.o.size ar.o.size) e)
theorem aKc(xs us:List aN)(u:aN)(j:Nat)(hj:j<aA xs):(xs.set j u).take (j+1)++us++(xs.set j u).drop (j+1+aA us)=xs.take j++(u::us)++xs.drop (j+(aA us+1)):=by
 have e1:(xs.set j u).take (j+1)=xs.take j++ [u]:=by rw [fH (by simpa using hj),a0J,List.take_set_of_le (aZ _)]
 have e2:(xs.set j u).drop (j+1+aA us)=xs.drop (j+(aA us+1)):=by rw [List.drop_set_of_lt (by omega)];congr 1;omega
 rw [e1,e2];simp
theorem Xr {base:Nat} {e:bZ} {size g n cap:Nat}:∀(us:List aN) (j:Nat) (w:aJ) (xs:List aN),w.ownsRow base e size (aH (aC ⟨g,0,aB⟩) n cap) n xs->j+aA us<=aA xs->
 (w.setCells g j us).ownsRow base e size (aH (aC ⟨g,0,aB⟩) n cap) n (xs.take j++us++xs.drop (j+aA us))/\w.grownBy (w.setCells g j us) (aC g)
 | [],j,w,xs,h,_=>by simpa [World.setCells] using ⟨h,IA (aX _ _) (aC g)⟩
 |u::us,j,w,xs,h,hj=>by
  have hj':j<aA xs:=by simp at hj;omega
  obtain⟨h1,h2⟩:=h.stored j u;obtain⟨h3,h4⟩:=Xr us (j+1) _ _ h1 (by simp at hj ⊢;omega);rw [aKc xs us u j hj'] at h3;exact⟨h3,F6 h2 h4 (aS rfl)⟩
theorem aJE {w:aJ} {base:Nat} {e:bZ} {size g n cap:Nat} {xs:List aN}(h:w.ownsRow base e size (aH (aC ⟨g,0,aB⟩) (n+1) cap) (n+1) xs):w.ownsRow base e size (aH (aC ⟨g,0,aB⟩) n cap) n (xs.take (n*size)):=by
 rcases h.2 with⟨hv,h0⟩|⟨g',cap',cur,hv,hb,h2,h3,h4,h5,h6⟩
 ·cases hv
 refine⟨?_,aU ⟨g',cap',cur, ?_,hb,h2,by omega,h4,h5, ?_⟩⟩
 ·rw [vN,h.1];have:n*size<=(n+1)*size:=Gr _ (by omega);omega
 ·injection hv with e1 e2 e3;rw [e1,e3]
 rw [<-h6,aAB];congr 1;have:n*size<=(n+1)*size:=Gr _ (by omega);omega
def Z5:List aN:= [aG aF 0,aG aF 0,aG aF 0,aG aF 0,aG aF 0]
theorem aDy(w:aJ)(ty:bZ)(b o c:Nat)(hc:∀j,j<5->(w.cell? ⟨b,o+j,aB⟩).isSome=aO)(hf:∀j,j<5->w.frozen? ⟨b,o+j,aB⟩=aP):
 (Yz #[185] ty #[aH (aC ⟨b,o,aB⟩) 1 c]).run aM w= .ok (bC #[]) (w.setCells b o Z5):=by
 have hzc:(EH (Value.agg #[ν 0,ν 0,ν 0,ν 0,ν 0]).cells 1).toList=Z5:=by kernel_rfl
 have hst:=run_storeCells_cells (P:=aM) b o Z5 0 w (by simpa [Z5] using hc) (by simpa [Z5] using hf) (by intro v hv;simp [Z5] at hv;subst hv;rfl);simp only [Gp] at hst;simp [Yz,run_underlying Pb,hzc,hst]
def Z3(g n cap:Nat)(xs:List aN)(w:aJ)(e:dX)(w':aJ):Prop:=
 e=aT (aH (aC ⟨g,0,aB⟩) n cap)/\w'.ownsRow 0 188 5 (aH (aC ⟨g,0,aB⟩) n cap) n xs/\w.grownBy w' (aC g)
theorem aEy(n g cap:Nat)(x xs:List aN)(w:aJ)(hx:aA x=5)(h1:∀u∈xs,u.oneCell'=aO)(hown:w.ownsRow 0 188 5 (aH (aC ⟨g,0,aB⟩) (n+1) cap) (n+1) (x++xs))(hl:n<=100000):
 aQ aM 182 #[aH (aC ⟨g,0,aB⟩) (n+1) cap,ν 0,ν 1] w (Z3 g n cap xs w):=by
 have nK:aA xs=n*5:=by have:=hown.1;rw [cN,hx] at this;omega
 have FH:n+1<=cap/\cap<=bO:=by
  rcases hown.2 with⟨hv,h0⟩|⟨g',cap',cur,hv,_,hb,h3,h4,_⟩
  ·cases hv
  injection hv with e1 e2 e3;rw [e3];exact⟨h3,h4⟩
 have hcm:(cap:Int)<=9223372036854775807:=by have:=FH.2;unfold bO at this;omega
 have hc1:(n:Int)+1<=(cap:Int):=by omega
 have NI:w.drew.ownsRow 0 188 5 (aH (aC ⟨g,0,aB⟩) (n+1) cap) (n+1) (x++xs):=hown.drew;obtain⟨A,hA,a9k⟩:∃A:ai,(if cap=1 then aC (⟨g,0,aB⟩:ai) else aC ⟨g,5,aB⟩)=aC A/\Hid (∀t u,xs[t]? =aC u->w.drew.cell? (A.add t)=aC u):=by
  by_cases h:cap=1
  ·refine⟨⟨g,0,aB⟩,by simp [h],λt u hu=> ?_⟩;have h0:xs= []:=nU (by omega);rw [h0] at hu;simp at hu
  refine⟨⟨g,5,aB⟩,by simp [h],λt u hu=> ?_⟩;have ht:t<aA xs:=(zU.1 hu).1;have ea:(⟨g,5,aB⟩:ai).add t=⟨g,5+t,aB⟩:=by unfold Addr.add;split<;>simp_all
  rw [ea,NI.cellAt (5+t) (by omega),List.getElem?_append_right (by omega),hx,Nat.add_sub_cancel_left];exact hu
 obtain⟨o1,g1⟩:=Xr xs 0 w.drew (x++xs) NI (by rw [cN];omega);have oO:aA (UY 0 (x++xs)++xs++UR (0+aA xs) (x++xs))=n*5+5:=by simp only [nW,Gi,cN,List.length_drop,hx,nK];omega
 obtain⟨o2,g2⟩:=Xr Z5 (n*5) _ _ o1 (by rw [oO];simp [Z5]);have kS:Hid (((w.drew.setCells g 0 xs).setCells g (n*5) Z5).ownsRow 0 188 5 (aH (aC ⟨g,0,aB⟩) n cap) n xs):=η (by
  have h2:=aJE o2;have e:(UY (n*5) (UY 0 (x++xs)++xs++UR (0+aA xs) (x++xs))++Z5++UR (n*5+aA Z5) (UY 0 (x++xs)++xs++UR (0+aA xs) (x++xs))).take (n*5)=xs:=by simp only [nW,Gi];rw [List.append_assoc,a0M (by rw [vN,cN];omega),aAB,Nat.min_self,a0M (by omega),List.take_of_length_le (by omega)]
  rw [e] at h2;exact h2)
 have ZZ:Hid (w.grownBy ((w.drew.setCells g 0 xs).setCells g (n*5) Z5) (aC g)):=η (F6 (F6 (IA (aX _ _).drew (aC g)) g1 (aS rfl)) g2 (aS rfl));have hsp:Hid (∀j,j<aA xs->(w.drew.cell? ⟨g,0+0*5+j,aB⟩).isSome=aO/\w.drew.frozen? ⟨g,0+0*5+j,aB⟩=aP):=η (λj hj=>by
  have e0:0+0*5+j=j:=by omega
  rw [e0];exact⟨by rw [NI.cellAt j (by omega),iG (by rw [cN];omega)];rfl,NI.frozenAt j⟩)
 obtain⟨W1,hW1⟩:=xq (w.drew.setCells g 0 xs);rw [<-hW1] at kS ZZ o1
 have kL:∀ty,(Yz #[185] ty #[aH (aC ⟨g,n*5,aB⟩) 1 (cap-n)]).run aM W1= .ok (bC #[]) (W1.setCells g (n*5) Z5):=λty=>aDy W1 ty g (n*5) _
  (λj hj=>by rw [o1.cellAt (n*5+j) (by omega),iG (by rw [oO];omega)];rfl) (λj _=>o1.frozenAt _)
 have HW:Hid (W1=w.drew.setCells g (0+0*5) xs):=η hW1;have UI:=η nK;have H1:=η h1;obtain⟨ih,Qq,a4m,XN,a4n⟩:=dP XQ;have h11:(1:Int)<=(n:Int)+1:=by omega
 clear hown NI o1 o2 g1 g2 oO hW1 nK h1 hx;go_enter func182,ntmps182
 go_wp2
 go_region_law (refine step_append_room rfl (.tmp 22) (.tmp 25) 185 rfl 188 ih 5 Pb Qq XN g 0 0 cap (by simp [Act.eval,Act.put]) A n (cap-1) xs (by simp [Act.eval,Act.put]) UI.o a9k.o H1.o (by omega) hsp.o ?_;rw [<-HW.o])
 have kM:(0:Int)<=(n:Int):=by omega
 go_wp2
 go_ret;exact⟨rfl,kS.o,ZZ.o⟩
theorem aLR(room:Int)(v:aN)(L:List Hr)(i:Int)(tb:Nat)(w:aJ)(h:jH w tb room v L)(hl:aA L<=100000)(hu:qI L)(hi:wE L i=aP):
 aQ aM 113 #[π tb,ν i] w λe w'=>e=aT (bC #[bP #[ν 0,ν 0,ν 0,ν 0],ν 8])/\β w w':=by
 have aY:Hid (β w (w.alloc (aK #[ν 0,ν 0,ν 0,ν 0] 113))):=η σ;have HF:=η (Sc room v L i tb _ (h.below aY.o) hl hu);rw [hi] at HF;have HX:Hid ((w.alloc (aK #[ν 0,ν 0,ν 0,ν 0] 113)).heap[w.heap.size]? =aC (aK #[ν 0,ν 0,ν 0,ν 0] 113 (0,0))):=η (cQ w _);have hz0:w.heap.size<(w.alloc (aK #[ν 0,ν 0,ν 0,ν 0] 113)).heap.size:=by simp
 go_enter aAg,aBT
 go_wp2_with (go_at_call 172;refine HF.o.mono ?_;rintro e w2 ⟨rfl,hb2⟩;have aV:=η hb2;have hx2:=(hb2.block w.heap.size hz0).trans HX.o;have c0:w2.cell? ⟨w.heap.size,0,aB⟩=aC (ν 0):=ρ hx2;have c1:w2.cell? ⟨w.heap.size,1,aB⟩=aC (ν 0):=ρ hx2;have c2:w2.cell? ⟨w.heap.size,2,aB⟩=aC (ν 0):=ρ hx2;have c3:w2.cell? ⟨w.heap.size,3,aB⟩=aC (ν 0):=ρ hx2;have fz:∀j,w2.frozen? ⟨w.heap.size,j,aB⟩=aP:=(λj=>by simp [iO,hx2]);have hz2:w.heap.size<w2.heap.size:=cL hz0 hb2.size)
 have wT:=η (aY.o.trans (aV.o.mono aY.o.size));refine bodyPost_ret (v:=bC #[bP #[ν 0,ν 0,ν 0,ν 0],ν 8]) (by simp [results,aCC,go_sem,c0,c1,c2,c3,hz2]) rfl ⟨rfl, ?_⟩;repeat (first|exact wT.o|refine EF ?_ (by simp) _|refine rK ?_ (by simp;omega) _)
theorem aLQ(room:Int)(v:aN)(L:List Hr)(k:Nat)(hk:k<aA L)(tb:Nat)(w:aJ)(h:jH w tb room v L)(hl:aA L<=100000)(hu:qI L):
 aQ aM 113 #[π tb,ν L[k].i] w λe w'=>e=aT (bC #[bP #[ν L[k].s,ν L[k].m,ν L[k].a,ν L[k].n],ν 0])/\β w w':=by
 have h1:∀j (hj:j<aA L),j<k->L[j].i<L[k].i:=λj hj hjk=>vQ.1 hu j k hj hk hjk
 have aY:Hid (β w (w.alloc (aK #[ν 0,ν 0,ν 0,ν 0] 113))):=η σ;have HF:=η (Sc room v L L[k].i tb _ (h.below aY.o) hl hu);have hp:=Xy (by omega) h1 (λ_=>dM _);have hi:=a4y hu (by omega) h1 (λ_=>dM _);rw [iG hk] at hi;simp only [hk,decide_true,Bool.and_self] at hi;rw [hp,hi] at HF;have HT:=η (h.below aY.o);have HX:Hid ((w.alloc (aK #[ν 0,ν 0,ν 0,ν 0] 113)).heap[w.heap.size]? =aC (aK #[ν 0,ν 0,ν 0,ν 0] 113 (0,0))):=η (cQ w _);have hz0:w.heap.size<(w.alloc (aK #[ν 0,ν 0,ν 0,ν 0] 113)).heap.size:=by simp
 obtain⟨A,c,hv⟩:=bL h.own;subst hv;obtain⟨be,oe,rfl,kY,_,_,_,_,_⟩:=Ke (aW.cB h.own) hk;have hkb:(k:Int)<(aA L:Int):=by omega
 have ej:(0:Int)<=(k:Int):=by omega
 go_enter aAg,aBT
 go_wp2_with (go_at_call 172;refine HF.o.mono ?_;rintro e w2 ⟨rfl,hb2⟩;have aV:=η hb2;have hx2:=(hb2.block w.heap.size hz0).trans HX.o;have c0:w2.cell? ⟨w.heap.size,0,aB⟩=aC (ν 0):=ρ hx2;have c1:w2.cell? ⟨w.heap.size,1,aB⟩=aC (ν 0):=ρ hx2;have c2:w2.cell? ⟨w.heap.size,2,aB⟩=aC (ν 0):=ρ hx2;have c3:w2.cell? ⟨w.heap.size,3,aB⟩=aC (ν 0):=ρ hx2;have fz:∀j,w2.frozen? ⟨w.heap.size,j,aB⟩=aP:=(λj=>by simp [iO,hx2]);have hz2:w.heap.size<w2.heap.size:=cL hz0 hb2.size;have ct:=(HT.o.below hb2).c1;obtain⟨b',o',hA',aMg,_,e1,e2,e3,e4⟩:=Ke (aW.cB (HT.o.below hb2).own) hk;injection hA' with hA';injection hA' with Mm Vo;subst Mm Vo)
 have wT:=η (aY.o.trans (aV.o.mono aY.o.size));refine bodyPost_ret (v:=bC #[bP #[ν L[k].s,ν L[k].m,ν L[k].a,ν L[k].n],ν 0]) (by simp [results,aCC,go_sem,c0,c1,c2,c3]) rfl ⟨rfl, ?_⟩;repeat (first|exact wT.o|refine EF ?_ (by simp) _|refine rK ?_ (by simp;omega) _)
theorem aJk(x:Hr)(L:List Hr):E6 (x::L) x.i=0:=by unfold E6;rw [List.findIdx_cons];simp
theorem aHO(x:Hr)(L:List Hr):wE (x::L) x.i=aO:=by unfold wE;simp
def aAd(tb:Nat)(room:Int)(v:aN)(L:List Hr)(w:aJ)(w':aJ):Prop:=
 ∃v',jH w' tb room v' L/\bA (λk=>k=tb\/v.ownBlock=aC k) w w'/\∀k,v'.ownBlock=aC k->v.ownBlock=aC k\/w.heap.size<=k
theorem aLP(room:Int)(v:aN)(x:Hr)(L:List Hr)(tb:Nat)(w:aJ)(h:jH w tb room v (x::L))(hl:aA L<=99999)(hu:qI (x::L)):
 aQ aM 126 #[π tb,ν x.i] w λe w'=>e=aT (bC #[bP #[ν x.s,ν x.m,ν x.a,ν x.n],ν 0])/\aAd tb room v L w w':=by
 have HU:=η hu;have aY:Hid (β w (w.alloc (aK #[ν 0,ν 0,ν 0,ν 0] 113))):=η σ;have HT:=η (h.below aY.o);have Ff:=h.lt;have Oq:=η h.ne;have HG:=η (aLQ room v (x::L) 0 (by simp) tb _ HT.o (by simp;omega) hu);rw [List.getElem_cons_zero] at HG;have Qy:0<aA (x::L):=by simp
 obtain⟨g,cap,hv,hg0,jr⟩:=h.own.form Qy;subst hv;have HX:Hid ((w.alloc (aK #[ν 0,ν 0,ν 0,ν 0] 113)).heap[w.heap.size]? =aC (aK #[ν 0,ν 0,ν 0,ν 0] 113 (0,0))):=η (cQ w _);have hz0:w.heap.size<(w.alloc (aK #[ν 0,ν 0,ν 0,ν 0] 113)).heap.size:=by simp
 have IP:g≠tb:=λe=>Oq.o (by rw [e];rfl)
 go_enter func126,ntmps126
 have JV:Hid (∀W,jH W tb room (aH (aC ⟨g,0,aB⟩) (aA (x::L)) cap) (x::L)->aQ aM 172 #[π tb,ν x.i] W λe w'=>e=aT (bC #[ν 0,bK aO])/\β W w'):=η λW hW=>by have h1:=Sc room _ (x::L) x.i tb W hW (by simp;omega) HU.o;rw [aJk,aHO] at h1;exact h1
 have GI:Hid (∀W,jH W tb room (aH (aC ⟨g,0,aB⟩) (aA (x::L)) cap) (x::L)->aQ aM 182 #[aH (aC ⟨g,0,aB⟩) (aA L+1) cap,ν 0,ν 1] W (Z3 g (aA L) cap (sF L) W)):=η λW hW=>by
  refine aEy (aA L) g cap x.cells (sF L) W rfl (X4 L) ?_ (by omega);have h2:=hW.own;have e:sF (x::L)=x.cells++sF L:=by simp [sF]
  rw [e,uS] at h2;exact h2
 have hsx:w.heap.size≠tb:=by omega
 go_wp2_with (first|(go_at_call 113;refine HG.o.mono ?_;rintro e w2 ⟨rfl,hb2⟩;have aV:=η hb2;have qi:=η (HT.o.below hb2);have zR:=η (qi.o.below ((aX _ _).alloc (aZ _) (aK #[ν x.s,ν x.m,ν x.a,ν x.n] 113)));have HY:=η (cQ w2 (aK #[ν x.s,ν x.m,ν x.a,ν x.n] 113));have af:=η (rK hb2 hb2.size (aK #[ν x.s,ν x.m,ν x.a,ν x.n] 113));have hzy:w2.heap.size<(w2.alloc (aK #[ν x.s,ν x.m,ν x.a,ν x.n] 113)).heap.size:=(by simp);have hz2:w.heap.size<w2.heap.size:=cL hz0 hb2.size)|(go_at_call 172;refine(JV.o _ zR.o).mono ?_;rintro e w4 ⟨rfl,hb4⟩;have ar:=η hb4;have rV:=η (zR.o.below hb4);have ct:=rV.o.c1)|(go_at_call 182;refine(GI.o _ rV.o).mono ?_;rintro e w5 ⟨rfl,iY,fA⟩;have fP:=η iY;have B9:=η fA;have dA:=(fA.block tb rV.o.lt (by simp;omega)).trans rV.o.blk;have a9L:=η dA;have ct5:w5.cell? ⟨tb,1,aB⟩=aC (aH (aC ⟨g,0,aB⟩) (aA L+1) cap):=ρ dA;have cf5:w5.frozen? ⟨tb,1,aB⟩=aP:=(by simp [iO,dA]);have aNC:tb<w5.heap.size:=(fY.1 dA).1;have hy4:=(ar.o.block w2.heap.size hzy).trans HY.o;have RN:=(fA.block w2.heap.size (cL hzy ar.o.size) (by simp;omega)).trans hy4;have hx2:=(af.o.block w.heap.size hz0).trans HX.o;have XH:=(ar.o.block w.heap.size (cL hz0 af.o.size)).trans hx2;have Fh:=(fA.block w.heap.size (cL (cL hz0 af.o.size) ar.o.size) (by simp;omega)).trans XH;have y0:w5.cell? ⟨w2.heap.size,0,aB⟩=aC (ν x.s):=ρ RN;have y1:w5.cell? ⟨w2.heap.size,1,aB⟩=aC (ν x.m):=ρ RN;have y2:w5.cell? ⟨w2.heap.size,2,aB⟩=aC (ν x.a):=ρ RN;have y3:w5.cell? ⟨w2.heap.size,3,aB⟩=aC (ν x.n):=ρ RN;have x0:w5.cell? ⟨w.heap.size,0,aB⟩=aC (ν 0):=ρ Fh;have x1:w5.cell? ⟨w.heap.size,1,aB⟩=aC (ν 0):=ρ Fh;have x2:w5.cell? ⟨w.heap.size,2,aB⟩=aC (ν 0):=ρ Fh;have x3:w5.cell? ⟨w.heap.size,3,aB⟩=aC (ν 0):=ρ Fh;have fx:∀j,w5.frozen? ⟨w.heap.size,j,aB⟩=aP:=(λj=>by simp [iO,Fh]);have kM:¬w2.heap.size=tb:=(by omega);have oP:¬w.heap.size=tb:=(by omega);have nu:¬w.heap.size=w2.heap.size:=(by omega)))
 have cC:Hid (β w w4):=η ((aY.o.trans (af.o.mono aY.o.size)).trans (ar.o.mono (bz aY.o.size af.o.size)));have UB:Hid (jH (w5.setCell ⟨tb,1,aB⟩ (aH (aC ⟨g,0,aB⟩) (aA L) cap)) tb room (aH (aC ⟨g,0,aB⟩) (aA L) cap) L):=η ⟨(lz a9L.o 1 _).trans rfl,kP fP.o (λe=>IP (by simpa [eF] using e)) _⟩
 have HU6:Hid (bA (λk=>k=tb\/(aH (aC ⟨g,0,aB⟩) (aA L+1) cap).ownBlock=aC k) w (w5.setCell ⟨tb,1,aB⟩ (aH (aC ⟨g,0,aB⟩) (aA L) cap))):=η
  (((bA.bY _ cC.o).trans (S':=λk=>k=tb\/(aH (aC ⟨g,0,aB⟩) (aA L+1) cap).ownBlock=aC k) (bA.Iy B9.o (λk hk=>aS (aU hk))) (λk hk=>aS hk)).setCell (p:=⟨tb,1,aB⟩) (aS (aS rfl)) _)
 have hgx:g≠w.heap.size:=by omega
 refine bodyPost_ret (v:=bC #[bP #[ν x.s,ν x.m,ν x.a,ν x.n],ν 0]) (by simp [results,results126,go_sem,x0,x1,x2,x3]) rfl ⟨rfl,aH (aC ⟨g,0,aB⟩) (aA L) cap, ?_, ?_,λk hk=>aS hk⟩
 ·refine UB.o.upd (S:=λk=>k=w.heap.size) ?_ (λe=>oP e.symm) (λk hk e=>hgx ((show g=k by simpa [eF] using hk).trans e));exact((((bA.refl (λk=>k=w.heap.size) _).setCell (p:=⟨w.heap.size,0,aB⟩) (aS rfl) _).setCell (p:=⟨w.heap.size,1,aB⟩) (aS rfl) _).setCell (p:=⟨w.heap.size,2,aB⟩) (aS rfl) _).setCell (p:=⟨w.heap.size,3,aB⟩) (aS rfl) _
 exact(((HU6.o.setCell (p:=⟨w.heap.size,0,aB⟩) (aU (aZ _)) _).setCell (p:=⟨w.heap.size,1,aB⟩) (aU (aZ _)) _).setCell (p:=⟨w.heap.size,2,aB⟩) (aU (aZ _)) _).setCell (p:=⟨w.heap.size,3,aB⟩) (aU (aZ _)) _
def MK(vb:Nat)(p:Vp)(M A:Nat)(room:Int)(l:List Int)(h:List Hr)(w:aJ)(e:dX)(w':aJ):Prop:=
 ∃tv,e=aT (ν 0)/\gY w' vb {p with tv:=tv} M A room l h/\bA (qK vb p) w w'/\∀k,tv.ownBlock=aC k->p.tv.ownBlock=aC k\/w.heap.size<=k
theorem a2G {w:aJ} {a b:Nat} {c1 c2:Array aN} {t1 t2:bZ}(h1:w.heap[a]? =aC (aK c1 t1 (0,0)))(h2:w.heap[b]? =aC (aK c2 t2 (0,0)))(ht:t1≠t2):a≠b:=by rintro rfl;rw [h1] at h2;injection h2 with h2;injection h2 with _ h2;exact ht h2
theorem gY.holds {w w1:aJ} {vb:Nat} {p:Vp} {M A:Nat} {room:Int} {l:List Int} {h h':List Hr} {tv:aN}(H:gY w vb p M A room l h)(ht:jH w1 p.tb room tv h')(hu:bA (λk=>k=p.tb\/p.tv.ownBlock=aC k) w w1):gY w1 vb {p with tv:=tv} M A room l h':=by
 have n1:=a2G H.blk H.tb.blk (by decide);have n2:=a2G H.bk.blk H.tb.blk (by decide);have n3:=gS H.tb.own H.blk (by decide);have n4:=gS H.tb.own H.bk.blk (by decide);have n5:=gS H.bk.own H.tb.blk (by decide);have n6:=CA H.bk.own H.tb.own (by decide);refine⟨(hu.keep vb H.lt (λe=>e.elim n1 n3)).trans H.blk,H.bk.upd hu (λe=>e.elim n2 n4) (λk hk e=>e.elim (λe=>n5 (e▸hk)) (λe=> ?_)),ht⟩;rcases n6 with n6|n6
 ·rw [hk] at n6;cases n6
 exact n6 (hk.trans e.symm)
theorem qK.a6D {vb:Nat} {p:Vp} {k:Nat}(h:k=p.tb\/p.tv.ownBlock=aC k):qK vb p k:=h.elim (λe=>aU (aU (aU (aS e)))) (λe=>aU (aU (aU (aU e))))
theorem aLi(vb:Nat)(p:Vp)(M A:Nat)(room:Int)(l:List Int)(h:List Hr)(x:Hr)(w:aJ)(H:gY w vb p M A room l h)(vq:∀y∈l,aL y)(hl:aA h<=99999)(hu:qI h)(hp:E6 h x.i=aA h)(hi:wE h x.i=aP)(hr:(aA h:Int)<room/\room<=1000000000)
 (hk:aL x.s) (hm:aL x.m) (hf:tU x.s=aP) (mE:0<=x.n) (hpl:plcA M A x.s x.m x.a≠aB) (hI:aL (balA M A l x.s x.m x.a-iR h x.s x.m x.a)) (hn:x.n<=balA M A l x.s x.m x.a-iR h x.s x.m x.a):
 aQ aM 57 #[π vb,ν x.i,bP #[ν x.s,ν x.m,ν x.a,ν x.n]] w (MK vb p M A room l (h++ [x]) w):=by
 obtain⟨xi,xs,xm,xa,xn⟩:=x;simp only at hp hi hk hm hf mE hpl hI hn;have aY:Hid (β w (w.alloc (aK #[ν xs,ν xm,ν xa,ν xn] 113))):=η σ;have HV:=η (H.below aY.o);have HX:Hid ((w.alloc (aK #[ν xs,ν xm,ν xa,ν xn] 113)).heap[w.heap.size]? =aC (aK #[ν xs,ν xm,ν xa,ν xn] 113 (0,0))):=η (cQ w _);have hz0:w.heap.size<(w.alloc (aK #[ν xs,ν xm,ν xa,ν xn] 113)).heap.size:=by simp
 have Im:=H.lt;have UD:Hid (∀W,aa (w.alloc (aK #[ν xs,ν xm,ν xa,ν xn] 113)).heap.size (w.alloc (aK #[ν xs,ν xm,ν xa,ν xn] 113)) W->aQ aM 111 #[π vb,bP #[ν xs,ν xm],ν xa] W λe w'=>e=aT (bC #[ν (balA M A l xs xm xa-iR h xs xm xa),ν 0])/\β W w'):=η λW hW=>by have h1:=a8X vb p M A room l h xs xm xa W (HV.o.below hW) hk hm vq (by omega);rw [ifN hpl,ifN hpl,(eH hI).1,(eH hI).2] at h1;exact h1
 have JW:Hid (∀W,aa (w.alloc (aK #[ν xs,ν xm,ν xa,ν xn] 113)).heap.size (w.alloc (aK #[ν xs,ν xm,ν xa,ν xn] 113)) W->aQ aM 113 #[π p.tb,ν xi] W λe w'=>e=aT (bC #[bP #[ν 0,ν 0,ν 0,ν 0],ν 8])/\β W w'):=η λW hW=>aLR room p.tv h xi p.tb W (HV.o.below hW).tb (by omega) hu hi
 have ES:Hid (∀W,aa (w.alloc (aK #[ν xs,ν xm,ν xa,ν xn] 113)).heap.size (w.alloc (aK #[ν xs,ν xm,ν xa,ν xn] 113)) W->aQ aM 114 #[π p.tb] W λe w'=>e=aT (ν (room-(aA h:Int)))/\β W w'):=η λW hW=>aLU room p.tv h p.tb W (HV.o.below hW).tb (by omega) (by omega)
 have HPU:Hid (∀W,aa (w.alloc (aK #[ν xs,ν xm,ν xa,ν xn] 113)).heap.size (w.alloc (aK #[ν xs,ν xm,ν xa,ν xn] 113)) W->aQ aM 115 #[π p.tb,ν xi,bP #[ν xs,ν xm,ν xa,ν xn]] W (a0W p.tb room p.tv (h++ [⟨xi,xs,xm,xa,xn⟩]) W)):=η λW hW=>aLY room p.tv h ⟨xi,xs,xm,xa,xn⟩ p.tb W (HV.o.below hW).tb hl hu hp hi hr.1
 have wW:Hid (∀W,aQ aM 112 #[bP #[ν xs,ν xm]] W λe w'=>e=aT (bK aP)/\β W w'):=η λW=>by rw [<-hf];exact Q0 xs xm W
 have hrm:(room-(aA h:Int)==0)=aP:=by simp;omega
 generalize hFR:balA M A l xs xm xa-iR h xs xm xa=fr at*;clear hFR H vq hu hp hi hk hm hf hpl hI;go_enter func57,ntmps57
 go_upto_region 3 with fail
 generalize (w.alloc (aK #[ν xs,ν xm,ν xa,ν xn] 113))=w1 at*;obtain⟨bx,bU⟩:∃bx,bx=w.heap.size:=⟨_,rfl⟩;rw [<-bU] at HX hz0 ⊢;have hvx:vb<bx:=by omega
 clear bU;have iW:Hid (∀W,β w1 W->W.cell? ⟨bx,0,aB⟩=aC (ν xs)/\W.cell? ⟨bx,1,aB⟩=aC (ν xm)/\W.cell? ⟨bx,2,aB⟩=aC (ν xa)/\W.cell? ⟨bx,3,aB⟩=aC (ν xn)/\W.cell? ⟨vb,1,aB⟩=aC (π p.tb)):=η λW hW=>⟨((fD hW).1 _ _ hz0).trans (ρ HX.o),((fD hW).1 _ _ hz0).trans (ρ HX.o),((fD hW).1 _ _ hz0).trans (ρ HX.o),((fD hW).1 _ _ hz0).trans (ρ HX.o),(HV.o.below hW).c1⟩
 obtain⟨x0,x1,x2,x3,x4⟩:=iW.o _ (aX _ _);have hlv:vb<w1.heap.size:=by omega
 go_wp2_with (first|(go_at_call 112;refine(wW.o _).mono ?_;rintro e w2 ⟨rfl,hb2⟩;have qY:Hid (β w1 w2):=η hb2;clear x0 x1 x2 x3 x4 hb2;obtain⟨x0,x1,x2,x3,x4⟩:=iW.o _ qY.o)|(go_at_call 111;refine(UD.o _ qY.o).mono ?_;rintro e w3 ⟨rfl,hb3⟩;have iV:Hid (β w1 w3):=τ qY hb3;clear x0 x1 x2 x3 x4 hb3;obtain⟨x0,x1,x2,x3,x4⟩:=iW.o _ iV.o;have aMz:vb<w3.heap.size:=cL hlv iV.o.size)|(go_at_call 113;refine(JW.o _ iV.o).mono ?_;rintro e w4 ⟨rfl,hb4⟩;have gM:Hid (β w1 w4):=τ iV hb4;have oq:Hid (β w1 (w4.alloc (aK #[ν 0,ν 0,ν 0,ν 0] 113))):=η (gM.o.alloc gM.o.size _);clear x0 x1 x2 x3 x4 hb4;obtain⟨x0,x1,x2,x3,x4⟩:=iW.o _ gM.o;have aN0:vb<w4.heap.size:=cL hlv gM.o.size)|(go_at_call 114;refine(ES.o _ oq.o).mono ?_;rintro e w6 ⟨rfl,iQ⟩;have wZ:Hid (β w1 w6):=τ oq iQ;clear x0 x1 x2 x3 x4 iQ;obtain⟨x0,x1,x2,x3,x4⟩:=iW.o _ wZ.o;have aN1:vb<w6.heap.size:=cL hlv wZ.o.size))
 go_still_tail 6,(by kernel_rfl)
 change wpList _ _ _ _ _ w6.drew;have EW:Hid (β w1 w6.drew):=η wZ.o.drew;generalize w6.drew=w7 at*;clear x0 x1 x2 x3 x4;obtain⟨x0,x1,x2,x3,x4⟩:=iW.o _ EW.o;go_wp2_with (go_at_call 115;refine(HPU.o _ EW.o).mono ?_;rintro e w8 ⟨tv,rfl,ht8,hu8,Bl⟩;have HT8:=η ht8;have HU8:=η hu8;have BJ:=η Bl;clear ht8 hu8 Bl)
 go_ret;have dZ:β w w7:=aY.o.trans (EW.o.mono aY.o.size);exact⟨tv,rfl,(HV.o.below EW.o).holds HT8.o HU8.o,(bA.bY (qK vb p) dZ).trans HU8.o (λk hk=>aS (qK.a6D hk)),λk hk=>(BJ.o k hk).imp id (λe=>bz dZ.size e)⟩
theorem aLl(vb:Nat)(p:Vp)(M A:Nat)(room:Int)(l:List Int)(x:Hr)(h:List Hr)(w:aJ)(H:gY w vb p M A room l (x::h))(hl:aA h<=99999)(hu:qI (x::h)):
 aQ aM 64 #[π vb,ν x.i] w (MK vb p M A room l h w):=by
 have HV:=η H;have c1:=H.c1;have HD:=η (aLP room p.tv x h p.tb w H.tb hl hu);go_enter func64,ntmps64
 go_wp2_with (go_at_call 126;refine HD.o.mono ?_;rintro e w2 ⟨rfl,tv,ht2,vy,hs2⟩;have qi:=η ht2;have qF:=η vy;have cO:=η hs2)
 go_ret;exact⟨tv,rfl,((HV.o.holds qi qF).below σ),(((bA.refl (qK vb p) w).trans qF (λk hk=>aS (qK.a6D hk))).alloc _),cO⟩
theorem aLf(vb:Nat)(p:Vp)(M A:Nat)(room:Int)(l:List Int)(h:List Hr)(w:aJ)(H:gY w vb p M A room l h)(hl:aA h<=100000):
 aQ aM 63 #[π vb] w (pg 2 1 (aA h) ((h.map (·.i)).map (aG aF)) w):=by
 have c1:=H.c1;have Lt:=η (a8P room p.tv h p.tb w H.tb hl);clear H;go_enter func63,ntmps63
 go_wp2_with (go_at_call 125;refine Lt.o.mono ?_)
 rintro e w2 ⟨v2,rfl,eY,hb2⟩;have HO:=η eY;have HB:Hid (β w w2):=η hb2;obtain⟨Ar,cr,hv⟩:=bL eY;subst hv;obtain⟨ids,WW⟩:∃ids:List aN,ids=(h.map (·.i)).map (aG aF):=⟨_,rfl⟩;have Zd:=η WW;have uM:Hid (aA ids=aA h):=η (by rw [WW,iX,iX]);have mQ:Hid (w2.ownsRow w2.heap.size 2 1 (aH aB 0 0) 0 (ids.take 0)):=η (by rw [nW];exact gG _ _ _ _);have sY:Hid (β w2 w2):=η (aX _ _);obtain⟨i0,bu,hz0',fw,xe⟩:=dP Na;clear eY hb2 Lt c1 WW;go_wp2_with fail
 go_loopw [3,5,14] (λv _ i wr=>∃j:Nat,j<=aA h/\i=ν (j:Int)/\Hid (β w2 wr)/\Hid (wr.ownsRow w2.heap.size 2 1 v j (ids.take j))) (λ_ _ i _=>aA h-(ag i).toNat)
 case atStart=>exact⟨0,bM _,rfl,sY,mQ⟩
 case round=>
  clear sY mQ;obtain⟨j,hj,rfl,HR,HOW⟩:=hrel;obtain⟨Ax,cx,pN⟩:=bL HOW.o;subst pN;by_cases hlt:j<aA h
  ·obtain⟨be,oe,rfl,kY,e0,e1,e2,e3,e4⟩:=Ke (((aW.cB HO.o).below HR.o).mono HR.o.size) hlt;have jU:Hid (ids.take (j+1)=ids.take j++ [ν h[j].i]):=η (by rw [fH (by rw [uM.o];exact hlt)];simp [Zd.o]);have AE:(0:Int)<=(j:Int):=by omega
   have hjb:(j:Int)<(aA h:Int):=by omega
   generalize h[j]=r at*;obtain⟨ri,rs,rm,ra,rn⟩:=r;simp only at e0 e1 e2 e3 e4 jU;have af:Hid (β w2 ((wr.alloc (aK #[ν ri,ν rs,ν rm,ν ra,ν rn] 188)).alloc (aK #[ν ri] 2))):=η ((HR.o.alloc HR.o.size _).alloc (by have:=HR.o.size;simp;omega) _);have cD:=η ((HOW.o.alloc (aK #[ν ri,ν rs,ν rm,ν ra,ν rn] 188)).alloc (aK #[ν ri] 2));have hzz:w2.heap.size<=wr.heap.size:=HR.o.size;go_wp2_with (at_builtin;refine wpList_append_lies _ rfl _ _ 53 rfl w2.heap.size 2 i0 _ 1 8 mX bu hz0' fw xe rfl (by decide) _ j _ rfl cD.o ⟨wr.heap.size+1,0,aB⟩ 1 1 [ν ri] rfl rfl (dS _ _ #[_] (by simp)) xy (by omega) (by simp only [bO];omega) (by omega) (by simp;omega) (wr.heap.size+1+1) (by simp) ?_)
   intro g4 MU w4 pQ iT _ _;have ar:Hid (β w2 w4):=η (af.o.grown iT (by simp;omega) (λk hk=>eU cD.o k hk));have dY:Hid (w4.ownsRow w2.heap.size 2 1 (aH (aC ⟨g4,0,aB⟩) (j+1) MU) (j+1) (ids.take (j+1))):=η (by rw [jU.o];exact pQ);clear pQ iT af cD HOW HR;go_wp2_with fail
   go_roundw
   case rel=>exact⟨j+1,by omega,by go_num,ar,dY⟩
   case measure=>simp [ag];omega
  obtain rfl:j=aA h:=by omega
  have fP:Hid (wr.ownsRow w.heap.size 2 1 (aH Ax (aA h) cx) (aA h) ((h.map (·.i)).map (aG aF))):=η (by have h2:=HOW.o;rw [List.take_of_length_le (by rw [uM.o];exact aZ _),Zd.o] at h2;exact iD h2 HB.o.size);go_wp2_with fail
  go_ret;exact⟨_,rfl,fP.o,HB.o.trans (HR.o.mono HB.o.size)⟩
def aAR(M A:Nat)(room:Int)(l:List Int)(h:List Hr)(w:aJ)(e:dX)(w':aJ):Prop:=
 ∃nb p,e=aT (π nb)/\gY w' nb p M A room l h/\(∀k,qK nb p k->w.heap.size<=k)/\β w w'
theorem aLe(vb:Nat)(p:Vp)(M A:Nat)(room:Int)(l:List Int)(h:List Hr)(w:aJ)(H:gY w vb p M A room l h)(hl:aA h<=100000):
 aQ aM 93 #[π vb] w (aAR M A room l h w):=by
 have bJ:Hid (∀W,β w W->W.cell? ⟨vb,0,aB⟩=aC (π p.bb)/\W.cell? ⟨vb,1,aB⟩=aC (π p.tb)):=η λW hW=>⟨(H.below hW).c0,(H.below hW).c1⟩
 have B2:=η (λW (hW:β w W)=>a1s M A p.bv l p.po p.bb W (H.below hW).bk);have TK:=η (λW (hW:β w W)=>aLN room p.tv h p.tb W (H.below hW).tb hl);go_enter func93,ntmps93
 go_wp2
 have yg:β w w.drew:=(aX _ _).drew;go_region_held3 (λW=>W.cell? ⟨vb,0,aB⟩=aC (π p.bb)/\W.cell? ⟨vb,1,aB⟩=aC (π p.tb)) (first|(with_reducible exact bJ.o _ yg)|(with_reducible exact bJ.o _ (yg.alloc yg.size _))) ((first|(go_at_call 98;refine(B2.o _ yg).mono ?_;rintro e wb ⟨nb,nv,rfl,hkb,mF,hnv,j6⟩;have yg:=yg.trans (j6.mono yg.size))|(go_at_call 156;refine(TK.o _ yg).mono ?_;rintro e wt ⟨nt,tv,rfl,hkt,hnt,htv,hbt⟩;have yg:=yg.trans (hbt.mono yg.size))))
 have Cg:=η (hkb.below hbt);have HKT:=η hkt;have TM:=η yg;have OW:Hid ((w.heap.size<=nb/\∀k,nv.ownBlock=aC k->w.heap.size<=k)/\w.heap.size<=nt/\∀k,tv.ownBlock=aC k->w.heap.size<=k):=η ⟨⟨mF,hnv⟩,bz j6.size hnt,λk hk=>bz j6.size (htv k hk)⟩;go_wp2
 go_ret;refine⟨wt.heap.size,⟨nb,nv,p.po,nt,tv⟩,rfl,⟨cQ wt _,Cg.o.below σ,HKT.o.below σ⟩, ?_,TM.o.alloc TM.o.size _⟩;rintro k (e|e|e|e|e)
 ·rw [e];exact TM.o.size
 ·rw [e];exact OW.o.1.1
 ·exact OW.o.1.2 k e
 ·rw [e];exact OW.o.2.1
 exact OW.o.2.2 k e
theorem aLh(M A r:Nat)(hM:M<=16)(Mm:1<=A)(hA:A<=9)(w:aJ):
 aQ aM 31 #[ν (M:Int),ν (A:Int),ν (r:Int)] w λe w'=>∃nb p,e=aT (bC #[π nb,ν 0])/\gY w' nb p M A (r:Int) (gP (A*(6+3*M)) 0) []/\(∀k,qK nb p k->w.heap.size<=k)/\β w w':=by
 have bX:=η (aDJ M A hM Mm hA w);have qc:=η (λW=>aLV (r:Int) W (by omega));go_enter func31,ntmps31
 go_wp2_with (first|(go_at_call 80;refine(qc.o _).mono ?_;rintro e w3 ⟨nt,tv,rfl,hk3,nu,hv3,hb3⟩;have oh:=η hk3;have iV:Hid (w2.heap.size<=nt/\∀k,tv.ownBlock=aC k->w2.heap.size<=k):=η ⟨nu,hv3⟩;have af:=η hb3)|(go_at_call 79;refine bX.o.mono ?_;rintro e w2 ⟨nb,nv,rfl,hk2,oP,hv2,hb2⟩;have lq:=η hk2;have qY:Hid (w.heap.size<=nb/\∀k,nv.ownBlock=aC k->w.heap.size<=k):=η ⟨oP,hv2⟩;have aV:=η hb2))
 go_ret2;have dZ:=aV.o.trans (af.o.mono aV.o.size);refine⟨w3.heap.size,⟨nb,nv,0,nt,tv⟩,rfl,⟨cQ w3 _,(lq.o.below af.o).below σ,oh.o.below σ⟩, ?_,dZ.alloc dZ.size _⟩;rintro k (e|e|e|e|e)
 ·rw [e];exact dZ.size
 ·rw [e];exact qY.o.1
 ·exact qY.o.2 k e
 ·rw [e];exact bz aV.o.size iV.o.1
 exact bz aV.o.size (iV.o.2 k e)
def bg(n least most:Int):Bool:=decide (least<=n)&&decide (n<=most)
theorem z8(n a b:Int)(w:aJ):aQ aM 240 #[aG aF n,aG aF a,aG aF b] w λe w'=>e=aT (bK (bg n a b))/\w=w':=by
 have HB:=η (show bg n a b=(decide (a<=n)&&decide (n<=b)) from rfl);by_cases h1:a<=n
 ·by_cases h2:n<=b
  ·go_enter a0k,a1E
   go_wp2
   go_ret;exact⟨fT (by rw [HB.o];simp [h1,h2]),rfl⟩
  go_enter a0k,a1E
  go_wp2
  go_ret;exact⟨fT (by rw [HB.o,decide_eq_false (show¬n<=b by omega)];simp),rfl⟩
 go_enter a0k,a1E
 go_wp2
 go_ret;exact⟨fT (by rw [HB.o,decide_eq_false (show¬a<=n by omega)];simp),rfl⟩
theorem Iw(n a b:Int)(w:aJ):aQ aM 243 #[aG aF n,aG aF a,aG aF b] w λe w'=>e=aT (bK (bg n a b))/\w=w':=by
 have HB:=η (show bg n a b=(decide (a<=n)&&decide (n<=b)) from rfl);by_cases h1:a<=n
 ·by_cases h2:n<=b
  ·go_enter a0l,a1F
   go_wp2
   go_ret;exact⟨fT (by rw [HB.o];simp [h1,h2]),rfl⟩
  go_enter a0l,a1F
  go_wp2
  go_ret;exact⟨fT (by rw [HB.o,decide_eq_false (show¬n<=b by omega)];simp),rfl⟩
 go_enter a0l,a1F
 go_wp2
 go_ret;exact⟨fT (by rw [HB.o,decide_eq_false (show¬a<=n by omega)];simp),rfl⟩
def um(x:Pr):Bool:=bg x.a 0 1099511627776&&bg x.b 0 1099511627776
def uu(x:Pr):Bool:=bg x.a 1 1048576&&bg x.b x.a 1048576
def kZ(l:List Pr):Bool:=l.all um&&bg (aA l) 2 16
def lJ(l:List Pr):Bool:=l.all uu&&bg (aA l) 1 8
theorem Po {α:Type}(p:α->Bool) {l:List α} {k:Nat}(hk:k<aA l):(l.take (k+1)).all p=((l.take k).all p&&p l[k]):=by rw [fH hk,List.all_append];simp
theorem aI7(l:List Pr)(A:Option ai)(c:Nat)(w:aJ)(hs:aW w w.heap.size A (je l))(hl:aA l<=1000000):
 aQ aM 234 #[aH A (aA l) c] w λe w'=>e=aT (bK (kZ l))/\β w w':=by
 have HS:=η hs;have HA:=η (show kZ l=(l.all um&&bg (aA l) 2 16) from rfl);go_enter func234,ntmps234
 go_wp2_with fail
 go_loopw [4,7] (λ_ i wr=>∃k:Nat,k<=aA l/\i=ν k/\Hid ((l.take k).all um=aO)/\Hid (β w wr)) (λ_ i _=>aA l-(ag i).toNat)
 case atStart=>exact⟨0,bM _,rfl,rfl,aX _ _⟩
 case round=>
  obtain⟨k,hk,rfl,HK,HB⟩:=hrel;have hsz:=HB.o.size;by_cases hlt:k<aA l
  ·obtain⟨b,o,rfl,hb,d0,d1⟩:=Fs (HS.o.below HB.o) hlt;have cG:=η (Po um hlt);have HP:=η (show um l[k]=(bg l[k].a 0 1099511627776&&bg l[k].b 0 1099511627776) from rfl);cases h1:bg l[k].a 0 1099511627776
   ·have HF:Hid (aP=kZ l):=by
     show _=_;rw [HA.o,show l.all um=aP from Jt.2 ⟨l[k],cK hlt,by rw [HP.o,h1];simp⟩];rfl
    go_wp2_with fail
    refine(z8 _ _ _ _).mono ?_;rintro e w1 ⟨rfl,rfl⟩;rw [h1];go_wp2_with fail
    go_ret;exact⟨fT HF.o,HB.o.alloc hsz _⟩
   cases h2:bg l[k].b 0 1099511627776
   ·have HF:Hid (aP=kZ l):=by
     show _=_;rw [HA.o,show l.all um=aP from Jt.2 ⟨l[k],cK hlt,by rw [HP.o,h1,h2];simp⟩];rfl
    go_wp2_with fail
    refine(z8 _ _ _ _).mono ?_;rintro e w1 ⟨rfl,rfl⟩;rw [h1];go_wp2_with fail
    refine(z8 _ _ _ _).mono ?_;rintro e w1 ⟨rfl,rfl⟩;rw [h2];go_wp2_with fail
    go_ret;exact⟨fT HF.o,HB.o.alloc hsz _⟩
   have HX:Hid ((l.take (k+1)).all um=aO):=by show _=_;rw [cG.o,HK.o,HP.o,h1,h2];rfl
   go_wp2_with fail
   refine(z8 _ _ _ _).mono ?_;rintro e w1 ⟨rfl,rfl⟩;rw [h1];go_wp2_with fail
   refine(z8 _ _ _ _).mono ?_;rintro e w1 ⟨rfl,rfl⟩;rw [h2];go_wp2_with fail
   go_roundw
   case rel=>exact⟨k+1,by omega,by go_num,HX,HB.o.alloc hsz _⟩
   case measure=>simp [ag];omega
  obtain rfl:k=aA l:=by omega
  have hK:=HK.o;rw [cU] at hK;have HF:Hid (bg (aA l) 2 16=kZ l):=by show _=_;rw [HA.o,hK];rfl
  go_wp2_with fail
  refine(Iw _ _ _ _).mono ?_;rintro e w1 ⟨rfl,rfl⟩;go_wp2_with fail
  go_ret;exact⟨fT HF.o,HB.o⟩
theorem aKU(l:List Pr)(A:Option ai)(c:Nat)(w:aJ)(hs:aW w w.heap.size A (je l))(hl:aA l<=1000000):
 aQ aM 236 #[aH A (aA l) c] w λe w'=>e=aT (bK (lJ l))/\β w w':=by
 have HS:=η hs;have HA:=η (show lJ l=(l.all uu&&bg (aA l) 1 8) from rfl);go_enter func236,ntmps236
 go_wp2_with fail
 go_loopw [4,7] (λ_ i wr=>∃k:Nat,k<=aA l/\i=ν k/\Hid ((l.take k).all uu=aO)/\Hid (β w wr)) (λ_ i _=>aA l-(ag i).toNat)
 case atStart=>exact⟨0,bM _,rfl,rfl,aX _ _⟩
 case round=>
  obtain⟨k,hk,rfl,HK,HB⟩:=hrel;have hsz:=HB.o.size;by_cases hlt:k<aA l
  ·obtain⟨b,o,rfl,hb,d0,d1⟩:=Fs (HS.o.below HB.o) hlt;have cG:=η (Po uu hlt);have HP:=η (show uu l[k]=(bg l[k].a 1 1048576&&bg l[k].b l[k].a 1048576) from rfl);cases h1:bg l[k].a 1 1048576
   ·have HF:Hid (aP=lJ l):=by
     show _=_;rw [HA.o,show l.all uu=aP from Jt.2 ⟨l[k],cK hlt,by rw [HP.o,h1];simp⟩];rfl
    go_wp2_with fail
    refine(z8 _ _ _ _).mono ?_;rintro e w1 ⟨rfl,rfl⟩;rw [h1];go_wp2_with fail
    go_ret;exact⟨fT HF.o,HB.o.alloc hsz _⟩
   cases h2:bg l[k].b l[k].a 1048576
   ·have HF:Hid (aP=lJ l):=by
     show _=_;rw [HA.o,show l.all uu=aP from Jt.2 ⟨l[k],cK hlt,by rw [HP.o,h1,h2];simp⟩];rfl
    go_wp2_with fail
    refine(z8 _ _ _ _).mono ?_;rintro e w1 ⟨rfl,rfl⟩;rw [h1];go_wp2_with fail
    refine(z8 _ _ _ _).mono ?_;rintro e w1 ⟨rfl,rfl⟩;rw [h2];go_wp2_with fail
    go_ret;exact⟨fT HF.o,HB.o.alloc hsz _⟩
   have HX:Hid ((l.take (k+1)).all uu=aO):=by show _=_;rw [cG.o,HK.o,HP.o,h1,h2];rfl
   go_wp2_with fail
   refine(z8 _ _ _ _).mono ?_;rintro e w1 ⟨rfl,rfl⟩;rw [h1];go_wp2_with fail
   refine(z8 _ _ _ _).mono ?_;rintro e w1 ⟨rfl,rfl⟩;rw [h2];go_wp2_with fail
   go_roundw
   case rel=>exact⟨k+1,by omega,by go_num,HX,HB.o.alloc hsz _⟩
   case measure=>simp [ag];omega
  obtain rfl:k=aA l:=by omega
  have hK:=HK.o;rw [cU] at hK;have HF:Hid (bg (aA l) 1 8=lJ l):=by show _=_;rw [HA.o,hK];rfl
  go_wp2_with fail
  refine(Iw _ _ _ _).mono ?_;rintro e w1 ⟨rfl,rfl⟩;go_wp2_with fail
  go_ret;exact⟨fT HF.o,HB.o⟩
def iK(l:List Cy):List Int:=l.flatMap λx=> [x.a,x.b,x.c,x.d]
theorem a8L {l:List Cy} {k:Nat}(hk:k<aA l):iK (l.take (k+1))=iK (l.take k)++ [l[k].a,l[k].b,l[k].c,l[k].d]:=by unfold iK;rw [fH hk,List.flatMap_append];simp
theorem a8K(l:List Cy):aA (iK l)=4*aA l:=by
 induction l with
 |nil=>rfl
 |cons a l ih=>unfold iK at*;rw [xB,cN,ih];simp;omega
theorem aLS(x:ak)(w:aJ)(h:lj w x)(hl:aA x.cy<=100000):
 aQ aM 263 #[x.val] w (ZE w (iK x.cy)):=by
 have dT:=η (h.below (mY w x));have aY:=η (mY w x);have c2:=(zl w x).c2;obtain⟨i0,bu,hz0,fw,hz2⟩:=dP Ra;unfold ak.val;clear h;obtain⟨ms,Am,cm,ss,As,cs,cy,Ac,cc,line,bW,lead,tr,bT⟩:=x;obtain⟨_,_,hc⟩:=dT.o;have HC:=η hc;clear hc dT;simp only at*;go_enter func263,ntmps263
 go_wp2_with fail
 generalize w.alloc (aK #[aH Am (aA ms) cm,aH As (aA ss) cs,aH Ac (aA cy) cc,ν line,ν bW,ν lead,ν tr,ν bT] 26)=W0 at*;go_loopw [3,5,9] (λu _ i wr=>∃k:Nat,k<=aA cy/\i=ν k/\Hid (wr.ownsRow W0.heap.size 3 1 u (aA (iK (cy.take k))) ((iK (cy.take k)).map (aG aF)))/\Hid (β W0 wr)) (λ_ _ i _=>aA cy-(ag i).toNat)
 case atStart=>exact⟨0,bM _,rfl,⟨by simp [iK],aS ⟨rfl,rfl⟩⟩,aX _ _⟩
 case round=>
  obtain⟨k,hk,rfl,HO,HB⟩:=hrel;have hsz:=HB.o.size;have Ff:=a8K (cy.take k);have Bn:aA (iK (cy.take k))<=400000:=by rw [Ff,vN];omega
  clear Ff;by_cases hlt:k<aA cy
  ·obtain⟨b,o,rfl,hb,d0,d1,d2,d3⟩:=a2Z (HC.o.below HB.o) hlt;have jR:=η (a8L hlt);generalize iK (cy.take k)=ys at*;go_wp2_with (at_builtin;refine jC _ rfl _ _ 46 rfl W0.heap.size 3 i0 _ 1 8 yU bu hz0 fw hz2 rfl (by decide) _ (aA ys) (ys.map (aG aF)) rfl ((HO.o.alloc _).alloc _) ⟨wr.heap.size+1,0,aB⟩ 4 4 [ν cy[k].a,ν cy[k].b,ν cy[k].c,ν cy[k].d] rfl rfl (dS _ _ #[_,_,_,_] (by simp)) a3R (by simp only [bO];omega) (by omega) (by simp;omega) ?_)
   intro v' w4 hown1 dK _;have dY:Hid (w4.ownsRow W0.heap.size 3 1 v' (aA (iK (cy.take (k+1)))) ((iK (cy.take (k+1))).map (aG aF))):=by show kF _ _ _ _ _ _ _;rw [jR.o,dh,cN];exact hown1
   have py:Hid (β W0 w4):=((HB.o.alloc hsz _).alloc (by simp;omega) _).grown dK (by simp;omega) (λj hj=>eU HO.o j hj);clear hown1 dK;go_wp2_with fail
   go_roundw
   case rel=>exact⟨k+1,by omega,by go_num,dY,py⟩
   case measure=>simp [ag];omega
  obtain rfl:k=aA cy:=by omega
  have hO:=HO.o;rw [cU] at hO;obtain⟨A2,c2',rfl⟩:=bL hO;have cO:=η (aW.cB hO);clear hO;go_wp2_with fail
  go_ret;exact⟨A2,c2',rfl,cO.o,aY.o.trans (HB.o.mono aY.o.size)⟩
def risesB:Int->List Int->Bool
 |_,[]=>aO
 |p,t::r=>decide (p<t)&&risesB t r
def jc:Int->List Int->Int
 |p,[]=>p
 |_,t::r=>jc t r
theorem a6z(t:Int):∀(l:List Int) (p:Int),risesB p (l++ [t])=(risesB p l&&decide (jc p l<t))
 | [],p=>by show (decide (p<t)&&aO)=(aO&&decide (p<t));rw [Bool.and_true,Bool.true_and]
 |a::l,p=>by rw [List.cons_append];unfold risesB jc;rw [a6z t l a,Bool.and_assoc]
theorem a5Q(t:Int):∀(l:List Int) (p:Int),jc p (l++ [t])=t
 | [],_=>rfl
 |a::l,_=>by rw [List.cons_append];unfold jc;exact a5Q t l a
theorem a6y:∀(l r:List Int) (p:Int),risesB p l=aP->risesB p (l++r)=aP
 | [],_,_,h=>by simp [risesB] at h
 |a::l,r,p,h=>by
  rw [List.cons_append];unfold risesB at*;rcases Bool.and_eq_false_iff.1 h with h1|h1
  ·rw [h1];rfl
  rw [a6y l r a h1,JF]
def lW(l:List Cy):Bool:=risesB 0 (iK l)&&(bg (aA l) 1 4&&decide (jc 0 (iK l)<=1000))
theorem aEf(x:ak)(w:aJ)(h:lj w x)(hl:aA x.cy<=100000):
 aQ aM 238 #[x.val] w λe w'=>e=aT (bK (lW x.cy))/\β w w':=by
 have HT:=η (aLS x _ (h.below (mY w x)) hl);have aY:=η (mY w x);have HX:=η (zl w x);have HA:=η (show lW x.cy=(risesB 0 (iK x.cy)&&(bg (aA x.cy) 1 4&&decide (jc 0 (iK x.cy)<=1000))) from rfl);have Ff:aA (iK x.cy)<=400000:=by rw [a8K];omega
 have hb0:=(mY w x).size;obtain⟨c0,c1,c2,c3,c4,c5,c6,c7,jL⟩:=HX.o;unfold ak.val at*;generalize hcv:lW x.cy=cv at*;go_enter func238,ntmps238
 go_wp2_with fail
 generalize w.alloc (aK #[aH x.Am (aA x.ms) x.cm,aH x.As (aA x.ss) x.cs,aH x.Ac (aA x.cy) x.cc,ν x.line,ν x.bW,ν x.lead,ν x.tr,ν x.bT] 26)=W0 at*;refine HT.o.mono ?_;rintro e w1 ⟨A1,k1,rfl,hs1,hb1⟩;generalize iK x.cy=zs at*;have cj:=η hs1;have aR:=η hb1;have oC:=η (HX.o.below hb1);have d2:=(HX.o.below hb1).c2;go_wp2_with fail
 go_loop [3,5,9] (λp _ i=>∃k:Nat,k<=aA zs/\i=ν k/\p=ν (jc 0 (zs.take k))/\Hid (risesB 0 (zs.take k)=aO)) (λ_ _ i=>aA zs-(ag i).toNat)
 case atStart=>exact⟨0,bM _,rfl,rfl,rfl⟩
 case round=>
  obtain⟨k,hk,rfl,rfl,HK⟩:=hrel;by_cases hlt:k<aA zs
  ·obtain⟨b,o,rfl,hb,e0⟩:=tZ cj.o hlt;have HR:=η (a6z zs[k] (zs.take k) 0);have HL:=η (a5Q zs[k] (zs.take k) 0);have jU:=η (fH hlt);by_cases hp:zs[k]<=jc 0 (zs.take k)
   ·have HF:Hid (aP=cv):=by
     show _=_;have h1:risesB 0 (zs.take (k+1))=aP:=by rw [jU.o,HR.o,decide_eq_false (by omega),JF]
     have h2:risesB 0 zs=aP:=by have:=a6y (zs.take (k+1)) (zs.drop (k+1)) 0 h1;rw [List.take_append_drop] at this;exact this
     rw [HA.o,h2];rfl
    go_wp2_with fail
    go_ret;exact⟨fT HF.o,aY.o.trans (aR.o.mono hb0)⟩
   have kU:Hid (risesB 0 (zs.take (k+1))=aO):=by show _=_;rw [jU.o,HR.o,HK.o,decide_eq_true (by omega)];rfl
   have oD:Hid (jc 0 (zs.take (k+1))=zs[k]):=by show _=_;rw [jU.o,HL.o]
   go_wp2_with fail
   go_round
   case rel=>exact⟨k+1,by omega,by go_num,by rw [oD.o],kU⟩
   case measure=>simp [ag];omega
  obtain rfl:k=aA zs:=by omega
  have hK:=HK.o;rw [cU] at hK ⊢;have HF:Hid (cv=(bg (aA x.cy) 1 4&&decide (jc 0 zs<=1000))):=by show _=_;rw [HA.o,hK];rfl
  cases hi:bg (aA x.cy) 1 4
  ·go_wp2_with fail
   refine(Iw _ _ _ _).mono ?_;rintro e w2 ⟨rfl,rfl⟩;rw [hi];go_wp2_with fail
   go_ret;exact⟨fT (by rw [HF.o,hi];rfl),aY.o.trans (aR.o.mono hb0)⟩
  generalize jc 0 zs=la at*;go_wp2_with fail
  refine(Iw _ _ _ _).mono ?_;rintro e w2 ⟨rfl,rfl⟩;rw [hi];go_wp2_with fail
  go_ret;exact⟨fT (by rw [HF.o,hi];simp),aY.o.trans (aR.o.mono hb0)⟩
theorem aDa(x:ak)(bx:Nat)(w:aJ)(h:pd w bx x)(hk:lj w x)(hl:aA x.ms<=100000):
 aQ aM 233 #[π bx] w λe w'=>e=aT (bK (!kZ x.ms))/\β w w':=by
 obtain⟨c0,c1,c2,c3,c4,c5,c6,c7,jL⟩:=h;have HC:=η (aI7 x.ms x.Am x.cm w hk.m (by omega));generalize kZ x.ms=bv at*;go_enter func233,ntmps233
 go_wp2_with fail
 refine HC.o.mono ?_;rintro e w1 ⟨rfl,hb1⟩;have aR:=η hb1;go_wp2_with fail
 go_ret;exact⟨rfl,aR.o⟩
theorem aDb(x:ak)(bx:Nat)(w:aJ)(h:pd w bx x)(hk:lj w x)(hl:aA x.ss<=100000):
 aQ aM 235 #[π bx] w λe w'=>e=aT (bK (!lJ x.ss))/\β w w':=by
 obtain⟨c0,c1,c2,c3,c4,c5,c6,c7,jL⟩:=h;have HC:=η (aKU x.ss x.As x.cs w hk.s (by omega));generalize lJ x.ss=bv at*;go_enter func235,ntmps235
 go_wp2_with fail
 refine HC.o.mono ?_;rintro e w1 ⟨rfl,hb1⟩;have aR:=η hb1;go_wp2_with fail
 go_ret;exact⟨rfl,aR.o⟩
theorem aDc(x:ak)(bx:Nat)(w:aJ)(h:pd w bx x)(hk:lj w x)(hl:aA x.cy<=100000):
 aQ aM 237 #[π bx] w λe w'=>e=aT (bK (!lW x.cy))/\β w w':=by
 obtain⟨c0,c1,c2,c3,c4,c5,c6,c7,jL⟩:=h;have HC:=η (aEf x w hk hl);generalize lW x.cy=bv at*;go_enter func237,ntmps237
 go_wp2_with fail
 refine HC.o.mono ?_;rintro e w1 ⟨rfl,hb1⟩;have aR:=η hb1;go_wp2_with fail
 go_ret;exact⟨rfl,aR.o⟩
theorem aDd(x:ak)(bx:Nat)(w:aJ)(h:pd w bx x):
 aQ aM 239 #[π bx] w λe w'=>e=aT (bK (!bg x.line 0 1099511627776))/\β w w':=by
 obtain⟨c0,c1,c2,c3,c4,c5,c6,c7,jL⟩:=h;have HC:=η (z8 x.line 0 1099511627776 w);generalize bg x.line 0 1099511627776=bv at*;go_enter func239,ntmps239
 go_wp2_with fail
 refine HC.o.mono ?_;rintro e w1 ⟨rfl,rfl⟩;go_wp2_with fail
 go_ret;exact⟨rfl,aX _ _⟩
theorem aDe(x:ak)(bx:Nat)(w:aJ)(h:pd w bx x):
 aQ aM 241 #[π bx] w λe w'=>e=aT (bK (!bg x.bW 0 1099511627776))/\β w w':=by
 obtain⟨c0,c1,c2,c3,c4,c5,c6,c7,jL⟩:=h;have HC:=η (z8 x.bW 0 1099511627776 w);generalize bg x.bW 0 1099511627776=bv at*;go_enter func241,ntmps241
 go_wp2_with fail
 refine HC.o.mono ?_;rintro e w1 ⟨rfl,rfl⟩;go_wp2_with fail
 go_ret;exact⟨rfl,aX _ _⟩
theorem aDf(x:ak)(bx:Nat)(w:aJ)(h:pd w bx x):
 aQ aM 242 #[π bx] w λe w'=>e=aT (bK (!bg x.lead 0 1000))/\β w w':=by
 obtain⟨c0,c1,c2,c3,c4,c5,c6,c7,jL⟩:=h;have HC:=η (Iw x.lead 0 1000 w);generalize bg x.lead 0 1000=bv at*;go_enter func242,ntmps242
 go_wp2_with fail
 refine HC.o.mono ?_;rintro e w1 ⟨rfl,rfl⟩;go_wp2_with fail
 go_ret;exact⟨rfl,aX _ _⟩
theorem aDg(x:ak)(bx:Nat)(w:aJ)(h:pd w bx x):
 aQ aM 244 #[π bx] w λe w'=>e=aT (bK (!bg x.tr 1 64))/\β w w':=by
 obtain⟨c0,c1,c2,c3,c4,c5,c6,c7,jL⟩:=h;have HC:=η (Iw x.tr 1 64 w);generalize bg x.tr 1 64=bv at*;go_enter func244,ntmps244
 go_wp2_with fail
 refine HC.o.mono ?_;rintro e w1 ⟨rfl,rfl⟩;go_wp2_with fail
 go_ret;exact⟨rfl,aX _ _⟩
theorem aDh(x:ak)(bx:Nat)(w:aJ)(h:pd w bx x):
 aQ aM 245 #[π bx] w λe w'=>e=aT (bK (!bg x.bT 1 32))/\β w w':=by
 obtain⟨c0,c1,c2,c3,c4,c5,c6,c7,jL⟩:=h;have HC:=η (Iw x.bT 1 32 w);generalize bg x.bT 1 32=bv at*;go_enter func245,ntmps245
 go_wp2_with fail
 refine HC.o.mono ?_;rintro e w1 ⟨rfl,rfl⟩;go_wp2_with fail
 go_ret;exact⟨rfl,aX _ _⟩
def KA(b:Nat):Array aN:= #[.string ⟨#[109,101,109,98,101,114,115]⟩,.func (.func 233) #[] #[bD (aC ⟨b,0,aB⟩)],.string ⟨#[115,101,99,115]⟩,.func (.func 235) #[] #[bD (aC ⟨b,0,aB⟩)],.string ⟨#[99,121,99,108,101,115]⟩,.func (.func 237) #[] #[bD (aC ⟨b,0,aB⟩)],.string ⟨#[108,105,110,101]⟩,.func (.func 239) #[] #[bD (aC ⟨b,0,aB⟩)],.string ⟨#[99,97,112,105,116,97,108]⟩,.func (.func 241) #[] #[bD (aC ⟨b,0,aB⟩)],.string ⟨#[108,101,97,100]⟩,.func (.func 242) #[] #[bD (aC ⟨b,0,aB⟩)],.string ⟨#[116,114,97,100,101,115]⟩,.func (.func 244) #[] #[bD (aC ⟨b,0,aB⟩)],.string ⟨#[98,105,100,115]⟩,.func (.func 245) #[] #[bD (aC ⟨b,0,aB⟩)]]
theorem aDi(x:ak)(w:aJ):aQ aM 202 #[x.val] w λe w'=>e=aT (aH (aC ⟨w.heap.size+1,0,aB⟩) 8 8)/\(w.alloc (aK #[aH x.Am (aA x.ms) x.cm,aH x.As (aA x.ss) x.cs,aH x.Ac (aA x.cy) x.cc,aG aF x.line,aG aF x.bW,aG aF x.lead,aG aF x.tr,aG aF x.bT] 26)).alloc (aK (KA w.heap.size) 279)=w':=by
 unfold ak.val KA;go_enter func202,ntmps202
 go_wp2
 go_ret;exact⟨rfl,rfl⟩
def iU(x:ak):ByteArray:=if kZ x.ms=aP then⟨#[109,101,109,98,101,114,115]⟩ else if lJ x.ss=aP then⟨#[115,101,99,115]⟩ else if lW x.cy=aP then⟨#[99,121,99,108,101,115]⟩ else if bg x.line 0 1099511627776=aP then⟨#[108,105,110,101]⟩ else if bg x.bW 0 1099511627776=aP then⟨#[99,97,112,105,116,97,108]⟩ else if bg x.lead 0 1000=aP then⟨#[108,101,97,100]⟩ else if bg x.tr 1 64=aP then⟨#[116,114,97,100,101,115]⟩ else if bg x.bT 1 32=aP then⟨#[98,105,100,115]⟩ else⟨#[]⟩
def okB(x:ak):Bool:=kZ x.ms&&lJ x.ss&&lW x.cy&&bg x.line 0 1099511627776&&bg x.bW 0 1099511627776&&bg x.lead 0 1000&&bg x.tr 1 64&&bg x.bT 1 32
def PU(w:aJ)(g b:Nat):Prop:=∀j u,(KA b)[j]? =aC u->w.cell? ⟨g,j,aB⟩=aC u
theorem PU.below {w w':aJ} {g b:Nat}(h:PU w g b)(hg:g<w.heap.size)(hb:aa w.heap.size w w'):PU w' g b:=λj u hu=>(hb.cell (p:=⟨g,j,aB⟩) hg).trans (h j u hu)
structure OG(w:aJ)(g b:Nat)(x:ak):Prop where
 tab:PU w g b
 lt:g<w.heap.size
 cf:pd w b x
 ok:lj w x
theorem OG.below {w w':aJ} {g b:Nat} {x:ak}(h:OG w g b x)(hb:aa w.heap.size w w'):OG w' g b x:=⟨h.tab.below h.lt hb,cL h.lt hb.size,h.cf.below hb,h.ok.below hb⟩
theorem aES(w:aJ)(x:ak)(h:lj w x):OG ((w.alloc (aK #[aH x.Am (aA x.ms) x.cm,aH x.As (aA x.ss) x.cs,aH x.Ac (aA x.cy) x.cc,aG aF x.line,aG aF x.bW,aG aF x.lead,aG aF x.tr,aG aF x.bT] 26)).alloc (aK (KA w.heap.size) 279)) (w.heap.size+1) w.heap.size x:=by have hb:aa (w.alloc (aK #[aH x.Am (aA x.ms) x.cm,aH x.As (aA x.ss) x.cs,aH x.Ac (aA x.cy) x.cc,ν x.line,ν x.bW,ν x.lead,ν x.tr,ν x.bT] 26)).heap.size (w.alloc (aK #[aH x.Am (aA x.ms) x.cm,aH x.As (aA x.ss) x.cs,aH x.Ac (aA x.cy) x.cc,ν x.line,ν x.bW,ν x.lead,ν x.tr,ν x.bT] 26)) ((w.alloc (aK #[aH x.Am (aA x.ms) x.cm,aH x.As (aA x.ss) x.cs,aH x.Ac (aA x.cy) x.cc,ν x.line,ν x.bW,ν x.lead,ν x.tr,ν x.bT] 26)).alloc (aK (KA w.heap.size) 279)):=(aX _ _).alloc (aZ _) _;refine⟨λj u hu=> ?_,by simp,(zl w x).below hb,(h.below (mY w x)).below hb⟩;rw [cM _ _ _ _ (by simp)];exact hu
theorem aET(x:ak)(w:aJ)(h:lj w x)(hm:aA x.ms<=100000)(hs:aA x.ss<=100000)(hc:aA x.cy<=100000):
 aQ aM 145 #[x.val] w λe w'=>e=aT (.string (iU x))/\β w w':=by
 have HC:=η (aDi x (w.alloc (aK #[aH x.Am (aA x.ms) x.cm,aH x.As (aA x.ss) x.cs,aH x.Ac (aA x.cy) x.cc,ν x.line,ν x.bW,ν x.lead,ν x.tr,ν x.bT] 26)));have HN:=η (aES (w.alloc (aK #[aH x.Am (aA x.ms) x.cm,aH x.As (aA x.ss) x.cs,aH x.Ac (aA x.cy) x.cc,ν x.line,ν x.bW,ν x.lead,ν x.tr,ν x.bT] 26)) x (h.below (mY w x)));have aY:=η (mY w x);have aR:Hid (β w (((w.alloc (aK #[aH x.Am (aA x.ms) x.cm,aH x.As (aA x.ss) x.cs,aH x.Ac (aA x.cy) x.cc,ν x.line,ν x.bW,ν x.lead,ν x.tr,ν x.bT] 26)).alloc (aK #[aH x.Am (aA x.ms) x.cm,aH x.As (aA x.ss) x.cs,aH x.Ac (aA x.cy) x.cc,ν x.line,ν x.bW,ν x.lead,ν x.tr,ν x.bT] 26)).alloc (aK (KA (w.alloc (aK #[aH x.Am (aA x.ms) x.cm,aH x.As (aA x.ss) x.cs,aH x.Ac (aA x.cy) x.cc,ν x.line,ν x.bW,ν x.lead,ν x.tr,ν x.bT] 26)).heap.size) 279))):=(((mY w x).alloc (by simp) _).alloc (by simp;omega) _);have lV:=η (show iU x=if kZ x.ms=aP then⟨#[109,101,109,98,101,114,115]⟩ else if lJ x.ss=aP then⟨#[115,101,99,115]⟩ else if lW x.cy=aP then⟨#[99,121,99,108,101,115]⟩ else if bg x.line 0 1099511627776=aP then⟨#[108,105,110,101]⟩ else if bg x.bW 0 1099511627776=aP then⟨#[99,97,112,105,116,97,108]⟩ else if bg x.lead 0 1000=aP then⟨#[108,101,97,100]⟩ else if bg x.tr 1 64=aP then⟨#[116,114,97,100,101,115]⟩ else if bg x.bT 1 32=aP then⟨#[98,105,100,115]⟩ else⟨#[]⟩ from rfl);generalize iU x=ws at*;unfold ak.val at*;go_enter func145,ntmps145
 go_wp2_with fail
 refine HC.o.mono ?_;rintro e w2 ⟨rfl,hw2⟩;rw [hw2] at HN aR;generalize (w.alloc (aK #[aH x.Am (aA x.ms) x.cm,aH x.As (aA x.ss) x.cs,aH x.Ac (aA x.cy) x.cc,ν x.line,ν x.bW,ν x.lead,ν x.tr,ν x.bT] 26)).heap.size=b at*;go_wp2_with fail
 refine ux 9 ?_;rw [eI];have t0:w2.cell? ⟨b+1,0,aB⟩=aC (.string ⟨#[109,101,109,98,101,114,115]⟩):=HN.o.tab 0 _ rfl;have t1:w2.cell? ⟨b+1,1,aB⟩=aC (.func (.func 233) #[] #[π b]):=HN.o.tab 1 _ rfl;have hlt:=HN.o.lt;have bX:=η (HN.o.below ((aX _ _).alloc (aZ _) (aK #[.string ⟨#[109,101,109,98,101,114,115]⟩,.func (.func 233) #[] #[π b]] 279)));have hsz:=aR.o.size;go_wp2_with fail
 refine(aDa x b _ bX.o.cf bX.o.ok hm).mono ?_;rintro e w3 ⟨rfl,hb⟩;have fF:Hid (β w w3):=(aR.o.alloc hsz _).trans (hb.mono (by simp;omega));have jl:=η (bX.o.below hb);have q0:w3.cell? ⟨w2.heap.size,0,aB⟩=aC (.string ⟨#[109,101,109,98,101,114,115]⟩):=(hb.cell (p:=⟨w2.heap.size,0,aB⟩) (by simp)).trans (cM _ _ _ 0 rfl);cases gR:kZ x.ms
 ·have HF:Hid (⟨#[109,101,109,98,101,114,115]⟩=ws):=by show _=_;rw [lV.o];simp [gR]
  go_wp2_with fail
  go_ret;exact⟨congrArg (λz=>aT (.string z)) HF.o,fF.o⟩
 have HN:=jl;have aR:=fF;go_wp2_with fail
 rw [eI];have t0:w3.cell? ⟨b+1,2,aB⟩=aC (.string ⟨#[115,101,99,115]⟩):=HN.o.tab 2 _ rfl;have t1:w3.cell? ⟨b+1,3,aB⟩=aC (.func (.func 235) #[] #[π b]):=HN.o.tab 3 _ rfl;have hlt:=HN.o.lt;have bX:=η (HN.o.below ((aX _ _).alloc (aZ _) (aK #[.string ⟨#[115,101,99,115]⟩,.func (.func 235) #[] #[π b]] 279)));have hsz:=aR.o.size;go_wp2_with fail
 refine(aDb x b _ bX.o.cf bX.o.ok hs).mono ?_;rintro e w4 ⟨rfl,hb⟩;have fF:Hid (β w w4):=(aR.o.alloc hsz _).trans (hb.mono (by simp;omega));have jl:=η (bX.o.below hb);have q0:w4.cell? ⟨w3.heap.size,0,aB⟩=aC (.string ⟨#[115,101,99,115]⟩):=(hb.cell (p:=⟨w3.heap.size,0,aB⟩) (by simp)).trans (cM _ _ _ 0 rfl);cases lX:lJ x.ss
 ·have HF:Hid (⟨#[115,101,99,115]⟩=ws):=by show _=_;rw [lV.o];simp [gR,lX]
  go_wp2_with fail
  go_ret;exact⟨congrArg (λz=>aT (.string z)) HF.o,fF.o⟩
 have HN:=jl;have aR:=fF;go_wp2_with fail
 rw [eI];have t0:w4.cell? ⟨b+1,4,aB⟩=aC (.string ⟨#[99,121,99,108,101,115]⟩):=HN.o.tab 4 _ rfl;have t1:w4.cell? ⟨b+1,5,aB⟩=aC (.func (.func 237) #[] #[π b]):=HN.o.tab 5 _ rfl;have hlt:=HN.o.lt;have bX:=η (HN.o.below ((aX _ _).alloc (aZ _) (aK #[.string ⟨#[99,121,99,108,101,115]⟩,.func (.func 237) #[] #[π b]] 279)));have hsz:=aR.o.size;go_wp2_with fail
 refine(aDc x b _ bX.o.cf bX.o.ok hc).mono ?_;rintro e w5 ⟨rfl,hb⟩;have fF:Hid (β w w5):=(aR.o.alloc hsz _).trans (hb.mono (by simp;omega));have jl:=η (bX.o.below hb);have q0:w5.cell? ⟨w4.heap.size,0,aB⟩=aC (.string ⟨#[99,121,99,108,101,115]⟩):=(hb.cell (p:=⟨w4.heap.size,0,aB⟩) (by simp)).trans (cM _ _ _ 0 rfl);cases jb:lW x.cy
 ·have HF:Hid (⟨#[99,121,99,108,101,115]⟩=ws):=by show _=_;rw [lV.o];simp [gR,lX,jb]
  go_wp2_with fail
  go_ret;exact⟨congrArg (λz=>aT (.string z)) HF.o,fF.o⟩
 have HN:=jl;have aR:=fF;go_wp2_with fail
 rw [eI];have t0:w5.cell? ⟨b+1,6,aB⟩=aC (.string ⟨#[108,105,110,101]⟩):=HN.o.tab 6 _ rfl;have t1:w5.cell? ⟨b+1,7,aB⟩=aC (.func (.func 239) #[] #[π b]):=HN.o.tab 7 _ rfl;have hlt:=HN.o.lt;have bX:=η (HN.o.below ((aX _ _).alloc (aZ _) (aK #[.string ⟨#[108,105,110,101]⟩,.func (.func 239) #[] #[π b]] 279)));have hsz:=aR.o.size;go_wp2_with fail
 refine(aDd x b _ bX.o.cf).mono ?_;rintro e w6 ⟨rfl,hb⟩;have fF:Hid (β w w6):=(aR.o.alloc hsz _).trans (hb.mono (by simp;omega));have jl:=η (bX.o.below hb);have q0:w6.cell? ⟨w5.heap.size,0,aB⟩=aC (.string ⟨#[108,105,110,101]⟩):=(hb.cell (p:=⟨w5.heap.size,0,aB⟩) (by simp)).trans (cM _ _ _ 0 rfl);cases uh:bg x.line 0 1099511627776
 ·have HF:Hid (⟨#[108,105,110,101]⟩=ws):=by show _=_;rw [lV.o];simp [gR,lX,jb,uh]
  go_wp2_with fail
  go_ret;exact⟨congrArg (λz=>aT (.string z)) HF.o,fF.o⟩
 have HN:=jl;have aR:=fF;go_wp2_with fail
 rw [eI];have t0:w6.cell? ⟨b+1,8,aB⟩=aC (.string ⟨#[99,97,112,105,116,97,108]⟩):=HN.o.tab 8 _ rfl;have t1:w6.cell? ⟨b+1,9,aB⟩=aC (.func (.func 241) #[] #[π b]):=HN.o.tab 9 _ rfl;have hlt:=HN.o.lt;have bX:=η (HN.o.below ((aX _ _).alloc (aZ _) (aK #[.string ⟨#[99,97,112,105,116,97,108]⟩,.func (.func 241) #[] #[π b]] 279)));have hsz:=aR.o.size;go_wp2_with fail
 refine(aDe x b _ bX.o.cf).mono ?_;rintro e w7 ⟨rfl,hb⟩;have fF:Hid (β w w7):=(aR.o.alloc hsz _).trans (hb.mono (by simp;omega));have jl:=η (bX.o.below hb);have q0:w7.cell? ⟨w6.heap.size,0,aB⟩=aC (.string ⟨#[99,97,112,105,116,97,108]⟩):=(hb.cell (p:=⟨w6.heap.size,0,aB⟩) (by simp)).trans (cM _ _ _ 0 rfl);cases xZ:bg x.bW 0 1099511627776
 ·have HF:Hid (⟨#[99,97,112,105,116,97,108]⟩=ws):=by show _=_;rw [lV.o];simp [gR,lX,jb,uh,xZ]
  go_wp2_with fail
  go_ret;exact⟨congrArg (λz=>aT (.string z)) HF.o,fF.o⟩
 have HN:=jl;have aR:=fF;go_wp2_with fail
 rw [eI];have t0:w7.cell? ⟨b+1,10,aB⟩=aC (.string ⟨#[108,101,97,100]⟩):=HN.o.tab 10 _ rfl;have t1:w7.cell? ⟨b+1,11,aB⟩=aC (.func (.func 242) #[] #[π b]):=HN.o.tab 11 _ rfl;have hlt:=HN.o.lt;have bX:=η (HN.o.below ((aX _ _).alloc (aZ _) (aK #[.string ⟨#[108,101,97,100]⟩,.func (.func 242) #[] #[π b]] 279)));have hsz:=aR.o.size;go_wp2_with fail
 refine(aDf x b _ bX.o.cf).mono ?_;rintro e w8 ⟨rfl,hb⟩;have fF:Hid (β w w8):=(aR.o.alloc hsz _).trans (hb.mono (by simp;omega));have jl:=η (bX.o.below hb);have q0:w8.cell? ⟨w7.heap.size,0,aB⟩=aC (.string ⟨#[108,101,97,100]⟩):=(hb.cell (p:=⟨w7.heap.size,0,aB⟩) (by simp)).trans (cM _ _ _ 0 rfl);cases Qw:bg x.lead 0 1000
 ·have HF:Hid (⟨#[108,101,97,100]⟩=ws):=by show _=_;rw [lV.o];simp [gR,lX,jb,uh,xZ,Qw]
  go_wp2_with fail
  go_ret;exact⟨congrArg (λz=>aT (.string z)) HF.o,fF.o⟩
 have HN:=jl;have aR:=fF;go_wp2_with fail
 rw [eI];have t0:w8.cell? ⟨b+1,12,aB⟩=aC (.string ⟨#[116,114,97,100,101,115]⟩):=HN.o.tab 12 _ rfl;have t1:w8.cell? ⟨b+1,13,aB⟩=aC (.func (.func 244) #[] #[π b]):=HN.o.tab 13 _ rfl;have hlt:=HN.o.lt;have bX:=η (HN.o.below ((aX _ _).alloc (aZ _) (aK #[.string ⟨#[116,114,97,100,101,115]⟩,.func (.func 244) #[] #[π b]] 279)));have hsz:=aR.o.size;go_wp2_with fail
 refine(aDg x b _ bX.o.cf).mono ?_;rintro e w9 ⟨rfl,hb⟩;have fF:Hid (β w w9):=(aR.o.alloc hsz _).trans (hb.mono (by simp;omega));have jl:=η (bX.o.below hb);have q0:w9.cell? ⟨w8.heap.size,0,aB⟩=aC (.string ⟨#[116,114,97,100,101,115]⟩):=(hb.cell (p:=⟨w8.heap.size,0,aB⟩) (by simp)).trans (cM _ _ _ 0 rfl);cases X0:bg x.tr 1 64
 ·have HF:Hid (⟨#[116,114,97,100,101,115]⟩=ws):=by show _=_;rw [lV.o];simp [gR,lX,jb,uh,xZ,Qw,X0]
  go_wp2_with fail
  go_ret;exact⟨congrArg (λz=>aT (.string z)) HF.o,fF.o⟩
 have HN:=jl;have aR:=fF;go_wp2_with fail
 rw [eI];have t0:w9.cell? ⟨b+1,14,aB⟩=aC (.string ⟨#[98,105,100,115]⟩):=HN.o.tab 14 _ rfl;have t1:w9.cell? ⟨b+1,15,aB⟩=aC (.func (.func 245) #[] #[π b]):=HN.o.tab 15 _ rfl;have hlt:=HN.o.lt;have bX:=η (HN.o.below ((aX _ _).alloc (aZ _) (aK #[.string ⟨#[98,105,100,115]⟩,.func (.func 245) #[] #[π b]] 279)));have hsz:=aR.o.size;go_wp2_with fail
 refine(aDh x b _ bX.o.cf).mono ?_;rintro e uB ⟨rfl,hb⟩;have fF:Hid (β w uB):=(aR.o.alloc hsz _).trans (hb.mono (by simp;omega));have jl:=η (bX.o.below hb);have q0:uB.cell? ⟨w9.heap.size,0,aB⟩=aC (.string ⟨#[98,105,100,115]⟩):=(hb.cell (p:=⟨w9.heap.size,0,aB⟩) (by simp)).trans (cM _ _ _ 0 rfl);cases hp7:bg x.bT 1 32
 ·have HF:Hid (⟨#[98,105,100,115]⟩=ws):=by show _=_;rw [lV.o];simp [gR,lX,jb,uh,xZ,Qw,X0,hp7]
  go_wp2_with fail
  go_ret;exact⟨congrArg (λz=>aT (.string z)) HF.o,fF.o⟩
 have HN:=jl;have aR:=fF;go_wp2_with fail
 rw [eI];have HF:Hid (⟨#[]⟩=ws):=by show _=_;rw [lV.o];simp [gR,lX,jb,uh,xZ,Qw,X0,hp7]
 go_wp2_with fail
 go_ret;exact⟨congrArg (λz=>aT (.string z)) HF.o,aR.o⟩
theorem a8f {x:ak}(h:okB x=aO):iU x=⟨#[]⟩:=by unfold okB at h;simp only [ji] at h;obtain⟨⟨⟨⟨⟨⟨⟨h0,h1⟩,h2⟩,h3⟩,h4⟩,h5⟩,h6⟩,h7⟩:=h;unfold iU;simp [h0,h1,h2,h3,h4,h5,h6,h7]
theorem a8e {x:ak}(h:okB x=aP):iU x=⟨#[109,101,109,98,101,114,115]⟩\/iU x=⟨#[115,101,99,115]⟩\/iU x=⟨#[99,121,99,108,101,115]⟩\/iU x=⟨#[108,105,110,101]⟩\/iU x=⟨#[99,97,112,105,116,97,108]⟩\/iU x=⟨#[108,101,97,100]⟩\/iU x=⟨#[116,114,97,100,101,115]⟩\/iU x=⟨#[98,105,100,115]⟩:=by
 unfold okB at h;unfold iU;cases h0:kZ x.ms
 ·simp
 cases h1:lJ x.ss
 ·simp
 cases h2:lW x.cy
 ·simp
 cases h3:bg x.line 0 1099511627776
 ·simp
 cases h4:bg x.bW 0 1099511627776
 ·simp
 cases h5:bg x.lead 0 1000
 ·simp
 cases h6:bg x.tr 1 64
 ·simp
 cases h7:bg x.bT 1 32
 ·simp
 simp [h0,h1,h2,h3,h4,h5,h6,h7] at h
def zm(x:ak):Int:=if okB x=aO then 0 else 1
theorem aER(x:ak)(w:aJ)(h:lj w x)(hm:aA x.ms<=100000)(hs:aA x.ss<=100000)(hc:aA x.cy<=100000):
 aQ aM 78 #[x.val] w λe w'=>e=aT (ν (zm x))/\β w w':=by
 have aY:=η (mY w x);have HW:=η (aET x (w.alloc (aK #[aH x.Am (aA x.ms) x.cm,aH x.As (aA x.ss) x.cs,aH x.Ac (aA x.cy) x.cc,ν x.line,ν x.bW,ν x.lead,ν x.tr,ν x.bT] 26)) (h.below (mY w x)) hm hs hc);have HG:=η (@a8f x);have HX:=η (@a8e x);have HC:Hid (zm x=if okB x=aO then 0 else 1):=rfl;generalize iU x=ws at*;generalize zm x=ci at*;generalize okB x=ok at*;unfold ak.val at*;go_enter func78,ntmps78
 go_wp2_with fail
 refine HW.o.mono ?_;rintro e w2 ⟨rfl,hb⟩;have HB:Hid (β w w2):=aY.o.trans (hb.mono (by simp));cases ok
 ·have HF:Hid (ci=1):=by show _=_;rw [HC.o];rfl
  rcases HX.o rfl with rfl|rfl|rfl|rfl|rfl|rfl|rfl|rfl
  all_goals
   go_wp2_with fail
   go_ret;exact⟨congrArg (λz=>aT (ν z)) HF.o.symm,HB.o⟩
 have HF:Hid (ci=0):=by show _=_;rw [HC.o];rfl
 obtain rfl:=HG.o rfl;go_wp2_with fail
 go_ret;exact⟨congrArg (λz=>aT (ν z)) HF.o.symm,HB.o⟩
structure wQ(w:aJ)(base:Nat)(x:ak):Prop where
 m:w.ownsRow base 67 2 (aH x.Am (aA x.ms) x.cm) (aA x.ms) (je x.ms)
 s:w.ownsRow base 69 2 (aH x.As (aA x.ss) x.cs) (aA x.ss) (je x.ss)
 c:w.ownsRow base 71 4 (aH x.Ac (aA x.cy) x.cc) (aA x.cy) (uZ x.cy)
theorem wQ.below {w w':aJ} {b:Nat} {x:ak}(h:wQ w b x)(hb:aa w.heap.size w w'):wQ w' b x:=⟨iJ h.m hb,iJ h.s hb,iJ h.c hb⟩
theorem a6h(L:List Pr):aA (je L)=aA L*2:=by
 induction L with
 |nil=>rfl
 |cons x l ih=>simp only [je,xB,cN,uS] at*;rw [ih];simp [Pr.cells];omega
theorem aEd(L:List Cy):aA (uZ L)=aA L*4:=by
 induction L with
 |nil=>rfl
 |cons x l ih=>simp only [uZ,xB,cN,uS] at*;rw [ih];simp [Cy.cells];omega
theorem a6i(L:List Pr):∀u∈je L,u.oneCell'=aO:=by intro u hu;obtain⟨x,_,hx⟩:=List.mem_flatMap.1 hu;simp [Pr.cells] at hx;rcases hx with rfl|rfl<;>rfl
theorem aEe(L:List Cy):∀u∈uZ L,u.oneCell'=aO:=by intro u hu;obtain⟨x,_,hx⟩:=List.mem_flatMap.1 hu;simp [Cy.cells] at hx;rcases hx with rfl|rfl|rfl|rfl<;>rfl
structure uz(w:aJ)(x:ak):Prop where
 ok:lj w x
 nm:x.Am=aB->aA x.ms=0
 ns:x.As=aB->aA x.ss=0
 nc:x.Ac=aB->aA x.cy=0
theorem uz.below {w w':aJ} {x:ak}(h:uz w x)(hb:aa w.heap.size w w'):uz w' x:=⟨h.ok.below hb,h.nm,h.ns,h.nc⟩
theorem wQ.src {w:aJ} {base:Nat} {x:ak}(h:wQ w base x):uz w x:=⟨⟨aW.cB h.m,aW.cB h.s,aW.cB h.c⟩,yu h.m,yu h.s,yu h.c⟩
theorem a2W(x:ak)(w:aJ)(h:uz w x)(hm:aA x.ms<=100000)(hs:aA x.ss<=100000)(hc:aA x.cy<=100000):
 aQ aM 32 #[x.val] w λe w'=>∃Am cm As cs Ac cc,e=aT ({x with Am:=Am,cm:=cm,As:=As,cs:=cs,Ac:=Ac,cc:=cc}:ak).val/\wQ w' w.heap.size {x with Am:=Am,cm:=cm,As:=As,cs:=cs,Ac:=Ac,cc:=cc}/\β w w':=by
 have H:=η h;clear h;have HM:=η (λW hW=>aEA (aA x.ms) (je x.ms) x.Am x.cm W (H.o.ok.below hW).m (a6h _) H.o.nm (a6i _) hm);have HS:=η (λW hW=>aEB (aA x.ss) (je x.ss) x.As x.cs W (H.o.ok.below hW).s (a6h _) H.o.ns (a6i _) hs);have HC:=η (λW hW=>aE6 (aA x.cy) (uZ x.cy) x.Ac x.cc W (H.o.ok.below hW).c (aEd _) H.o.nc (aEe _) hc);have aY:Hid (β w ((w.alloc (aK #[aH x.Am (aA x.ms) x.cm,aH x.As (aA x.ss) x.cs,aH x.Ac (aA x.cy) x.cc,ν x.line,ν x.bW,ν x.lead,ν x.tr,ν x.bT] 26)).alloc (aK #[aH aB 0 0,aH aB 0 0,aH aB 0 0,ν 0,ν 0,ν 0,ν 0,ν 0] 26))):=η (σ.alloc (by simp) _);have HX:Hid (((w.alloc (aK #[aH x.Am (aA x.ms) x.cm,aH x.As (aA x.ss) x.cs,aH x.Ac (aA x.cy) x.cc,ν x.line,ν x.bW,ν x.lead,ν x.tr,ν x.bT] 26)).alloc (aK #[aH aB 0 0,aH aB 0 0,aH aB 0 0,ν 0,ν 0,ν 0,ν 0,ν 0] 26)).heap[w.heap.size]? =aC (aK x.vals 26 (0,0))):=η ((fL _ _ (by simp)).trans (cQ w _));have HY:Hid (((w.alloc (aK #[aH x.Am (aA x.ms) x.cm,aH x.As (aA x.ss) x.cs,aH x.Ac (aA x.cy) x.cc,ν x.line,ν x.bW,ν x.lead,ν x.tr,ν x.bT] 26)).alloc (aK #[aH aB 0 0,aH aB 0 0,aH aB 0 0,ν 0,ν 0,ν 0,ν 0,ν 0] 26)).heap[w.heap.size+1]? =aC (aK #[aH aB 0 0,aH aB 0 0,aH aB 0 0,ν 0,ν 0,ν 0,ν 0,ν 0] 26 (0,0))):=η (by have h1:=cQ (w.alloc (aK #[aH x.Am (aA x.ms) x.cm,aH x.As (aA x.ss) x.cs,aH x.Ac (aA x.cy) x.cc,ν x.line,ν x.bW,ν x.lead,ν x.tr,ν x.bT] 26)) (aK #[aH aB 0 0,aH aB 0 0,aH aB 0 0,ν 0,ν 0,ν 0,ν 0,ν 0] 26);rw [DK] at h1;exact h1);have hz0:w.heap.size+1<((w.alloc (aK #[aH x.Am (aA x.ms) x.cm,aH x.As (aA x.ss) x.cs,aH x.Ac (aA x.cy) x.cc,ν x.line,ν x.bW,ν x.lead,ν x.tr,ν x.bT] 26)).alloc (aK #[aH aB 0 0,aH aB 0 0,aH aB 0 0,ν 0,ν 0,ν 0,ν 0,ν 0] 26)).heap.size:=by simp
 unfold ak.val;clear hm hs hc H;go_enter func32,ntmps32
 go_upto_region 1 with fail
 generalize ((w.alloc (aK #[aH x.Am (aA x.ms) x.cm,aH x.As (aA x.ss) x.cs,aH x.Ac (aA x.cy) x.cc,ν x.line,ν x.bW,ν x.lead,ν x.tr,ν x.bT] 26)).alloc (aK #[aH aB 0 0,aH aB 0 0,aH aB 0 0,ν 0,ν 0,ν 0,ν 0,ν 0] 26))=w1 at*;obtain⟨bx,bU⟩:∃bx,bx=w.heap.size:=⟨_,rfl⟩;have dJ:=η bU;rw [<-bU] at HX HY hz0 ⊢;clear bU;obtain⟨d0,d1,d2⟩:=O0 HX;have iB:bx<w1.drew.heap.size:=by have:w1.drew.heap.size=w1.heap.size:=rfl;omega
 have aR:Hid (β w w1.drew):=η aY.o.drew;have oC:Hid (w1.drew.heap[bx]? =aC (aK x.vals 26 (0,0))):=η HX.o;have Ee:Hid (w1.drew.heap[bx+1]? =aC (aK #[aH aB 0 0,aH aB 0 0,aH aB 0 0,ν 0,ν 0,ν 0,ν 0,ν 0] 26 (0,0))):=η HY.o;have NU:bx+1<w1.drew.heap.size:=hz0;clear HX HY aY hz0;refine Yr (S:=λW=>W.cell? ⟨bx,0,aB⟩=aC (aH x.Am (aA x.ms) x.cm)/\W.cell? ⟨bx,1,aB⟩=aC (aH x.As (aA x.ss) x.cs)/\W.cell? ⟨bx,2,aB⟩=aC (aH x.Ac (aA x.cy) x.cc)) [9,10,11,12,13,14] (by kernel_rfl) ⟨d0,d1,d2⟩ (λhHeld=> ?_);have bJ:Hid (∀W,aa w1.drew.heap.size w1.drew W->W.cell? ⟨bx,0,aB⟩=aC (aH x.Am (aA x.ms) x.cm)/\W.cell? ⟨bx,1,aB⟩=aC (aH x.As (aA x.ss) x.cs)/\W.cell? ⟨bx,2,aB⟩=aC (aH x.Ac (aA x.cy) x.cc)):=η λW hW=>⟨((fD hW).1 _ _ iB).trans d0,((fD hW).1 _ _ iB).trans d1,((fD hW).1 _ _ iB).trans d2⟩
 clear d0 d1 d2;generalize w1.drew=w2 at*;refine lh (i:=0) (v:=π bx) rfl (by kernel_rfl) (by kernel_rfl) (by kernel_rfl) (by kernel_rfl) (by kernel_rfl) (by kernel_rfl) (λ_ _ _ h=>h) (aS ⟨by rfl,λw' hSw=>by obtain⟨s0,s1,s2⟩:=hSw;go_simp⟩) hHeld ?_;refine lh (i:=1) (v:=aH x.Am (aA x.ms) x.cm) rfl (by kernel_rfl) (by kernel_rfl) (by kernel_rfl) (by kernel_rfl) (by kernel_rfl) (by kernel_rfl) (λ_ _ _ h=>h) (aS ⟨by rfl,λw' hSw=>by obtain⟨s0,s1,s2⟩:=hSw;go_simp⟩) hHeld ?_;refine lh (i:=3) (v:=bD (aC ⟨bx,1,aB⟩)) rfl (by kernel_rfl) (by kernel_rfl) (by kernel_rfl) (by kernel_rfl) (by kernel_rfl) (by kernel_rfl) (λ_ _ _ h=>h) (aS ⟨by rfl,λw' hSw=>by obtain⟨s0,s1,s2⟩:=hSw;go_simp⟩) hHeld ?_;refine lh (i:=4) (v:=aH x.As (aA x.ss) x.cs) rfl (by kernel_rfl) (by kernel_rfl) (by kernel_rfl) (by kernel_rfl) (by kernel_rfl) (by kernel_rfl) (λ_ _ _ h=>h) (aS ⟨by rfl,λw' hSw=>by obtain⟨s0,s1,s2⟩:=hSw;go_simp⟩) hHeld ?_;refine lh (i:=6) (v:=bD (aC ⟨bx,2,aB⟩)) rfl (by kernel_rfl) (by kernel_rfl) (by kernel_rfl) (by kernel_rfl) (by kernel_rfl) (by kernel_rfl) (λ_ _ _ h=>h) (aS ⟨by rfl,λw' hSw=>by obtain⟨s0,s1,s2⟩:=hSw;go_simp⟩) hHeld ?_;refine lh (i:=7) (v:=aH x.Ac (aA x.cy) x.cc) rfl (by kernel_rfl) (by kernel_rfl) (by kernel_rfl) (by kernel_rfl) (by kernel_rfl) (by kernel_rfl) (λ_ _ _ h=>h) (aS ⟨by rfl,λw' hSw=>by obtain⟨s0,s1,s2⟩:=hSw;go_simp⟩) hHeld ?_;clear hHeld;refine uC (rs:= [2]) (by kernel_rfl) (by simp) ?_;refine gq.cons rfl (λK hK=> ?_) gq.nil;go_simp
 go_at_call 81
 refine(HM.o _ aR.o).mono ?_;rintro e w3 ⟨vm,rfl,Qv,WB⟩;have aV:Hid (β w2 w3):=η WB;have uG:Hid (β w w3):=τ aR WB;have Li:=η (iD Qv aR.o.size);clear Qv WB;go_wp2_with fail
 refine hK.o _ _ (λ_=>bJ.o _ aV.o) (λ_=> ?_);clear hK K;refine G8 (i:=9) (v:=π bx) rfl (by kernel_rfl) (by kernel_rfl) (by kernel_rfl) (by kernel_rfl) (λ_ _ _ h=>h) (aS ⟨by rfl,λw' _=>by go_simp⟩) ?_;refine uC (rs:= [5]) (by kernel_rfl) (by simp) ?_;refine gq.cons rfl (λK hK=> ?_) gq.nil;go_simp
 go_at_call 82
 refine(HS.o _ uG.o).mono ?_;rintro e w4 ⟨vs,rfl,Wy,FE⟩;have af:Hid (β w2 w4):=τ aV FE;have JO:Hid (β w w4):=τ uG FE;have Zw:=η (iJ Li.o FE);have GQ:=η (iD Wy uG.o.size);clear Wy FE Li;go_wp2_with fail
 refine hK.o _ _ (λ_=>bJ.o _ af.o) (λ_=> ?_);clear hK K;refine uC (rs:= [8]) (by kernel_rfl) (by simp) ?_;refine gq.cons rfl (λK hK=> ?_) gq.nil;go_simp
 go_at_call 83
 refine(HC.o _ JO.o).mono ?_;rintro e w5 ⟨vc,rfl,Bj,gH⟩;have ar:Hid (β w2 w5):=τ af gH;have a9M:Hid (β w w5):=τ JO gH;have Ts:=η (iJ Zw.o gH);have Tu:=η (iJ GQ.o gH);have qd:=η (iD Bj JO.o.size);clear Bj gH Zw GQ;go_wp2_with fail
 refine hK.o _ _ (λ_=>bJ.o _ ar.o) (λ_=> ?_);clear hK K;refine uC (rs:= [10]) (by kernel_rfl) (by simp) ?_;refine gq.cons rfl (λK hK=> ?_) gq.nil;have Pu:=(ar.o.block bx iB).trans oC.o;have c0:=bH _ bx 0 _ _ (0,0) Pu;have f0:∀j,w5.frozen? ⟨bx,j,aB⟩=aP:=λj=>by simp [iO,Pu]
 have B0:=η Pu;obtain⟨Am,cm,hvm⟩:=bL Ts.o;obtain⟨As,cs,hvs⟩:=bL Tu.o;obtain⟨Ac,cc,hvc⟩:=bL qd.o;subst hvm hvs hvc;have a4I:bx+1<w5.heap.size:=cL NU ar.o.size;clear Pu;unfold ak.vals at c0;go_simp
 refine hK.o _ _ (λh=>absurd h (by decide)) (λ_=> ?_);clear hK K;refine G8 (i:=11) (v:=bD (aC ⟨bx,1,aB⟩)) rfl (by kernel_rfl) (by kernel_rfl) (by kernel_rfl) (by kernel_rfl) (λ_ _ _ h=>h) (aS ⟨by rfl,λw' _=>by go_simp⟩) ?_;refine uC (rs:= [12]) (by kernel_rfl) (by simp) ?_;refine gq.cons rfl (λK hK=> ?_) gq.nil;go_simp
 refine hK.o _ _ (λh=>absurd h (by decide)) (λ_=> ?_);clear hK K;refine G8 (i:=13) (v:=bD (aC ⟨bx,2,aB⟩)) rfl (by kernel_rfl) (by kernel_rfl) (by kernel_rfl) (by kernel_rfl) (λ_ _ _ h=>h) (aS ⟨by rfl,λw' _=>by go_simp⟩) ?_;refine uC (rs:= [14]) (by kernel_rfl) (by simp) ?_;refine gq.cons rfl (λK hK=> ?_) gq.nil;go_simp
 refine hK.o _ _ (λh=>absurd h (by decide)) (λ_=> ?_);clear hK K;refine Yp (by kernel_rfl) ?_ _;have q3:=bH _ bx 3 _ _ (0,0) B0.o;have q4:=bH _ bx 4 _ _ (0,0) B0.o;have q5:=bH _ bx 5 _ _ (0,0) B0.o;have q6:=bH _ bx 6 _ _ (0,0) B0.o;have q7:=bH _ bx 7 _ _ (0,0) B0.o;have hy:=(ar.o.block (bx+1) NU).trans Ee.o;have y0:=bH _ (bx+1) 0 _ _ (0,0) hy;have y1:=bH _ (bx+1) 1 _ _ (0,0) hy;have y2:=bH _ (bx+1) 2 _ _ (0,0) hy;have y3:=bH _ (bx+1) 3 _ _ (0,0) hy;have y4:=bH _ (bx+1) 4 _ _ (0,0) hy;have y5:=bH _ (bx+1) 5 _ _ (0,0) hy;have y6:=bH _ (bx+1) 6 _ _ (0,0) hy;have y7:=bH _ (bx+1) 7 _ _ (0,0) hy;have fy:∀j,w5.frozen? ⟨bx+1,j,aB⟩=aP:=λj=>by simp [iO,hy]
 unfold ak.vals at q3 q4 q5 q6 q7;clear hy;go_wp2_with fail
 refine bodyPost_ret (v:=({x with Am:=Am,cm:=cm,As:=As,cs:=cs,Ac:=Ac,cc:=cc}:ak).val) (by simp [results,results32,go_sem,y0,y1,y2,y3,y4,y5,y6,y7,ak.val]) rfl ?_;have dZ:w.heap.size<=bx:=by rw [dJ.o];exact aZ _
 have aMj:w.heap.size<=bx+1:=Nat.le_succ_of_le dZ;have b1:=B0.o;have b2:=(ar.o.block (bx+1) NU).trans Ee.o;have hne:∀ {e:bZ} {s n:Nat} {v:aN} {xs:List aN},w5.ownsRow w.heap.size e s v n xs->e≠26->∀k,v.ownBlock=aC k->¬(k=bx\/k=bx+1):=λho he k hk hh=>by
  rcases hh with rfl|rfl
  ·exact gS ho b1 (Ne.symm he) hk
  exact gS ho b2 (Ne.symm he) hk
 refine⟨Am,cm,As,cs,Ac,cc,rfl, ?_, ?_⟩
 ·refine⟨bA.own (S:=λk=>k=bx\/k=bx+1) ?_ Ts.o (hne Ts.o (by decide)),bA.own (S:=λk=>k=bx\/k=bx+1) ?_ Tu.o (hne Tu.o (by decide)),bA.own (S:=λk=>k=bx\/k=bx+1) ?_ qd.o (hne qd.o (by decide))⟩
  all_goals
   repeat (refine bA.setCell ?_ (by first|exact aS (aS rfl)|exact aS (aU rfl)) _)
   exact bA.refl _ _
 repeat (refine EF ?_ (by assumption) _)
 exact a9M.o
def Fm(x:ak)(i:Int):Prop:=1<=i/\i<=aA x.ms
instance(x:ak)(i:Int):Decidable (Fm x i):=inferInstanceAs (Decidable (_/\_))
def uk(x:ak)(i:Int):Pr:=if Fm x i then x.ms.getD (i-1).toNat ⟨0,0⟩ else⟨0,0⟩
def jd(x:ak)(i:Int):Int:=if Fm x i then 0 else 9
theorem a5k {x:ak} {i:Int}(h:¬Fm x i):uk x i=⟨0,0⟩/\jd x i=9:=by unfold uk jd;rw [ifN h,ifN h];exact⟨rfl,rfl⟩
theorem aI6 {x:ak} {k:Nat}(h:k<aA x.ms):uk x ((k:Int)+1)=x.ms[k]/\jd x ((k:Int)+1)=0:=by
 have h1:Fm x ((k:Int)+1):=by unfold Fm;omega
 unfold uk jd;rw [ifP h1,ifP h1,show ((k:Int)+1-1).toNat=k by omega];exact⟨by simp [List.getD,h],rfl⟩
theorem Q4(x:ak)(i:Int)(w:aJ)(h:lj w x)(hI:aL i):
 aQ aM 147 #[x.val,ν i] w λe w'=>e=aT (bC #[bP #[ν (uk x i).a,ν (uk x i).b],ν (jd x i)])/\β w w':=by
 have aY:=η (mY w x);have jQ:=(zl w x).c0;have HS:=η (h.m.below (mY w x));have Db:=hI.1;have hI2:=hI.2;by_cases h1:i<1
 ·have hP:=a5k (x:=x) (i:=i) (by unfold Fm;omega);rw [hP.1,hP.2];unfold ak.val at*;go_enter a0c,a0w
  go_wp2_with fail
  exact bodyPost_ret (v:=bC #[bP #[ν 0,ν 0],ν 9]) (by simp [results,a1L,go_sem]) rfl ⟨rfl,by repeat (first|exact aY.o|refine EF ?_ (by simp) _|refine rK ?_ (by simp) _)⟩
 by_cases h2:i<=aA x.ms
 ·obtain⟨k,hk⟩:∃k:Nat,k=(i-1).toNat:=⟨_,rfl⟩;have eK:k<aA x.ms:=by omega
  have hik:i=(k:Int)+1:=by omega
  have hP:=aI6 eK;rw [<-hik] at hP;rw [hP.1,hP.2];have em:i-1=(k:Int):=by omega
  have h3:¬i>(aA x.ms:Int):=by omega
  clear hP hk hik h2;unfold ak.val at*;obtain⟨b,o,hA,hb,d0,d1⟩:=Fs HS.o eK;rw [hA] at aY jQ d0 d1 ⊢;have oA:=η hb;generalize x.ms[k]=p at*;go_enter a0c,a0w
  go_wp2_with fail
  exact bodyPost_ret (v:=bC #[bP #[ν p.a,ν p.b],ν 0]) (by simp [results,a1L,go_sem]) rfl ⟨rfl,by repeat (first|exact aY.o|refine EF ?_ (by simp) _|refine rK ?_ (by simp) _)⟩
 have hP:=a5k (x:=x) (i:=i) (by unfold Fm;omega);rw [hP.1,hP.2];clear hP;unfold ak.val at*;go_enter a0c,a0w
 go_wp2_with fail
 exact bodyPost_ret (v:=bC #[bP #[ν 0,ν 0],ν 9]) (by simp [results,a1L,go_sem]) rfl ⟨rfl,by repeat (first|exact aY.o|refine EF ?_ (by simp) _|refine rK ?_ (by simp) _)⟩
def Fk(p q:Int×Int):Int:=if qx p.1 q.1≠0 then qx p.1 q.1 else qx p.2 q.2
def pT(p:Int×Int):Int:=p.1*18446744073709551616+p.2
theorem aHj {p q:Int×Int}(hp:aL p.2)(hq:aL q.2):Fk p q<0↔pT p<pT q:=by obtain⟨a,b⟩:=p;obtain⟨c,d⟩:=q;unfold aL at hp hq;simp only [Fk,qx,pT] at*;split<;>split at* <;>(try split at*)<;>(try split)<;>omega
def Cz(w:aJ)(B:Nat)(A:Option ai)(ks:List (Int×Int)):Prop:=
 ∀j (hj:j<aA ks),∃b o g c,A=aC ⟨b,o,aB⟩/\b<B/\w.cell? ⟨b,o+j,aB⟩=aC (aH (aC ⟨g,0,aB⟩) 2 c)/\g<B/\w.cell? ⟨g,0,aB⟩=aC (ν ks[j].1)/\w.cell? ⟨g,1,aB⟩=aC (ν ks[j].2)
theorem Cz.keep {w w':aJ} {B:Nat} {A:Option ai} {ks:List (Int×Int)}(h:Cz w B A ks)(hk:∀b o,b<B->w'.cell? ⟨b,o,aB⟩=w.cell? ⟨b,o,aB⟩):Cz w' B A ks:=λj hj=>by obtain⟨b,o,g,c,h1,h2,h3,h4,h5,h6⟩:=h j hj;exact⟨b,o,g,c,h1,h2,(hk _ _ h2).trans h3,h4,(hk _ _ h4).trans h5,(hk _ _ h4).trans h6⟩
theorem aEL(p q:Int×Int)(g1 c1 g2 c2:Nat)(w:aJ)(a0:w.cell? ⟨g1,0,aB⟩=aC (aG aF p.1))(a1:w.cell? ⟨g1,1,aB⟩=aC (aG aF p.2))(b0:w.cell? ⟨g2,0,aB⟩=aC (aG aF q.1))(b1:w.cell? ⟨g2,1,aB⟩=aC (aG aF q.2)):
 aQ aM 248 #[aH (aC ⟨g1,0,aB⟩) 2 c1,aH (aC ⟨g2,0,aB⟩) 2 c2] w λe w'=>e=aT (ν (Fk p q))/\w=w':=by
 have uH:=η (λW=>VK p.1 q.1 W);have kS:=η (λW=>VK p.2 q.2 W);unfold Fk;obtain⟨x,hx⟩:∃x,x=qx p.1 q.1:=⟨_,rfl⟩;obtain⟨y,hy⟩:∃y,y=qx p.2 q.2:=⟨_,rfl⟩;rw [<-hx] at uH ⊢;rw [<-hy] at kS ⊢;clear hx hy;by_cases h0:x≠0
 ·rw [ifP h0];have hx1:(x !=0)=aO:=by simpa using h0
  clear h0;go_enter a0m,a1G
  go_wp2_with fail
  refine ux 1 ?_;rw [eI];go_wp2_with (go_at_call 213;refine(uH.o _).mono ?_;rintro e w' ⟨rfl,rfl⟩)
  go_ret;exact⟨rfl,rfl⟩
 have hx0:x=0:=by omega
 subst hx0;rw [ifN (by simp)];clear h0;by_cases h1:y≠0
 ·have Kj:(y==0)=aP:=by simpa using h1
  have Io:(y !=0)=aO:=by simpa using h1
  clear h1;go_enter a0m,a1G
  go_wp2_with fail
  refine ux 2 ?_;rw [eI];go_wp2_with (go_at_call 213;refine(uH.o _).mono ?_;rintro e w' ⟨rfl,rfl⟩)
  rw [eI];go_wp2_with (go_at_call 213;refine(kS.o _).mono ?_;rintro e w' ⟨rfl,rfl⟩)
  go_ret;exact⟨rfl,rfl⟩
 have Kj:y=0:=by omega
 subst Kj;clear h1;go_enter a0m,a1G
 go_wp2_with fail
 refine ux 3 ?_;rw [eI];go_wp2_with (go_at_call 213;refine(uH.o _).mono ?_;rintro e w' ⟨rfl,rfl⟩)
 rw [eI];go_wp2_with (go_at_call 213;refine(kS.o _).mono ?_;rintro e w' ⟨rfl,rfl⟩)
 rw [eI];go_wp2_with fail
 go_ret;exact⟨rfl,rfl⟩
theorem aJx(p q:Int×Int)(g1 c1 g2 c2:Nat)(w:aJ)(a0:w.cell? ⟨g1,0,aB⟩=aC (aG aF p.1))(a1:w.cell? ⟨g1,1,aB⟩=aC (aG aF p.2))(b0:w.cell? ⟨g2,0,aB⟩=aC (aG aF q.1))(b1:w.cell? ⟨g2,1,aB⟩=aC (aG aF q.2)):
 aQ aM 209 #[aH (aC ⟨g1,0,aB⟩) 2 c1,aH (aC ⟨g2,0,aB⟩) 2 c2] w λe w'=>e=aT (ν (Fk p q))/\w=w':=by
 have HC:=η (aEL p q g1 c1 g2 c2 w a0 a1 b0 b1);go_enter func209,ntmps209
 go_wp2_with (go_at_call 248;refine HC.o.mono ?_;rintro e w' ⟨rfl,rfl⟩)
 go_ret;exact⟨rfl,rfl⟩
theorem aJ4(ks:List (Int×Int))(bc:Nat)(A:Option ai)(c:Nat)(x y:Nat)(hx:x<aA ks)(hy:y<aA ks)(w:aJ)(hc:w.cell? ⟨bc,0,aB⟩=aC (aH A (aA ks) c))(hk:Cz w w.heap.size A ks):
 aQ aM 208 #[ν (x:Int),ν (y:Int),π bc] w λe w'=>e=aT (ν (Fk ks[x] ks[y]))/\∃q,w'=w.drewN q:=by
 obtain⟨b,o,g1,c1,rfl,h2,h3,h4,h5,h6⟩:=hk x hx;obtain⟨b',o',g2,c2,e,i2,i3,i4,i5,i6⟩:=hk y hy;injection e with e;injection e with e1 e2;subst e1 e2;have HC:Hid (∀n,aQ aM 209 #[aH (aC ⟨g1,0,aB⟩) 2 c1,aH (aC ⟨g2,0,aB⟩) 2 c2] (w.drewN n) λe w'=>e=aT (ν (Fk ks[x] ks[y]))/\w'=w.drewN n):=η (λn=>(aJx ks[x] ks[y] g1 c1 g2 c2 (w.drewN n) h5 h6 i5 i6).mono λ_ _ ⟨a,b⟩=>⟨a,b.symm⟩);have j1:(0:Int)<=(x:Int):=by omega
 have j2:(x:Int)<(aA ks:Int):=by omega
 have j3:(0:Int)<=(y:Int):=by omega
 have j4:(y:Int)<(aA ks:Int):=by omega
 go_enter func208,ntmps208
 go_wp2
 go_quiet ((go_at_call 209;exact JJ (HC _)))
 go_wp2
 go_ret;exact⟨rfl,_,rfl⟩
section
open Go.Lib Go.Sort Go.Shelf Go.Proofs.YtdokipdchlcmeaaGreat.pJ Go.Proofs.YtdokipdchlcmeaaGreat.ShareLaw
def Nc(ks:List (Int×Int))(z:Int):Int:=pT (ks.getD z.toNat (0,0))
structure Js(ks:List (Int×Int))(is:List Nat):Prop where
 len:aA is=aA ks
 lt:∀i∈is,i<aA ks
 all:∀j,j<aA ks->j∈is
 wM:is.Pairwise (λa b:Nat=>pJ.L (Nc ks) (a:Int) (b:Int))
def TE(ks:List (Int×Int))(w:aJ)(e:dX)(w':aJ):Prop:=
 ∃bw is,e=aT (aH (aC ⟨bw,0,aB⟩) (aA ks) (aA ks))/\Js ks is/\w.heap.size<=bw/\(∀t (ht:t<aA is),w'.cell? ⟨bw,t,aB⟩=aC (ν (is[t]:Int)))/\bw<w'.heap.size/\β w w'
theorem aHP {ks:List (Int×Int)} {f g:Nat->Int}(hm:cz f g 0 (aA ks))(hf:∀p,p<aA ks->f p=p)(hs:cH (Nc ks) g 0 (aA ks)):∃is,Js ks is/\∀t (ht:t<aA is),g t=(is[t]:Int):=by
 have hex:∀t,t<aA ks->∃m:Nat,m<aA ks/\g t=(m:Int):=λt ht=>by obtain⟨j,_,hj,e⟩:=hm.to t (bM _) ht;exact⟨j,hj,by rw [e,hf j hj]⟩
 have hn:∀t,t<aA ks->((g t).toNat<aA ks/\((g t).toNat:Int)=g t):=λt ht=>by obtain⟨m,h1,h2⟩:=hex t ht;rw [h2];simpa using h1
 refine⟨(dQ (aA ks)).map λt=>(g t).toNat,⟨by simp,λi hi=> ?_,λj hj=> ?_, ?_⟩,λt ht=> ?_⟩
 ·obtain⟨t,ht,rfl⟩:=di.1 hi;exact(hn t (nV.1 ht)).1
 ·obtain⟨i,_,hi,e⟩:=hm.of j (bM _) hj;refine di.2 ⟨i,nV.2 hi, ?_⟩;rw [<-e,hf j hj];simp
 ·rw [BO];refine PD ?_ (List.pairwise_lt_range (n:=aA ks));intro a b ha hb hab;have h1:=hn a (nV.1 ha);have h2:=hn b (nV.1 hb);rw [h1.2,h2.2];exact hs a b (bM _) hab (nV.1 hb)
 simp only [iX,List.length_range] at ht;simp only [xC,List.getElem_range];exact(hn t ht).2.symm
theorem aKo(ks:List (Int×Int))(A:Option ai)(c bc bw:Nat)(w:aJ)(hn:aA ks<=1000000)(hI:∀p∈ks,aL p.2)(hc:w.cell? ⟨bc,0,aB⟩=aC (aH A (aA ks) c))(hk:Cz w bw A ks)(hw:eE w bw 3 (cZ (aA ks) λi=>(i:Int)))(h1:bc<bw)(h5:bw<w.heap.size):
 aQ aM 207 #[aH (aC ⟨bw,0,aB⟩) (aA ks) (aA ks),.func (.func 208) #[] #[π bc]] w λe w'=>e=aT (bC #[])/\∃is,Js ks is/\(∀t (ht:t<aA is),w'.cell? ⟨bw,t,aB⟩=aC (ν (is[t]:Int)))/\w.grownBy w' (aC bw):=by
 have hlen:(cZ (aA ks) λi=>(i:Int)).toArray.size=aA ks:=by simp [rI]
 have hH:Holds (aG aF) w bw 0 (cZ (aA ks) λi=>(i:Int)).toArray:=by
  intro j hj;rw [hlen] at hj;refine⟨?_,hw.free _⟩;have hl:0+j<aA (cZ (aA ks) λi=>(i:Int)):=by rw [rI];omega
  rw [hw.cell hl];have e:=I8 (aA ks) (λi=>(i:Int)) hj;unfold fn at e;rw [e,E8];simp
 have R:Row1 (aG aF) w bw 0 (cZ (aA ks) λi=>(i:Int)).toArray:=⟨a3I,hH,h5⟩;have T:tF w bw 0 (aA ks) 208 #[π bc] (λx y=>Fk (ks.getD x.toNat (0,0)) (ks.getD y.toNat (0,0))) (Nc ks) (λx=>∃m:Nat,x=m/\m<aA ks) (cZ (aA ks) λi=>(i:Int)).toArray:=by
  refine⟨R,hlen,by omega,enters_of func208 (by kernel_rfl) rfl, ?_, ?_⟩
  ·rintro m os dk hdk x y ⟨xn,rfl,hx⟩ ⟨yn,rfl,hy⟩;have hg:w.grownBy (sortWorld (aG aF) w bw 0 m dk os) (aC bw):=grownBy_sortedI dk;have kL:∀b o,b<bw->(sortWorld (aG aF) w bw 0 m dk os).cell? ⟨b,o,aB⟩=w.cell? ⟨b,o,aB⟩:=λb o hb=>hg.cell_far ⟨b,o,aB⟩ (M9 hb h5) (λe=>Nat.ne_of_lt hb (pH e))
   have KX:Cz (sortWorld (aG aF) w bw 0 m dk os) (sortWorld (aG aF) w bw 0 m dk os).heap.size A ks:=λj hj=>by obtain⟨b,o,g,c,q1,q2,q3,q4,q5,q6⟩:=hk.keep kL j hj;have hz:=cL h5 hg.size;exact⟨b,o,g,c,q1,M9 q2 hz,q3,M9 q4 hz,q5,q6⟩
   refine(aJ4 ks bc A c xn yn hx hy _ ((kL bc 0 h1).trans hc) KX).mono ?_;rintro e w' ⟨rfl,q,rfl⟩;refine⟨by simp [hx,hy],q, #[], ?_⟩;rw [grow_empty]
  rintro x y ⟨xn,rfl,hx⟩ ⟨yn,rfl,hy⟩;unfold Nc;simp only [Int.toNat_natCast];have e1:ks.getD xn (0,0)=ks[xn]:=by simp [List.getD,hx]
  have e2:ks.getD yn (0,0)=ks[yn]:=by simp [List.getD,hy]
  rw [e1,e2];exact aHj (hI _ (cK hx)) (hI _ (cK hy))
 have RW:Rw w bw 0 (aA ks) (λx=>∃m:Nat,x=m/\m<aA ks) (cZ (aA ks) λi=>(i:Int)).toArray w:=⟨hlen,SW.start hH,λp hp=>⟨p,I8 _ _ hp,hp⟩⟩;refine(a7c T (aA ks) _ w RW hn (λp hp=>I8 _ _ hp)).mono ?_;rintro e w' ⟨rfl,d',mv,hs,hR⟩;obtain⟨is,ho,his⟩:=aHP mv (λp hp=>I8 _ _ hp) hs;refine⟨rfl,is,ho, ?_, ?_⟩
 ·intro t ht;have:=hR.c T t (by rw [<-ho.len];exact ht);rw [Nat.zero_add] at this;rw [this,his t ht]
 obtain⟨m,os,e⟩:=hR.sw;rw [e];exact grownBy_sortedI d'
theorem a6N(ks:List (Int×Int))(A:Option ai)(c:Nat)(w:aJ)(hn:aA ks<=1000000)(hI:∀p∈ks,aL p.2)(hk:Cz w w.heap.size A ks):
 aQ aM 162 #[aH A (aA ks) c] w (TE ks w):=by
 have AL:=a5c (aA ks) hn (w.alloc (aK #[aH A (aA ks) c] 235));have aV:Hid (β w ((w.alloc (aK #[aH A (aA ks) c] 235)).alloc (aK (jh (aA ks) (aG aF 0)) 3))):=η (σ.alloc (by simp) _);have uQ:Hid (eE ((w.alloc (aK #[aH A (aA ks) c] 235)).alloc (aK (jh (aA ks) (aG aF 0)) 3)) (w.heap.size+1) 3 (cZ (aA ks) (λi=>if i<0 then (i:Int) else 0))):=η (by rw [a7E (g:=λi=>(i:Int))];have h1:=cQ (w.alloc (aK #[aH A (aA ks) c] 235)) (aK (jh (aA ks) (aG aF 0)) 3);rw [DK] at h1;unfold eE;rw [h1];simp);have jQ:Hid (((w.alloc (aK #[aH A (aA ks) c] 235)).alloc (aK (jh (aA ks) (aG aF 0)) 3)).heap[w.heap.size]? =aC (aK #[aH A (aA ks) c] 235 (0,0))):=η ((fL _ _ (by simp)).trans (cQ w _));have hz2:((w.alloc (aK #[aH A (aA ks) c] 235)).alloc (aK (jh (aA ks) (aG aF 0)) 3)).heap.size=w.heap.size+1+1:=by simp
 have yQ:=η hz2;have HK:=η hk;have HI:=η hI;rw [DK] at AL;clear hk hI hz2;go_enter func162,ntmps162
 go_wp2_with fail
 clear AL;generalize (w.alloc (aK #[aH A (aA ks) c] 235)).alloc (aK (jh (aA ks) (aG aF 0)) 3)=w2 at*;obtain⟨bc,gH⟩:∃bc,bc=w.heap.size:=⟨_,rfl⟩;have EJ:=η gH;rw [<-gH] at uQ jQ yQ ⊢;clear gH;have P3:Hid (bA (λk=>k=bc+1) w2 w2):=η (bA.refl _ _);go_loopw [4,10] (λ_ i wr=>∃k:Nat,k<=aA ks/\i=ν (k:Int)/\Hid (eE wr (bc+1) 3 (cZ (aA ks) (λi=>if i<k then (i:Int) else 0)))/\Hid (bA (λk=>k=bc+1) w2 wr)) (λ_ i _=>aA ks-(ag i).toNat)
 case atStart=>exact⟨0,bM _,rfl,uQ,P3⟩
 case round=>
  clear uQ P3;obtain⟨k,hk,rfl,HR,HU⟩:=hrel;by_cases hlt:k<aA ks
  ·have c0:=HR.o.cell (mk0 _ k (λi=>(i:Int)) hlt);have f0:=HR.o.free k;have iB:bc+1<wr.heap.size:=by have:=HU.o.size;have:=yQ.o;omega
   have ej:(0:Int)<=(k:Int):=by omega
   have hkb:(k:Int)<(aA ks:Int):=by omega
   have jm:Hid (eE (wr.setCell ⟨bc+1,k,aB⟩ (ν (k:Int))) (bc+1) 3 (cZ (aA ks) (λi=>if i<k+1 then (i:Int) else 0))):=η (by have h1:=HR.o.set k (k:Int);rw [SG (g:=λi=>(i:Int))] at h1;exact h1);have HU1:Hid (bA (λk=>k=bc+1) w2 (wr.setCell ⟨bc+1,k,aB⟩ (ν (k:Int)))):=η (HU.o.setCell (p:=⟨bc+1,k,aB⟩) (aS rfl) _);clear HR HU;go_wp2_with fail
   go_roundw
   case rel=>exact⟨k+1,by omega,by go_num,jm,HU1⟩
   case measure=>simp [ag];omega
  obtain rfl:k=aA ks:=by omega
  have iB:bc+1<wr.heap.size:=by have:=HU.o.size;have:=yQ.o;omega
  have Lp:=HR.o;rw [SF] at Lp;have HRB:=η Lp;have hcb:wr.heap[bc]? =aC (aK #[aH A (aA ks) c] 235 (0,0)):=(HU.o.keep bc (by have:=yQ.o;omega) (by omega)).trans jQ.o;have cC:Hid (β w wr):=η (aV.o.trans (HU.o.toBelow aV.o.size (λk hk=>by have:=EJ.o;omega)));have HS:=η (aKo ks A c bc (bc+1) wr hn HI.o (ρ hcb) (λj hj=>by obtain⟨b,o,g,c',q1,q2,q3,q4,q5,q6⟩:=HK.o j hj;have:=EJ.o;exact⟨b,o,g,c',q1,by omega,((fD (cC.o)).1 _ _ q2).trans q3,by omega,((fD cC.o).1 _ _ q4).trans q5,((fD cC.o).1 _ _ q4).trans q6⟩) HRB.o (by omega) iB);clear Lp HRB HR hcb HU;go_wp2_with (go_at_call 207;refine HS.o.mono ?_;rintro e w5 ⟨rfl,is,ho,hc5,fA⟩;have HO:=η ho;have B1:=η hc5;have B9:=η fA;clear ho hc5 fA)
  go_ret;refine⟨bc+1,is,rfl,HO.o,by have:=EJ.o;omega,B1.o,cL iB B9.o.size, ?_⟩;exact cC.o.grown B9.o cC.o.size (λk hk=>by injection hk with hk;have:=EJ.o;omega)
end
section
open Go.Maps Go.MapKept Go.ChangeMaps
section
variable {κ:Type} {P:Program} {k:bZ} {enc:κ->aN}
structure qm(P:Program)(k:bZ)(enc:κ->aN)(w:aJ)(b r:Nat)(m:List (κ×aN))(done:List κ):Prop where
 it:∃es clock since tz c0,w.heap[b]? =aC (.map es clock)/\es.toList.map (λe=>(e.key,e.val))=m.map (λp=>(enc p.1,p.2))/\Stamped es clock/\w.heap[r]? =aC (.mapIter (aC b) since tz c0)/\(∀x∈es.toList,x.born<since)/\since<=c0/\since<=clock/\
  (∀e∈es.toList,∀q,e.key=enc q->(tz.contains e.born=aO↔q∈done))/\tz.size=aA done
 apart:wO m
 once:done.Nodup
 sub:∀q∈done,∃v,(q,v)∈m
variable {w w':aJ} {b r:Nat} {m:List (κ×aN)} {done:List κ}
theorem qm.ne(h:qm P k enc w b r m done):r≠b:=by obtain⟨es,clock,since,tz,c0,hb,_,_,hr,_⟩:=h.it;rintro rfl;rw [hb] at hr;cases hr
theorem qm.aIi(h:qm P k enc w b r m done)(eb:w'.heap[b]? =w.heap[b]?)(er:w'.heap[r]? =w.heap[r]?):qm P k enc w' b r m done:=by obtain⟨es,clock,since,tz,c0,hb,hm,hs,hr,ho,h1,h2,h3,h9⟩:=h.it;exact⟨⟨es,clock,since,tz,c0,eb.trans hb,hm,hs,er.trans hr,ho,h1,h2,h3,h9⟩,h.apart,h.once,h.sub⟩
def seenAt(w:aJ)(r:Nat):Nat:=match w.heap[r]? with
 |some (.mapIter _ _ tz _)=>tz.size
 |_=>0
theorem qm.seen(h:qm P k enc w b r m done):seenAt w r=aA done:=by obtain⟨es,clock,since,tz,c0,_,_,_,hr,_,_,_,_,h9⟩:=h.it;unfold seenAt;rw [hr];exact h9
theorem qm.count [DecidableEq κ](h:qm P k enc w b r m done):aA done<=aA m:=by
 have h1:done.Subset (m.map (·.1)):=λq hq=>by obtain⟨v,hv⟩:=h.sub q hq;exact di.2 ⟨_,hv,rfl⟩
 have:=h.once.length_le_of_subset h1;simpa using this
theorem ei.aJw {t e:bZ}(ht:P.underlying t=aC (.map k e))(h:ei P k enc w b m)(hs:∃es clock,w.heap[b]? =aC (.map es clock)/\Stamped es clock):
 ∃w',(a9t t (.map (aC b))).run P w= .ok (π w.heap.size) w'/\qm P k enc w' b w.heap.size m []/\β w w'/\w'.heap.size=w.heap.size+1:=by
 obtain⟨es,clock,hb,hst⟩:=hs;obtain⟨I4,Hq,hb0,hm⟩:=h.blk;obtain⟨rfl,rfl⟩:es=I4/\clock=Hq:=by rw [hb] at hb0;simpa using hb0
 have hlt:=(fY.1 hb).1;refine⟨w.alloc (.mapIter (aC b) clock #[] clock), ?_,⟨⟨es,clock,clock, #[],clock,(fL w _ hlt).trans hb,hm,hst,cQ w _,λx hx=>((stamped_iff es clock).1 hst).1 x hx,aZ _,aZ _,λe he q hq=>by simp,rfl⟩,h.apart,List.nodup_nil,by simp⟩,(aX _ _).alloc (aZ _) _,by simp⟩;simp [a9t,run_underlying ht,BP hb,uU]
theorem qm.next(WX:∀q q':κ,enc q=enc q'->q=q')(h:qm P k enc w b r m done)(ty:bZ):
 ((∀p∈m,p.1∈done)/\(a9s (π r) aP ty).run P w= .ok (bC #[bK aP]) w)\/
 ∃q v w',(q,v)∈m/\q∉done/\(a9s (π r) aP ty).run P w= .ok (bC #[bK aO,enc q,v]) w'/\qm P k enc w' b r m (done++ [q])/\w.grownBy w' (aC r)/\w'.heap.size=w.heap.size/\
  (a9q (π r)).run P w'= .ok (bC #[enc q,v]) w':=by
 have hne:=h.ne;obtain⟨es,clock,since,tz,c0,hb,hm,hs,hr,hold,h1,h2,h3,h9⟩:=h.it;have Wd:∀p∈m,∃e∈es.toList,e.key=enc p.1/\e.val=p.2:=λp hp=>by
  have h4:(enc p.1,p.2)∈es.toList.map (λe=>(e.key,e.val)):=by rw [hm];exact di.2 ⟨p,hp,rfl⟩
  obtain⟨e,he,e'⟩:=di.1 h4;injection e' with a b;exact⟨e,he,a,b⟩
 have aGZ:∀e∈es.toList,∃p∈m,e.key=enc p.1/\e.val=p.2:=λe he=>by
  have h4:(e.key,e.val)∈m.map (λp=>(enc p.1,p.2)):=by rw [<-hm];exact di.2 ⟨e,he,rfl⟩
  obtain⟨p,hp,e'⟩:=di.1 h4;injection e' with a b;exact⟨p,hp,a.symm,b.symm⟩
 rcases run_next_at (P:=P) w ty r b since c0 tz es clock hr hb hold h1 with⟨h0,hrun⟩|⟨e,he,w1,rz,hrun⟩
 ·refine aS ⟨λp hp=> ?_,hrun⟩;obtain⟨e,he,hk,_⟩:=Wd p hp;exact(h3 e he p.1 hk).1 (all_seen es tz h0 e he)
 obtain⟨N3,hes⟩:=mem_left he;obtain⟨p,hp,hk,hv⟩:=aGZ e N3;have vw:p.1∉done:=λhd=>by have:=(h3 e N3 p.1 hk).2 hd;rw [hes] at this;cases this
 have hr1:w1.heap[r]? =aC (.mapIter (aC b) since tz c0):=by rcases rz with rfl|rfl<;>exact hr
 have hb1:w1.heap[b]? =aC (.map es clock):=by rcases rz with rfl|rfl<;>exact hb
 have Fe:=heap_set (o':= .mapIter (aC b) since (tz.push e.born) clock) hr1;have hb':=(Fe.2 b (λe1=>hne e1.symm)).trans hb1;have a4C:=((stamped_iff es clock).1 hs).2.1;refine aU ⟨p.1,p.2,_,hp,vw,by rw [<-hk,<-hv];exact hrun,⟨⟨es,clock,since,tz.push e.born,clock,hb',hm,hs,Fe.1,hold,h2,h2,λx hx q hq=> ?_,by simp [h9]⟩,h.apart, ?_, ?_⟩, ?_, ?_,by rw [<-hk,<-hv];exact run_entry_at _ r b since tz es clock e Fe.1 hb' N3 a4C⟩
 ·rw [contains_push];by_cases RM:x=e
  ·subst RM;have:q=p.1:=WX _ _ (hq.symm.trans hk);subst this;simp
  have KR:x.born≠e.born:=λhb2=>RM (by obtain⟨i,hi,rfl⟩:=List.getElem_of_mem hx;obtain⟨j,hj,rfl⟩:=List.getElem_of_mem N3;have:=(List.getElem_inj (xs:=es.toList.map (·.born)) (h₀:=by simpa using hi) (h₁:=by simpa using hj) a4C).1 (by simpa using hb2);subst this;rfl)
  have hqp:q≠p.1:=λe1=>RM (entry_eq_of_key ((stamped_iff es clock).1 hs).2.2 hx N3 (by rw [hq,e1,hk]))
  simpa [KR,hqp] using h3 x hx q hq
 ·exact List.nodup_append.2 ⟨h.once,by simp,by intro a ha b' hb2;simp at hb2;subst hb2;intro e1;subst e1;exact vw ha⟩
 ·intro q hq;rcases gN.1 hq with hq|hq
  ·exact h.sub q hq
  simp at hq;subst hq;exact⟨p.2,hp⟩
 ·rcases rz with rfl|rfl<;>exact⟨rfl,rfl,rfl,by simp [setBlock],λi _ hi=>Fe.2 i (λe1=>hi (by rw [e1]))⟩
 rcases rz with rfl|rfl<;>simp [setBlock]
end
section
variable {κ:Type} {P:Program} {k:bZ} {enc:κ->aN} {b r:Nat} {m:List (κ×aN)} {done:List κ} {ops:Array Oper} {rest:List Oper} {o:Oper} {a:Act} {Q:Exit->Act->aJ->Prop}
theorem aLy(w:aJ)(hg:o.guard=aB)(mo:Operand)(t:bZ)(hop:o.op=Op.range t mo) {e:bZ}(ht:P.underlying t=aC (.map k e))(hm:a.eval mo= .map (aC b))(h:ei P k enc w b m)(hs:∃es clock,w.heap[b]? =aC (.map es clock)/\Stamped es clock)
 (hK:∀w',qm P k enc w' b w.heap.size m []->β w w'->w'.heap.size=w.heap.size+1->wpList P ops Q rest (a.put o.dst (π w.heap.size)) w'):
 wpList P ops Q (o::rest) a w:=by
 refine wpList_plain hg λK' hK'=> ?_
 obtain⟨w',hrun,r1,r2,r3⟩:=h.aJw ht hs;unfold Oper.wp;simp [execOp,hop,hm,hrun,uU];exact hK' _ _ (hK w' r1 r2 r3)
theorem aLx(w:aJ)(WX:∀q q':κ,enc q=enc q'->q=q')(hg:o.guard=aB)(it:Operand)(hop:o.op=Op.next it aP)(hit:a.eval it=bD (aC ⟨r,0,aB⟩))(h:qm P k enc w b r m done)
 (hDone:(∀p∈m,p.1∈done)->wpList P ops Q rest (a.put o.dst (bC #[bK aP])) w)
 (hMore:∀q v w',(q,v)∈m->q∉done->qm P k enc w' b r m (done++ [q])->w.grownBy w' (aC r)->w'.heap.size=w.heap.size->(a9q (π r)).run P w'= .ok (bC #[enc q,v]) w'->wpList P ops Q rest (a.put o.dst (bC #[bK aO,enc q,v])) w'):
 wpList P ops Q (o::rest) a w:=by
 refine wpList_plain hg λK' hK'=> ?_
 unfold Oper.wp;rcases h.next WX o.type with⟨hd,hrun⟩|⟨q,v,w',hq,vw,hrun,r1,r2,r3,r4⟩
 ·simp [execOp,hop,hit,hrun,uU];exact hK' _ _ (hDone hd)
 simp [execOp,hop,hit,hrun,uU];exact hK' _ _ (hMore q v w' hq vw r1 r2 r3 r4)
end
end
theorem Rf(x:Lg):∀u∈x.cells,u.oneCell'=aO:=by intro u hu;simp [Lg.cells] at hu;rcases hu with rfl|rfl|rfl<;>rfl
theorem Re(L:List Lg)(x:Lg):bB (L++ [x])=bB L++x.cells:=by simp [bB]
theorem Rc:(aM.info? 76).map (λi=>(i.zero,i.size,i.bytes))=aC (aC (bP #[aG aF 0,aG aF 0,aG aF 0]),3,24):=by kernel_rfl
theorem Mf {α:Type}(p:α->Bool) {l:List α} {k:Nat}(hk:k<aA l):(l.take (k+1)).filter p=(l.take k).filter p++(if p l[k] then [l[k]] else []):=by rw [fH hk,List.filter_append,List.filter_cons];simp
theorem Me {α:Type}(p:α->Bool)(l:List α)(k:Nat):aA ((l.take k).filter p)<=aA l:=bz (qo _ _) (by rw [vN];omega)
def mA(L:List Lg):List Lg:=L.filter λx=>decide (0<x.n)
def jK(L:List Lg):List Lg:=(L.filter λx=>decide (x.n<0)).map λx=>⟨x.m,x.a,-x.n⟩
def jI(a:Int)(L:List Lg):List Lg:=L.filter λx=>x.a==a
theorem aDs {L:List Lg} {k:Nat}(hk:k<aA L):jK (L.take (k+1))=jK (L.take k)++(if L[k].n<0 then [⟨L[k].m,L[k].a,-L[k].n⟩] else []):=by unfold jK;rw [Mf _ hk,dh];by_cases h:L[k].n<0<;>simp [h]
theorem a2N(L:List Lg)(k:Nat):aA (jK (L.take k))<=aA L:=by unfold jK;rw [iX];exact Me _ _ _
def tN(L:List Lg):Int:=if L.any (λx=>x.n==gA)=aO then 2 else 0
theorem aIJ(L:List Lg)(A:Option ai)(c:Nat)(w:aJ)(hs:aW w w.heap.size A (bB L))(hl:aA L<=100000):
 aQ aM 166 #[aH A (aA L) c] w (pg 76 3 (aA (mA L)) (bB (mA L)) w):=by
 have HS:=η hs;have aY:Hid (β w w):=η (aX _ _);have mQ:Hid (w.ownsRow w.heap.size 76 3 (aH aB 0 0) (aA (mA (L.take 0))) (bB (mA (L.take 0)))):=η (by rw [nW];exact gG _ _ _ _);obtain⟨ic,Dm,sH,sJ,sK⟩:=dP Rc;go_enter func166,ntmps166
 go_wp2
 go_loopw [3,5,8] (λv _ i wr=>∃k:Nat,k<=aA L/\i=ν (k:Int)/\Hid (β w wr)/\Hid (wr.ownsRow w.heap.size 76 3 v (aA (mA (L.take k))) (bB (mA (L.take k))))) (λ_ _ i _=>aA L-(ag i).toNat)
 ·exact⟨0,bM _,rfl,aY,mQ⟩
 ·
  obtain⟨k,hk,rfl,HB,HO⟩:=hrel;obtain⟨Ax,cx,pN⟩:=bL HO.o;subst pN;by_cases hlt:k<aA L
  ·obtain⟨be,oe,rfl,kY,e0,e1,e2⟩:=oQ ((HS.o.below HB.o).mono HB.o.size) hlt;have cG:Hid (mA (L.take (k+1))=mA (L.take k)++(if decide (0<L[k].n) then [L[k]] else [])):=η (Mf (λx:Lg=>decide (0<x.n)) hlt);have gZ:aA (mA (L.take k))<=100000:=bz (Me _ L k) hl;have ej:(0:Int)<=(k:Int):=by omega
   have hkb:(k:Int)<(aA L:Int):=by omega
   generalize L[k]=x at*;generalize mA (L.take k)=D at*;obtain⟨xm,xa,xn⟩:=x;simp only at e0 e1 e2 cG;by_cases hn:0<xn
   ·have HD:Hid (mA (L.take (k+1))=D++ [⟨xm,xa,xn⟩]):=η (by rw [cG.o,ifP (by simpa using hn)]);have aV:Hid (β w ((wr.alloc (aK #[ν xm,ν xa,ν xn] 76)).alloc (aK #[ν xm,ν xa,ν xn] 76))):=η ((HB.o.alloc HB.o.size _).alloc (by have:=HB.o.size;simp;omega) _);have dG:=η ((HO.o.alloc (aK #[ν xm,ν xa,ν xn] 76)).alloc (aK #[ν xm,ν xa,ν xn] 76));have hzz:w.heap.size<=wr.heap.size:=HB.o.size;go_wp2_with (at_builtin;refine wpList_append_lies _ rfl _ _ 39 rfl w.heap.size 76 ic _ 3 24 tG Dm sH sJ sK rfl (by omega) _ _ _ rfl dG.o ⟨wr.heap.size+1,0,aB⟩ 1 1 (Lg.cells ⟨xm,xa,xn⟩) rfl rfl (dS _ _ #[_,_,_] (by simp)) (Rf _) (by omega) (by simp only [bO];omega) (by omega) (by simp;omega) (wr.heap.size+1+1) (by simp) ?_)
    intro g3 tI w3 ma gQ _ _;have af:Hid (β w w3):=η (aV.o.grown gQ (by simp;omega) (λj hj=>eU dG.o j hj));have cD:Hid (w3.ownsRow w.heap.size 76 3 (aH (aC ⟨g3,0,aB⟩) (aA D+1) tI) (aA (mA (L.take (k+1)))) (bB (mA (L.take (k+1))))):=η (by rw [HD.o,cN,Re];exact ma);go_wp2
    go_roundw
    ·exact⟨k+1,by omega,by go_num,af,cD⟩
    simp [ag];omega
   have HD:Hid (mA (L.take (k+1))=D):=η (by rw [cG.o,ifN (by simpa using hn)];simp);have KY:xn<=0:=by omega
   have aV:Hid (β w (wr.alloc (aK #[ν xm,ν xa,ν xn] 76))):=η (HB.o.alloc HB.o.size _);have dG:Hid ((wr.alloc (aK #[ν xm,ν xa,ν xn] 76)).ownsRow w.heap.size 76 3 (aH Ax (aA D) cx) (aA (mA (L.take (k+1)))) (bB (mA (L.take (k+1))))):=η (by rw [HD.o];exact HO.o.alloc _);go_wp2
   go_roundw
   ·exact⟨k+1,by omega,by go_num,aV,dG⟩
   simp [ag];omega
  obtain rfl:k=aA L:=by omega
  have cF:=HO.o;rw [cU] at cF ⊢;have dG:=η cF;go_wp2
  go_ret;exact⟨_,rfl,dG.o,HB.o⟩
theorem aII(L:List Lg)(A:Option ai)(c:Nat)(w:aJ)(hs:aW w w.heap.size A (bB L))(hl:aA L<=100000)(hI:∀x∈L,aL x.n):
 aQ aM 167 #[aH A (aA L) c] w λe w'=>β w w'/\((tN L=0/\∃v,e=aT (bC #[v,ν 0])/\w'.ownsRow w.heap.size 76 3 v (aA (jK L)) (bB (jK L)))\/(tN L=2/\e=aT (bC #[aH aB 0 0,ν 2]))):=by
 have HS:=η hs;have HI:=η hI;have wU:Hid ((L.take 0).any (λx=>x.n==gA)=aP):=η (by rw [nW];rfl);have aY:Hid (β w w):=η (aX _ _);have mQ:Hid (w.ownsRow w.heap.size 76 3 (aH aB 0 0) (aA (jK (L.take 0))) (bB (jK (L.take 0)))):=η (by rw [nW];exact gG _ _ _ _);obtain⟨ic,Dm,sH,sJ,sK⟩:=dP Rc;clear hs hI;go_enter func167,ntmps167
 go_wp2_with fail
 go_loopw [4,6,7,8,11] (λv _ _ _ i wr=>∃k:Nat,k<=aA L/\i=ν (k:Int)/\Hid (β w wr)/\Hid (wr.ownsRow w.heap.size 76 3 v (aA (jK (L.take k))) (bB (jK (L.take k))))/\Hid ((L.take k).any (λx=>x.n==gA)=aP)) (λ_ _ _ _ i _=>aA L-(ag i).toNat)
 case atStart=>exact⟨0,bM _,rfl,aY,mQ,wU⟩
 case round=>
  clear aY mQ wU;obtain⟨k,hk,rfl,HB,HO,HE⟩:=hrel;obtain⟨Ax,cx,pN⟩:=bL HO.o;subst pN;by_cases hlt:k<aA L
  ·obtain⟨be,oe,rfl,kY,e0,e1,e2⟩:=oQ ((HS.o.below HB.o).mono HB.o.size) hlt;have cG:=η (aDs hlt);have JM:=η (zb (λx:Lg=>x.n==gA) hlt);have NT:=HI.o _ (cK hlt);have EU:Hid ((L[k].n==gA)=aO->L.any (λx=>x.n==gA)=aO):=η (λh=>kE.2 ⟨_,cK hlt,h⟩);have gZ:aA (jK (L.take k))<=100000:=bz (a2N L k) hl;have ej:(0:Int)<=(k:Int):=by omega
   have hkb:(k:Int)<(aA L:Int):=by omega
   generalize L[k]=x at*;generalize jK (L.take k)=D at*;obtain⟨xm,xa,xn⟩:=x;simp only at e0 e1 e2 cG JM NT EU;by_cases hn:xn<0
   ·have KY:decide (0<=xn)=aP:=decide_eq_false (by omega);have Gc:=η NT;have BG:=η (λW=>Rm xn W Gc.o);by_cases IZ:xn=gA
    ·have mr:Hid (tN L=2):=η (by unfold tN;rw [ifP (EU.o (by simpa using IZ))]);have tY:¬aL (-xn):=by rw [IZ];unfold aL gA;omega
     rw [(gw tY).1,(gw tY).2] at BG;have aV:Hid (β w (wr.alloc (aK #[ν xm,ν xa,ν xn] 76))):=η (HB.o.alloc HB.o.size _);clear IZ tY NT cG EU JM Gc hn;go_wp2_with (go_at_call 169;refine(BG.o _).mono ?_;rintro e w3 ⟨rfl,rfl⟩)
     go_ret2;exact⟨aV.o,aU ⟨mr.o,rfl⟩⟩
    have tY:aL (-xn):=by have:=Gc.o;unfold aL gA at*;omega
    rw [(eH tY).1,(eH tY).2] at BG;have HD:Hid (jK (L.take (k+1))=D++ [⟨xm,xa,-xn⟩]):=η (by rw [cG.o,ifP hn]);have yD:Hid ((L.take (k+1)).any (λx=>x.n==gA)=aP):=η (by rw [JM.o,HE.o];simpa using IZ);have aV:Hid (β w (((wr.alloc (aK #[ν xm,ν xa,ν xn] 76)).setCell ⟨wr.heap.size,2,aB⟩ (ν (-xn))).alloc (aK #[ν xm,ν xa,ν (-xn)] 76))):=η (((HB.o.alloc HB.o.size _).setCell (p:=⟨wr.heap.size,2,aB⟩) HB.o.size _).alloc (by have:=HB.o.size;simp;omega) _);have hzz:w.heap.size<=wr.heap.size:=HB.o.size;have dG:=η (HO.o.alloc (aK #[ν xm,ν xa,ν (-xn)] 76));have cD:=η (dG.o.alloc (aK #[ν xm,ν xa,ν (-xn)] 76));clear IZ tY NT cG EU JM Gc hn HE;go_wp2_with (first|(go_at_call 169;refine(BG.o _).mono ?_;rintro e w3 ⟨rfl,rfl⟩)|(at_builtin;refine wpList_append_lies _ rfl _ _ 39 rfl w.heap.size 76 ic _ 3 24 tG Dm sH sJ sK rfl (by omega) _ _ _ rfl cD.o ⟨wr.heap.size+1,0,aB⟩ 1 1 (Lg.cells ⟨xm,xa,-xn⟩) rfl rfl (dS _ _ #[_,_,_] (by simp)) (Rf _) (by omega) (by simp only [bO];omega) (by omega) (by simp;omega) (wr.heap.size+1+1) (by simp) ?_))
    intro g3 tI w3 ma gQ _ _;have af:Hid (β w w3):=η (((HB.o.alloc HB.o.size _).alloc (by simp;omega) _).grown gQ (by simp;omega) (λj hj=>eU cD.o j hj));have dY:Hid (w3.ownsRow w.heap.size 76 3 (aH (aC ⟨g3,0,aB⟩) (aA D+1) tI) (aA (jK (L.take (k+1)))) (bB (jK (L.take (k+1))))):=η (by rw [HD.o,cN,Re];exact ma);clear ma gQ dG cD HO HB aV;go_wp2_with fail
    go_roundw
    case rel=>exact⟨k+1,by omega,by go_num,af,dY,yD⟩
    case measure=>simp [ag];omega
   have HD:Hid (jK (L.take (k+1))=D):=η (by rw [cG.o,ifN hn];simp);have KY:0<=xn:=by omega
   have yD:Hid ((L.take (k+1)).any (λx=>x.n==gA)=aP):=η (by rw [JM.o,HE.o];simp [gA];omega);have aV:Hid (β w (wr.alloc (aK #[ν xm,ν xa,ν xn] 76))):=η (HB.o.alloc HB.o.size _);have dG:Hid ((wr.alloc (aK #[ν xm,ν xa,ν xn] 76)).ownsRow w.heap.size 76 3 (aH Ax (aA D) cx) (aA (jK (L.take (k+1)))) (bB (jK (L.take (k+1))))):=η (by rw [HD.o];exact HO.o.alloc _);clear hn cG HE NT JM EU;go_wp2_with fail
   go_roundw
   case rel=>exact⟨k+1,by omega,by go_num,aV,dG,yD⟩
   case measure=>simp [ag];omega
  obtain rfl:k=aA L:=by omega
  have cF:=HO.o;rw [cU] at cF ⊢;have dG:=η cF;clear cF HO;rw [cU] at HE;have mr:Hid (tN L=0):=η (by unfold tN;rw [ifN (by rw [HE.o];simp)]);go_wp2_with fail
  go_ret2;exact⟨HB.o,aS ⟨mr.o,_,rfl,dG.o⟩⟩
def kr(a:Int)(L:List Lg):List Int:=(jI a L).map (·.n)
theorem aCv(a:Int) {L:List Lg} {k:Nat}(hk:k<aA L):kr a (L.take (k+1))=kr a (L.take k)++(if L[k].a=a then [L[k].n] else []):=by unfold kr jI;rw [Mf _ hk,dh];by_cases h:L[k].a=a<;>simp [h]
theorem a1l(a:Int)(L:List Lg)(k:Nat):aA (kr a (L.take k))<=aA L:=by unfold kr jI;rw [iX];exact Me _ _ _
theorem aCu {a:Int} {L:List Lg}(h:∀x∈L,aL x.n):∀y∈kr a L,aL y:=by intro y hy;obtain⟨x,hx,rfl⟩:=di.1 hy;exact h x (jG.1 hx).1
theorem a5x(L:List Lg)(a:Int)(A:Option ai)(c:Nat)(w:aJ)(hs:aW w w.heap.size A (bB L))(hl:aA L<=100000)(hI:∀x∈L,aL x.n):
 aQ aM 165 #[aH A (aA L) c,ν a] w λe w'=>e=aT (bC #[ν (gU (sumI (kr a L))),ν (dR (sumI (kr a L)))])/\β w w':=by
 have HS:=η hs;have HI:=η (aCu (a:=a) hI);have aY:Hid (β w w):=η (aX _ _);have mQ:Hid (w.ownsRow w.heap.size 2 1 (aH aB 0 0) (aA (kr a (L.take 0))) ((kr a (L.take 0)).map (aG aF))):=η (by rw [nW];exact gG _ _ _ _);obtain⟨ic,Dm,sH,sJ,sK⟩:=dP Na;clear hs hI;go_enter func165,ntmps165
 go_wp2_with fail
 go_loopw [6,8,11] (λv _ i wr=>∃k:Nat,k<=aA L/\i=ν (k:Int)/\Hid (β w wr)/\Hid (wr.ownsRow w.heap.size 2 1 v (aA (kr a (L.take k))) ((kr a (L.take k)).map (aG aF)))) (λ_ _ i _=>aA L-(ag i).toNat)
 case atStart=>exact⟨0,bM _,rfl,aY,mQ⟩
 case round=>
  clear aY mQ;obtain⟨k,hk,rfl,HB,HO⟩:=hrel;obtain⟨Ax,cx,pN⟩:=bL HO.o;subst pN;by_cases hlt:k<aA L
  ·obtain⟨be,oe,rfl,kY,e0,e1,e2⟩:=oQ ((HS.o.below HB.o).mono HB.o.size) hlt;have cG:=η (aCv a hlt);have gZ:aA (kr a (L.take k))<=100000:=bz (a1l a L k) hl;have ej:(0:Int)<=(k:Int):=by omega
   have hkb:(k:Int)<(aA L:Int):=by omega
   generalize L[k]=x at*;generalize kr a (L.take k)=D at*;obtain⟨xm,xa,xn⟩:=x;simp only at e0 e1 e2 cG;by_cases hn:xa=a
   ·subst hn;have HD:Hid (kr xa (L.take (k+1))=D++ [xn]):=η (by rw [cG.o,ifP rfl]);have aV:Hid (β w ((wr.alloc (aK #[ν xm,ν xa,ν xn] 76)).alloc (aK #[ν xn] 2))):=η ((HB.o.alloc HB.o.size _).alloc (by have:=HB.o.size;simp;omega) _);have dG:=η ((HO.o.alloc (aK #[ν xm,ν xa,ν xn] 76)).alloc (aK #[ν xn] 2));have hzz:w.heap.size<=wr.heap.size:=HB.o.size;clear cG;go_wp2_with (at_builtin;refine wpList_append_lies _ rfl _ _ 53 rfl w.heap.size 2 ic _ 1 8 mX Dm sH sJ sK rfl (by omega) _ _ _ rfl dG.o ⟨wr.heap.size+1,0,aB⟩ 1 1 [ν xn] rfl rfl (dS _ _ #[_] (by simp)) xy (by omega) (by simp only [bO];omega) (by omega) (by simp;omega) (wr.heap.size+1+1) (by simp) ?_)
    intro g3 tI w3 ma gQ _ _;have af:Hid (β w w3):=η (aV.o.grown gQ (by simp;omega) (λj hj=>eU dG.o j hj));have cD:Hid (w3.ownsRow w.heap.size 2 1 (aH (aC ⟨g3,0,aB⟩) (aA D+1) tI) (aA (kr xa (L.take (k+1)))) ((kr xa (L.take (k+1))).map (aG aF))):=η (by rw [HD.o,cN,dh];exact ma);clear ma gQ dG aV HO HB;go_wp2_with fail
    go_roundw
    case rel=>exact⟨k+1,by omega,by go_num,af,cD⟩
    case measure=>simp [ag];omega
   have HD:Hid (kr a (L.take (k+1))=D):=η (by rw [cG.o,ifN hn];simp);have KY:(xa==a)=aP:=by simpa using hn
   have aV:Hid (β w (wr.alloc (aK #[ν xm,ν xa,ν xn] 76))):=η (HB.o.alloc HB.o.size _);have dG:Hid ((wr.alloc (aK #[ν xm,ν xa,ν xn] 76)).ownsRow w.heap.size 2 1 (aH Ax (aA D) cx) (aA (kr a (L.take (k+1)))) ((kr a (L.take (k+1))).map (aG aF))):=η (by rw [HD.o];exact HO.o.alloc _);clear hn cG;go_wp2_with fail
   go_roundw
   case rel=>exact⟨k+1,by omega,by go_num,aV,dG⟩
   case measure=>simp [ag];omega
  obtain rfl:k=aA L:=by omega
  have cF:=HO.o;rw [cU] at cF ⊢;have rz:=a1l a L (aA L);rw [cU] at rz;have kj:=η (EB (kr a L) Ax cx wr HI.o (aW.cB cF) (by omega));clear cF HO rz;go_wp2_with (go_at_call 104;refine kj.o.mono ?_;rintro e w3 ⟨rfl,hb3⟩;have af:Hid (β w w3):=τ HB hb3;clear hb3)
  go_ret2;exact⟨rfl,af.o⟩
def jy(L:List Lg)(a:Int):Int:=sumI (kr a (mA (jI a L)))
def ld(L:List Lg)(a:Int):Int:=sumI (kr a (jK (jI a L)))
def yw(L:List Lg)(a:Int):Int:=if dR (jy L a)≠0 then dR (jy L a) else if tN (jI a L)≠0 then tN (jI a L) else dR (ld L a)
theorem aEv {L:List Lg}(h:∀x∈L,aL x.n):∀x∈mA L,aL x.n:=λx hx=>h x (jG.1 hx).1
theorem aCt {L:List Lg} {a:Int}(h:∀x∈L,aL x.n):∀x∈jI a L,aL x.n:=λx hx=>h x (jG.1 hx).1
theorem aDq {L:List Lg}(h:∀x∈L,aL x.n)(he:tN L=0):∀x∈jK L,aL x.n:=λx hx=>by
 obtain⟨y,hy,rfl⟩:=di.1 hx;have Io:=jG.1 hy;have h1:=h y Io.1;have h2:y.n≠gA:=λe=>by unfold tN at he;rw [ifP (kE.2 ⟨y,Io.1,by simpa using e⟩)] at he;omega
 show aL (-y.n);unfold aL gA at*;omega
theorem aEw(L:List Lg):aA (mA L)<=aA L:=qo _ _
theorem a1k(a:Int)(L:List Lg):aA (jI a L)<=aA L:=qo _ _
theorem aDr(L:List Lg):aA (jK L)<=aA L:=by have:=a2N L (aA L);rwa [cU] at this
def ZF(L:List Lg)(a:Int)(w:aJ)(e:dX)(w':aJ):Prop:=
 e=aT (bC #[ν (if yw L a=0 then jy L a else 0),ν (if yw L a=0 then ld L a else 0),ν (yw L a)])/\β w w'
theorem aIV(L:List Lg)(a:Int)(A:Option ai)(c:Nat)(w:aJ)(hs:aW w w.heap.size A (bB L))(hl:aA L<=100000)(hI:∀x∈L,aL x.n):
 aQ aM 105 #[aH A (aA L) c,ν a] w (ZF L a w):=by
 have HS:=η hs;have HI:=η (aCt (a:=a) hI);have aY:Hid (β w w):=η (aX _ _);have mQ:Hid (w.ownsRow w.heap.size 76 3 (aH aB 0 0) (aA (jI a (L.take 0))) (bB (jI a (L.take 0)))):=η (by rw [nW];exact gG _ _ _ _);obtain⟨ic,Dm,sH,sJ,sK⟩:=dP Rc;have pB:Hid (yw L a=if dR (jy L a)≠0 then dR (jy L a) else if tN (jI a L)≠0 then tN (jI a L) else dR (ld L a)):=η rfl;have rU:Hid (jy L a=sumI (kr a (mA (jI a L)))):=η rfl;have sq:Hid (ld L a=sumI (kr a (jK (jI a L)))):=η rfl;have rz:aA (jI a L)<=100000:=bz (a1k a L) hl;clear hs hI;go_enter func105,ntmps105
 go_wp2_with fail
 go_loopw [7,9,13] (λv _ i wr=>∃k:Nat,k<=aA L/\i=ν (k:Int)/\Hid (β w wr)/\Hid (wr.ownsRow w.heap.size 76 3 v (aA (jI a (L.take k))) (bB (jI a (L.take k))))) (λ_ _ i _=>aA L-(ag i).toNat)
 case atStart=>exact⟨0,bM _,rfl,aY,mQ⟩
 case round=>
  clear aY mQ;obtain⟨k,hk,rfl,HB,HO⟩:=hrel;obtain⟨Ax,cx,pN⟩:=bL HO.o;subst pN;by_cases hlt:k<aA L
  ·obtain⟨be,oe,rfl,kY,e0,e1,e2⟩:=oQ ((HS.o.below HB.o).mono HB.o.size) hlt;have cG:Hid (jI a (L.take (k+1))=jI a (L.take k)++(if (L[k].a==a) then [L[k]] else [])):=η (Mf (λx:Lg=>x.a==a) hlt);have gZ:aA (jI a (L.take k))<=100000:=bz (Me _ L k) hl;have ej:(0:Int)<=(k:Int):=by omega
   have hkb:(k:Int)<(aA L:Int):=by omega
   generalize L[k]=x at*;generalize jI a (L.take k)=D at*;obtain⟨xm,xa,xn⟩:=x;simp only at e0 e1 e2 cG;by_cases hn:xa=a
   ·subst hn;have HD:Hid (jI xa (L.take (k+1))=D++ [⟨xm,xa,xn⟩]):=η (by rw [cG.o,ifP (by simp)]);have aV:Hid (β w ((wr.alloc (aK #[ν xm,ν xa,ν xn] 76)).alloc (aK #[ν xm,ν xa,ν xn] 76))):=η ((HB.o.alloc HB.o.size _).alloc (by have:=HB.o.size;simp;omega) _);have dG:=η ((HO.o.alloc (aK #[ν xm,ν xa,ν xn] 76)).alloc (aK #[ν xm,ν xa,ν xn] 76));have hzz:w.heap.size<=wr.heap.size:=HB.o.size;clear cG;go_wp2_with (at_builtin;refine wpList_append_lies _ rfl _ _ 39 rfl w.heap.size 76 ic _ 3 24 tG Dm sH sJ sK rfl (by omega) _ _ _ rfl dG.o ⟨wr.heap.size+1,0,aB⟩ 1 1 (Lg.cells ⟨xm,xa,xn⟩) rfl rfl (dS _ _ #[_,_,_] (by simp)) (Rf _) (by omega) (by simp only [bO];omega) (by omega) (by simp;omega) (wr.heap.size+1+1) (by simp) ?_)
    intro g3 tI w3 ma gQ _ _;have af:Hid (β w w3):=η (aV.o.grown gQ (by simp;omega) (λj hj=>eU dG.o j hj));have cD:Hid (w3.ownsRow w.heap.size 76 3 (aH (aC ⟨g3,0,aB⟩) (aA D+1) tI) (aA (jI xa (L.take (k+1)))) (bB (jI xa (L.take (k+1))))):=η (by rw [HD.o,cN,Re];exact ma);clear ma gQ dG aV HO HB;go_wp2_with fail
    go_roundw
    case rel=>exact⟨k+1,by omega,by go_num,af,cD⟩
    case measure=>simp [ag];omega
   have HD:Hid (jI a (L.take (k+1))=D):=η (by rw [cG.o,ifN (by simpa using hn)];simp);have KY:(xa==a)=aP:=by simpa using hn
   have aV:Hid (β w (wr.alloc (aK #[ν xm,ν xa,ν xn] 76))):=η (HB.o.alloc HB.o.size _);have dG:Hid ((wr.alloc (aK #[ν xm,ν xa,ν xn] 76)).ownsRow w.heap.size 76 3 (aH Ax (aA D) cx) (aA (jI a (L.take (k+1)))) (bB (jI a (L.take (k+1))))):=η (by rw [HD.o];exact HO.o.alloc _);clear hn cG;go_wp2_with fail
   go_roundw
   case rel=>exact⟨k+1,by omega,by go_num,aV,dG⟩
   case measure=>simp [ag];omega
  obtain rfl:k=aA L:=by omega
  have cF:=HO.o;rw [cU] at cF ⊢;have Li:=η cF;clear cF HO rz;have ir:aA (jI a L)<=100000:=bz (a1k a L) hl;generalize jI a L=mine at*;have zE:=η (aIJ mine Ax cx wr (aW.cB Li.o) ir);have yM:=η (λ(W:aJ) (A2:Option ai) (c2:Nat) (h2:W.ownsRow wr.heap.size 76 3 (aH A2 (aA (mA mine)) c2) (aA (mA mine)) (bB (mA mine)))=>a5x (mA mine) a A2 c2 W (aW.cB h2) (bz (aEw _) ir) (aEv HI.o));have Jm:=η (λ(he:tN mine=0) (W:aJ) (B:Nat) (A2:Option ai) (c2:Nat) (h2:W.ownsRow B 76 3 (aH A2 (aA (jK mine)) c2) (aA (jK mine)) (bB (jK mine)))=>a5x (jK mine) a A2 c2 W (aW.cB h2) (bz (aDr _) ir) (aDq HI.o he));have oB:=η (λW (hW:β wr W)=>aII mine Ax cx W (((aW.cB Li.o).below hW).mono hW.size) ir HI.o);rw [<-rU.o] at yM;rw [<-sq.o] at Jm;by_cases h1:dR (jy L a)=0
  ·rw [h1] at yM;by_cases h2:tN mine=0
   ·have P0:=η (Jm.o h2);by_cases h3:dR (ld L a)=0
    ·have HR:Hid (yw L a=0):=η (by rw [pB.o,ifN (by simpa using h1),ifN (by simpa using h2),h3]);have hO:gU (jy L a)=jy L a:=by
      by_cases q:aL (jy L a)
      ·exact(eH q).1
      rw [(gw q).2] at h1;omega
     have hC:gU (ld L a)=ld L a:=by
      by_cases q:aL (ld L a)
      ·exact(eH q).1
      rw [(gw q).2] at h3;omega
     rw [hO] at yM;rw [h3,hC] at P0;have HZ:=η h2;clear h1 h2 h3 hO hC Jm pB rU sq;go_wp2_with (first|(go_at_call 166;refine zE.o.mono ?_;rintro e w3 ⟨vd,rfl,ug,bQ⟩;have wx:=η ug;obtain⟨A2,c2,hv2⟩:=bL ug;subst hv2;have af:Hid (β wr w3):=η bQ;clear ug bQ)|(go_at_call 165;refine(yM.o _ _ _ wx.o).mono ?_;rintro e w4 ⟨rfl,hb4⟩;have ar:Hid (β wr w4):=τ af hb4;clear hb4 yM)|(go_at_call 167;refine(oB.o _ ar.o).mono ?_;rintro e w5 ⟨dA,h5⟩;obtain⟨vc,rfl,Bj⟩:∃v,e=aT (bC #[v,ν 0])/\w5.ownsRow w4.heap.size 76 3 v (aA (jK mine)) (bB (jK mine)):=(h5.elim (λh=>h.2) (λh=>absurd (HZ.o.symm.trans h.1) (by decide)));have cY:Hid (β wr w5):=τ ar dA;have qd:=η Bj;obtain⟨A5,c5,NR⟩:=bL Bj;subst NR;clear dA h5 Bj)|(go_at_call 165;refine(P0.o _ _ _ _ qd.o).mono ?_;rintro e w6 ⟨rfl,iQ⟩;have gK:Hid (β wr w6):=τ cY iQ;clear iQ))
     go_ret3;exact⟨by rw [HR.o];rfl,HB.o.trans (gK.o.mono HB.o.size)⟩
    have HR:Hid (yw L a=2):=η (by
     rw [pB.o,ifN (by simpa using h1),ifN (by simpa using h2)];by_cases q:aL (ld L a)
     ·exact absurd (eH q).2 h3
     exact(gw q).2)
    have IB:dR (ld L a)=2:=by rw [<-HR.o,pB.o,ifN (by simpa using h1),ifN (by simpa using h2)]
    rw [IB] at P0;have HZ:=η h2;generalize gU (ld L a)=vC at*;generalize gU (jy L a)=vO at*;clear h1 h2 h3 IB Jm pB rU sq;go_wp2_with (first|(go_at_call 166;refine zE.o.mono ?_;rintro e w3 ⟨vd,rfl,ug,bQ⟩;have wx:=η ug;obtain⟨A2,c2,hv2⟩:=bL ug;subst hv2;have af:Hid (β wr w3):=η bQ;clear ug bQ)|(go_at_call 165;refine(yM.o _ _ _ wx.o).mono ?_;rintro e w4 ⟨rfl,hb4⟩;have ar:Hid (β wr w4):=τ af hb4;clear hb4 yM)|(go_at_call 167;refine(oB.o _ ar.o).mono ?_;rintro e w5 ⟨dA,h5⟩;obtain⟨vc,rfl,Bj⟩:∃v,e=aT (bC #[v,ν 0])/\w5.ownsRow w4.heap.size 76 3 v (aA (jK mine)) (bB (jK mine)):=(h5.elim (λh=>h.2) (λh=>absurd (HZ.o.symm.trans h.1) (by decide)));have cY:Hid (β wr w5):=τ ar dA;have qd:=η Bj;obtain⟨A5,c5,NR⟩:=bL Bj;subst NR;clear dA h5 Bj)|(go_at_call 165;refine(P0.o _ _ _ _ qd.o).mono ?_;rintro e w6 ⟨rfl,iQ⟩;have gK:Hid (β wr w6):=τ cY iQ;clear iQ))
    go_ret3;exact⟨by rw [HR.o];rfl,HB.o.trans (gK.o.mono HB.o.size)⟩
   have a4M:tN mine=2:=by unfold tN at*;split at h2<;>simp_all
   have HR:Hid (yw L a=2):=η (by rw [pB.o,ifN (by simpa using h1),ifP h2,a4M]);have HZ:=η h2;generalize gU (jy L a)=vO at*;clear h1 h2 a4M Jm pB rU sq;go_wp2_with (first|(go_at_call 166;refine zE.o.mono ?_;rintro e w3 ⟨vd,rfl,ug,bQ⟩;have wx:=η ug;obtain⟨A2,c2,hv2⟩:=bL ug;subst hv2;have af:Hid (β wr w3):=η bQ;clear ug bQ)|(go_at_call 165;refine(yM.o _ _ _ wx.o).mono ?_;rintro e w4 ⟨rfl,hb4⟩;have ar:Hid (β wr w4):=τ af hb4;clear hb4 yM)|(go_at_call 167;refine(oB.o _ ar.o).mono ?_;rintro e w5 ⟨dA,h5⟩;obtain rfl:e=aT (bC #[aH aB 0 0,ν 2]):=(h5.elim (λh=>absurd h.1 HZ.o) (λh=>h.2));have cY:Hid (β wr w5):=τ ar dA;clear dA h5))
   go_ret3;exact⟨by rw [HR.o];rfl,HB.o.trans (cY.o.mono HB.o.size)⟩
  have ub:dR (jy L a)=2:=by
   by_cases q:aL (jy L a)
   ·exact absurd (eH q).2 h1
   exact(gw q).2
  have HR:Hid (yw L a=2):=η (by rw [pB.o,ifP h1,ub]);rw [ub] at yM;generalize gU (jy L a)=vO at*;clear h1 ub Jm pB rU sq;go_wp2_with (first|(go_at_call 166;refine zE.o.mono ?_;rintro e w3 ⟨vd,rfl,ug,bQ⟩;have wx:=η ug;obtain⟨A2,c2,hv2⟩:=bL ug;subst hv2;have af:Hid (β wr w3):=η bQ;clear ug bQ)|(go_at_call 165;refine(yM.o _ _ _ wx.o).mono ?_;rintro e w4 ⟨rfl,hb4⟩;have ar:Hid (β wr w4):=τ af hb4;clear hb4 yM))
  go_ret3;exact⟨by rw [HR.o];rfl,HB.o.trans (ar.o.mono HB.o.size)⟩
end Go.Proofs.YtdokipdchlcmeaaGreat
