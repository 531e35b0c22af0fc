/-
  Several texts in one, for one claim (printed by pack.py).
-/
import Derived.Test.YtdokipdchlcmeaaGreatPh4
import Derived.Lib.SliceRun
import Derived.Laws.IdiomCopy
import Derived.StillTailTactics
import Derived.Maps.RangeWalk
import Derived.Maps.RangeRun
set_option linter.all false
set_option maxRecDepth 100000
set_option maxHeartbeats 12800000
open Array renaming getElem?_eq_some_iff→fX,replicate→lH
open Bool renaming true→aO,false→aP,and_eq_true→je,and_false→Iz
open Go renaming World→aJ,Value→aN,Calls→aQ,Addr→aj,cell_of_row→bH,maxLen→bM,TypeId→bY,heap_alloc_new→cO,info_parts→dJ,Ending→dU,rounds_succ→eB,wpList_append_own→iZ,seen→tj,wp_loop_rounds→um
open Go.Builtin renaming zeroCells→EA,clear_→Yl
open Go.Calls renaming quiet_of_same→J1
open Go.Ending renaming returned→aT
open Go.Instr renaming entry→a9h,next→a9j,range→a9k
open Go.IntKind renaming i64→aF
open Go.IntWalk renaming i64_in→sj
open Go.MapKept renaming run_getObj_map→BM
open Go.Obj renaming cells→aK
open Go.Proofs renaming intOf→af
open Go.Proofs.Tryz renaming prog→aM,underlying53→mP,underlying39→tE,underlying46→yN,underlying185→PL,func213→UT,ntmps213→Ub,func147→a0Z,func240→a0h,func243→a0i,func248→a0j,func50→a0l,ntmps147→a0t,ntmps240→a1B,ntmps243→a1C,ntmps248→a1D,ntmps50→a1F,results147→a1I,func113→aAY,ntmps113→aBL,results113→aC4
open Go.Result renaming andThen→uN
open Go.RowKit renaming Below→aY
open Go.RowKit.Below renaming refl→aX,alloc→rF,setCell→E8
open Go.Value renaming int→aG,slice→aH,tuple→bB,pointer→bF,bool→bJ,agg→bQ,ownBlock→dy
open Go.World renaming ownsRow_nil→fh,frozen?→iK,ownsRow→kB,size_alloc→DB
open Int renaming le_refl→dM
open List renaming length→aA,getElem_mem→cH,length_append→cN,take_length→cT,range→dR,map_append→dZ,mem_map→df,mem_cons→fE,take_succ_eq_append_getElem→fF,mem_append→gL,replicate→gR,getElem?_eq_getElem→iE,length_map→iV,mem_filter→jD,any_eq_true→kA,eq_nil_of_length_eq_zero→nO,mem_range→nP,take_zero→nQ,length_filter_le→qg,mem_iff_getElem→tB,length_cons→uL,length_take→vD,pairwise_iff_getElem→vF,flatMap_cons→wZ,getElem_map→wk,any_eq_false→zQ,getElem?_eq_some_iff→zR,pairwise_map→BK,nil_append→GQ,all_eq_false→Jc,getElem?_eq_none→Ld,drop→U9,take→UG,getElem_set_self→a0G,take_append_of_le_length→a0J,take_take→aA2
open List.Pairwise renaming imp_of_mem→Oz
open Nat renaming le_refl→aa,zero_le→bK,le_trans→bz,lt_of_lt_of_le→cP,lt_or_ge→rW,mul_le_mul_right→Ec,add_zero→GY,lt_trans→Lj
open Option renaming none→aB,some→aC
open Option.some renaming inj→pF
open Or renaming inl→aS,inr→aU
namespace Go.Proofs.YtdokipdchlcmeaaGreat
open Go.Proofs.Tryz Go.RowKit
theorem aLZ(vb:Nat)(p:Vp)(M A:Nat)(room:Int)(l:List Int)(h:List Hr)(nb:Nat)(nv:aN)(l':List Int)(xj:Int)(es:List En)(AA:Option aj)(c:Nat)(w:aJ)(H:gS w vb p M A room l h)(HN:fC w nb M A nv l' xj)(hs:aW w w.heap.size AA (qo es))(hI:∀x∈es,x.ok)(hl:aA h<=100000)(QU:aA es<=100000):
 aQ aM 100 #[π vb,π nb,aH AA (aA es) c] w λe w'=>e=aT (bJ (es.any (sJ M A l l' h)))/\β w w':=by
 have HV:=η H;have HK:=η HN;have HS:=η hs;have HI:=η hI;have IP:=H.lt;have aZ:Hid (β w w):=η (aX _ _);have ie:Hid ((es.take 0).any (sJ M A l l' h)=aP):=η (by rw [nQ];rfl);go_enter func100,ntmps100
 go_wp2_with fail
 go_loopw [8,9,10,11,12,15] (λ_ _ _ _ _ i wr=>∃k:Nat,k<=aA es/\i=ν (k:Int)/\Hid (β w wr)/\Hid ((es.take k).any (sJ M A l l' h)=aP)) (λ_ _ _ _ _ i _=>aA es-(af i).toNat)
 case atStart=>exact⟨0,bK _,rfl,aZ,ie⟩
 case round=>
  obtain⟨k,hk,rfl,HB,HP⟩:=hrel;by_cases hlt:k<aA es
  ·obtain⟨be,oe,rfl,km,e0,e1,e2,e3⟩:=VP ((HS.o.below HB.o).mono HB.o.size) hlt;have dS:=HI.o _ (cH hlt);have cG:=η (zY (sJ M A l l' h) hlt);have L9:=η (λ(q:sJ M A l l' h es[k]=aO)=>kA.2 ⟨_,cH hlt,q⟩);have eY:(0:Int)<=(k:Int):=by omega
   have hkb:(k:Int)<(aA es:Int):=by omega
   generalize es[k]=x at*;obtain⟨xk,xm,xa,xn⟩:=x;simp only at e0 e1 e2 e3;obtain⟨KZ,Ka,_,_⟩:=dS;simp only at KZ Ka;have aR:Hid (β w (wr.alloc (aK #[ν xk,ν xm,ν xa,ν xn] 103))):=η (HB.o.alloc HB.o.size _);have cY:Hid ((wr.alloc (aK #[ν xk,ν xm,ν xa,ν xn] 103)).heap[wr.heap.size]? =aC (aK #[ν xk,ν xm,ν xa,ν xn] 103 (0,0))):=η (cO wr _);have RD:wr.heap.size<(wr.alloc (aK #[ν xk,ν xm,ν xa,ν xn] 103)).heap.size:=by simp
   have hvx:vb<(wr.alloc (aK #[ν xk,ν xm,ν xa,ν xn] 103)).heap.size:=cP IP aR.o.size;have BA:Hid (sJ M A l l' h ⟨xk,xm,xa,xn⟩=(!qJ xk&&decide (balA M A l' xk xm xa<balA M A l xk xm xa)&&decide (balA M A l' xk xm xa<iP h xk xm xa))):=η rfl;have yH:=η (HV.o.below aR.o);have c0:=yH.o.c0;have wO:=η (λW (hW:β w W)=>Ut M A p.bv l p.po xk xm xa p.bb W (HV.o.below hW).bk KZ Ka);have kN:=η (λW (hW:β w W)=>Ut M A nv l' xj xk xm xa nb W (HK.o.below hW) KZ Ka);have J8:=η (λW (hW:β w W)=>a8N vb p M A room l h xk xm xa W (HV.o.below hW) hl);go_upto_region 4 with fail
   generalize (wr.alloc (aK #[ν xk,ν xm,ν xa,ν xn] 103))=w1 at*;generalize wr.heap.size=bx at*;obtain⟨x0,x1,x2⟩:=Ng cY;generalize balA M A l xk xm xa=was at*;generalize balA M A l' xk xm xa=now at*;generalize np (plcA M A xk xm xa)=en at*;generalize iP h xk xm xa=hd at*;have yX:=λ(n:sR w1.heap.size w1) (b o:Nat) (hb:b<w1.heap.size)=>n.cells b o hb
   refine SX w1.heap.size (by kernel_rfl) (by kernel_rfl) ?_;repeat (go_big_quiet_step ((go_at_call 92;exact Calls.M4 (aa _) (wO.o _ (aR.o.trans ((sR.h _).mono aR.o.size))))))
   refine wpQuiet_nil ?_;intro _ hw';obtain⟨nq,hw''⟩:=hw';subst hw'';have hn:=nq.h;generalize nq.wd=w2 at*;have aV:Hid (β w w2):=τ aR hn;have y0:=(fA hn).1 bx 0 RD;have y1:=(fA hn).1 bx 1 RD;have y2:=(fA hn).1 bx 2 RD;rw [x0] at y0;rw [x1] at y1;rw [x2] at y2;have hz2:bx<w2.heap.size:=cP RD hn.size;cases hf:qJ xk with
   |true=>
    rw [hf] at BA;have o6:Hid ((es.take (k+1)).any (sJ M A l l' h)=aP):=η (by rw [cG.o,HP.o,BA.o];rfl);have wR:Hid (∀W,aQ aM 112 #[bQ #[ν xk,ν xm]] W λe w'=>e=aT (bJ aO)/\β W w'):=η (λW=>by rw [<-hf];exact Pj xk xm W);go_wp2_with (first|(go_at_call 92;refine(kN.o _ aV.o).mono ?_;rintro e w3 ⟨rfl,hb3⟩;have ag:Hid (β w w3):=τ aV hb3;have iT:Hid (β w2 w3):=η hb3;have z0:=(fA hb3).1 bx 0 hz2;have z1:=(fA hb3).1 bx 1 hz2;have z2:=(fA hb3).1 bx 2 hz2;rw [y0] at z0;rw [y1] at z1;rw [y2] at z2)|(go_at_call 112;refine(wR.o _).mono ?_;rintro e w4 ⟨rfl,hb4⟩;have ar:Hid (β w w4):=τ ag hb4;have u0:=(fA hb4).1 bx 0 (cP hz2 iT.o.size);have u1:=(fA hb4).1 bx 1 (cP hz2 iT.o.size);have u2:=(fA hb4).1 bx 2 (cP hz2 iT.o.size);rw [z0] at u0;rw [z1] at u1;rw [z2] at u2))
    go_roundw
    case rel=>exact⟨k+1,by omega,by go_num,ar,o6⟩
    case measure=>simp [af];omega
   |false=>
    rw [hf] at BA;have wR:Hid (∀W,aQ aM 112 #[bQ #[ν xk,ν xm]] W λe w'=>e=aT (bJ aP)/\β W w'):=η (λW=>by rw [<-hf];exact Pj xk xm W);by_cases h1:now<was
    ·by_cases h2:now<hd
     ·have HE:Hid (es.any (sJ M A l l' h)=aO):=η (L9.o (by rw [BA.o];simp [h1,h2]));go_wp2_with (first|(go_at_call 92;refine(kN.o _ aV.o).mono ?_;rintro e w3 ⟨rfl,hb3⟩;have ag:Hid (β w w3):=τ aV hb3;have iT:Hid (β w2 w3):=η hb3;have z0:=(fA hb3).1 bx 0 hz2;have z1:=(fA hb3).1 bx 1 hz2;have z2:=(fA hb3).1 bx 2 hz2;rw [y0] at z0;rw [y1] at z1;rw [y2] at z2)|(go_at_call 112;refine(wR.o _).mono ?_;rintro e w4 ⟨rfl,hb4⟩;have ar:Hid (β w w4):=τ ag hb4;have u0:=(fA hb4).1 bx 0 (cP hz2 iT.o.size);have u1:=(fA hb4).1 bx 1 (cP hz2 iT.o.size);have u2:=(fA hb4).1 bx 2 (cP hz2 iT.o.size);rw [z0] at u0;rw [z1] at u1;rw [z2] at u2)|(go_at_call 160;refine(J8.o _ ar.o).mono ?_;rintro e w5 ⟨rfl,cd⟩;have cV:Hid (β w w5):=τ ar cd))
      go_ret;exact⟨by rw [HE.o];rfl,cV.o⟩
     have o6:Hid ((es.take (k+1)).any (sJ M A l l' h)=aP):=η (by rw [cG.o,HP.o,BA.o];simp [h2]);have uX:hd<=now:=by omega
     go_wp2_with (first|(go_at_call 92;refine(kN.o _ aV.o).mono ?_;rintro e w3 ⟨rfl,hb3⟩;have ag:Hid (β w w3):=τ aV hb3;have iT:Hid (β w2 w3):=η hb3;have z0:=(fA hb3).1 bx 0 hz2;have z1:=(fA hb3).1 bx 1 hz2;have z2:=(fA hb3).1 bx 2 hz2;rw [y0] at z0;rw [y1] at z1;rw [y2] at z2)|(go_at_call 112;refine(wR.o _).mono ?_;rintro e w4 ⟨rfl,hb4⟩;have ar:Hid (β w w4):=τ ag hb4;have u0:=(fA hb4).1 bx 0 (cP hz2 iT.o.size);have u1:=(fA hb4).1 bx 1 (cP hz2 iT.o.size);have u2:=(fA hb4).1 bx 2 (cP hz2 iT.o.size);rw [z0] at u0;rw [z1] at u1;rw [z2] at u2)|(go_at_call 160;refine(J8.o _ ar.o).mono ?_;rintro e w5 ⟨rfl,cd⟩;have cV:Hid (β w w5):=τ ar cd))
     go_roundw
     case rel=>exact⟨k+1,by omega,by go_num,cV,o6⟩
     case measure=>simp [af];omega
    have o6:Hid ((es.take (k+1)).any (sJ M A l l' h)=aP):=η (by rw [cG.o,HP.o,BA.o];simp [h1]);have uW:was<=now:=by omega
    go_wp2_with (first|(go_at_call 92;refine(kN.o _ aV.o).mono ?_;rintro e w3 ⟨rfl,hb3⟩;have ag:Hid (β w w3):=τ aV hb3;have iT:Hid (β w2 w3):=η hb3;have z0:=(fA hb3).1 bx 0 hz2;have z1:=(fA hb3).1 bx 1 hz2;have z2:=(fA hb3).1 bx 2 hz2;rw [y0] at z0;rw [y1] at z1;rw [y2] at z2)|(go_at_call 112;refine(wR.o _).mono ?_;rintro e w4 ⟨rfl,hb4⟩;have ar:Hid (β w w4):=τ ag hb4;have u0:=(fA hb4).1 bx 0 (cP hz2 iT.o.size);have u1:=(fA hb4).1 bx 1 (cP hz2 iT.o.size);have u2:=(fA hb4).1 bx 2 (cP hz2 iT.o.size);rw [z0] at u0;rw [z1] at u1;rw [z2] at u2))
    go_roundw
    case rel=>exact⟨k+1,by omega,by go_num,ar,o6⟩
    case measure=>simp [af];omega
  obtain rfl:k=aA es:=by omega
  rw [cT] at HP;go_wp2_with fail
  go_ret;exact⟨by rw [HP.o];rfl,HB.o⟩
def Uh(vb:Nat)(p:Vp)(M A:Nat)(room:Int)(l:List Int)(h:List Hr)(es:List En)(w:aJ)(e:dU)(w':aJ):Prop:=
 ∃p',e=aT (ν (lZ M A l h es))/\gS w' vb p' M A room (if lZ M A l h es=0 then kH M A l es else l) h/\bC (λk=>k=vb) w w'/\∀k,qE vb p' k->qE vb p k\/w.heap.size<=k
theorem gS.swap {w:aJ} {vb:Nat} {p:Vp} {M A:Nat} {room:Int} {l l':List Int} {h:List Hr}(H:gS w vb p M A room l h) {nb:Nat} {nv:aN} {po:Int}(hn:fC w nb M A nv l' po):gS (w.setCell ⟨vb,0,aB⟩ (bF (aC ⟨nb,0,aB⟩))) vb ⟨nb,nv,po,p.tb,p.tv⟩ M A room l' h:=by
 have mB:nb≠vb:=λe=>by have h1:=hn.blk;rw [e,H.blk] at h1;injection h1 with h1;injection h1 with h1 h2;exact absurd h2 (by decide)
 have N4:p.tb≠vb:=λe=>by have h1:=H.tb.blk;rw [e,H.blk] at h1;injection h1 with h1;injection h1 with h1 h2;exact absurd h2 (by decide)
 have hu:bC (λk=>k=vb) w (w.setCell ⟨vb,0,aB⟩ (π nb)):=(bC.refl (λk=>k=vb) w).setCell (p:=⟨vb,0,aB⟩) (aS rfl) _;refine⟨(lu H.blk 0 _).trans rfl,hn.upd hu mB (λk hk e=>gP hn.own H.blk (by decide) (e▸hk)),H.tb.upd hu N4 (λk hk e=>gP H.tb.own H.blk (by decide) (e▸hk))⟩
theorem YW(vb:Nat)(p:Vp)(M A:Nat)(room:Int)(l:List Int)(h:List Hr)(es:List En)(AA:Option aj)(c:Nat)(w:aJ)(H:gS w vb p M A room l h)(hs:aW w w.heap.size AA (qo es))(hI:∀x∈es,x.ok)(r8:∀y∈l,aL y)(hl:aA h<=100000)(QU:aA es<=100000):
 aQ aM 50 #[π vb,aH AA (aA es) c] w (Uh vb p M A room l h es w):=by
 have HV:=η H;have HS:=η hs;have HI:=η hI;have EJ:=η r8;have c0:=H.c0;have CR:=η (a1p M A p.bv l p.po p.bb w H.bk);by_cases h0:nT M A l es=0
 ·have HE:Hid (lZ M A l h es=if es.any (sJ M A l (kH M A l es) h)=aO then 13 else 0):=η (by unfold lZ;rw [ifN (by simpa using h0)]);have HP:Hid (∀(nb:Nat) (nv:aN) (W:aJ),fC W nb M A nv l p.po->β w W->aQ aM 99 #[π nb,aH AA (aA es) c] W λe w'=>∃xj,e=aT (ν 0)/\fC w' nb M A nv (kH M A l es) xj/\bC (λk=>k=nb\/nv.ownBlock=aC k) W w'):=η λnb nv W hk hW=>(a1v M A nv l p.po es AA c nb W hk ((HS.o.below hW).mono hW.size) HI.o EJ.o QU).mono λe w' ⟨xj,he,hb,hu⟩=>⟨xj,by rw [he,h0],by unfold Kf at hb;rw [ifP h0] at hb;exact hb,hu⟩
  have ew:=η (λ(nb:Nat) (nv:aN) (xj:Int) (W:aJ) (hk:fC W nb M A nv (kH M A l es) xj) (hW:β w W)=>aLZ vb p M A room l h nb nv (kH M A l es) xj es AA c W (HV.o.below hW) hk ((HS.o.below hW).mono hW.size) HI.o hl QU);by_cases h1:es.any (sJ M A l (kH M A l es) h)=aO
  ·rw [h1] at HE ew;have rJ:Hid (lZ M A l h es=13):=η (by rw [HE.o];rfl);go_enter a0l,a1F
   go_wp2_with (first|(go_at_call 98;refine CR.o.mono ?_;rintro e w2 ⟨nb,nv,rfl,hk2,oL,nh,hb2⟩;have aV:=η hb2;have lh:=η hk2;have rM:Hid (w.heap.size<=nb/\∀k,nv.ownBlock=aC k->w.heap.size<=k):=η ⟨oL,nh⟩;have hz2:=hk2.lt)|(go_at_call 99;refine(HP.o nb nv _ lh.o aV.o).mono ?_;rintro e w3 ⟨Nd,rfl,hk3,qN⟩;have od:=η hk3;have ag:=η (aV.o.trans (qN.toBelow aV.o.size (λk hk=>hk.elim (λe=>by rw [e];exact rM.o.1) (λe=>rM.o.2 k e)))))|(go_at_call 100;refine(ew.o nb nv Nd _ od.o ag.o).mono ?_;rintro e w4 ⟨rfl,hb4⟩;have ar:=τ ag hb4;have yD:=η (od.o.below hb4)))
   go_ret;exact⟨p,by rw [rJ.o];rfl,by rw [rJ.o];exact HV.o.below ar.o,bC.bZ _ ar.o,λk hk=>aS hk⟩
  have uW:es.any (sJ M A l (kH M A l es) h)=aP:=by simpa using h1
  rw [uW] at HE ew;have rJ:Hid (lZ M A l h es=0):=η (by rw [HE.o];rfl);go_enter a0l,a1F
  go_wp2_with (first|(go_at_call 98;refine CR.o.mono ?_;rintro e w2 ⟨nb,nv,rfl,hk2,oL,nh,hb2⟩;have aV:=η hb2;have lh:=η hk2;have rM:Hid (w.heap.size<=nb/\∀k,nv.ownBlock=aC k->w.heap.size<=k):=η ⟨oL,nh⟩;have hz2:=hk2.lt)|(go_at_call 99;refine(HP.o nb nv _ lh.o aV.o).mono ?_;rintro e w3 ⟨Nd,rfl,hk3,qN⟩;have od:=η hk3;have ag:=η (aV.o.trans (qN.toBelow aV.o.size (λk hk=>hk.elim (λe=>by rw [e];exact rM.o.1) (λe=>rM.o.2 k e)))))|(go_at_call 100;refine(ew.o nb nv Nd _ od.o ag.o).mono ?_;rintro e w4 ⟨rfl,hb4⟩;have ar:=τ ag hb4;have yD:=η (od.o.below hb4);have z0:=(HV.o.below ar.o).c0;have mW:=(HV.o.below ar.o).lt;have zf:w4.frozen? ⟨vb,0,aB⟩=aP:=(by simp [iK,(HV.o.below ar.o).blk])))
  go_ret;refine⟨⟨nb,nv,Nd,p.tb,p.tv⟩,by rw [rJ.o];rfl,by rw [rJ.o];exact(HV.o.below ar.o).swap yD.o,((bC.bZ (λk=>k=vb) ar.o).setCell (p:=⟨vb,0,aB⟩) (aS rfl) _), ?_⟩;rintro k (hk|hk|hk|hk|hk)
  ·exact aS (aS hk)
  ·exact aU (by rw [hk];exact rM.o.1)
  ·exact aU (rM.o.2 k hk)
  ·exact aS (aU (aU (aU (aS hk))))
  exact aS (aU (aU (aU (aU hk))))
 have HE:Hid (lZ M A l h es=nT M A l es):=η (by unfold lZ;rw [ifP h0]);have og:=η h0;have a4P:(nT M A l es !=0)=aO:=by simpa using h0
 have HP:Hid (∀(nb:Nat) (nv:aN) (W:aJ),fC W nb M A nv l p.po->β w W->aQ aM 99 #[π nb,aH AA (aA es) c] W λe w'=>∃xj,e=aT (ν (nT M A l es))/\fC w' nb M A nv (Kf M A l es) xj/\bC (λk=>k=nb\/nv.ownBlock=aC k) W w'):=η λnb nv W hk hW=>a1v M A nv l p.po es AA c nb W hk ((HS.o.below hW).mono hW.size) HI.o EJ.o QU
 generalize nT M A l es=E at*;go_enter a0l,a1F
 go_wp2_with (first|(go_at_call 98;refine CR.o.mono ?_;rintro e w2 ⟨nb,nv,rfl,hk2,oL,nh,hb2⟩;have aV:=η hb2;have lh:=η hk2;have rM:Hid (w.heap.size<=nb/\∀k,nv.ownBlock=aC k->w.heap.size<=k):=η ⟨oL,nh⟩;have hz2:=hk2.lt)|(go_at_call 99;refine(HP.o nb nv _ lh.o aV.o).mono ?_;rintro e w3 ⟨Nd,rfl,hk3,qN⟩;have od:=η hk3;have ag:=η (aV.o.trans (qN.toBelow aV.o.size (λk hk=>hk.elim (λe=>by rw [e];exact rM.o.1) (λe=>rM.o.2 k e))))))
 go_ret;exact⟨p,by rw [HE.o];rfl,by rw [ifN (by rw [HE.o];exact og.o)];exact HV.o.below ag.o,bC.bZ _ ag.o,λk hk=>aS hk⟩
def l9(fk fm tk tm a n:Int):List En:= [⟨fk,fm,a,-n⟩,⟨tk,tm,a,n⟩]
theorem aLc(vb:Nat)(p:Vp)(M A:Nat)(room:Int)(l:List Int)(h:List Hr)(fk fm tk tm a n:Int)(w:aJ)(H:gS w vb p M A room l h)(hf:aL fk/\aL fm)(ht:aL tk/\aL tm)(ha:aL a)(hn:aL n)(ku:0<=n)(r8:∀y∈l,aL y)(hl:aA h<=100000):
 aQ aM 87 #[π vb,bQ #[ν fk,ν fm],bQ #[ν tk,ν tm],ν a,ν n] w (Uh vb p M A room l h (l9 fk fm tk tm a n) w):=by
 have Mq: -n<=9223372036854775807/\-9223372036854775808<=-n:=by unfold aL at hn;omega
 have hIn:aL (-n):=by unfold aL;omega
 have ag:Hid (β w (((w.alloc (aK #[ν fk,ν fm] 51)).alloc (aK #[ν tk,ν tm] 51)).alloc (aK #[ν fk,ν fm,ν a,ν (-n),ν tk,ν tm,ν a,ν n] 103))):=η ((σ.alloc (by simp) _).alloc (by simp;omega) _);have JX:=η (H.below ag.o);have pA:Hid (aW (((w.alloc (aK #[ν fk,ν fm] 51)).alloc (aK #[ν tk,ν tm] 51)).alloc (aK #[ν fk,ν fm,ν a,ν (-n),ν tk,ν tm,ν a,ν n] 103)) (((w.alloc (aK #[ν fk,ν fm] 51)).alloc (aK #[ν tk,ν tm] 51)).alloc (aK #[ν fk,ν fm,ν a,ν (-n),ν tk,ν tm,ν a,ν n] 103)).heap.size (aC ⟨w.heap.size+2,0,aB⟩) (qo (l9 fk fm tk tm a n))):=η (by
  have h1:=a7I ((w.alloc (aK #[ν fk,ν fm] 51)).alloc (aK #[ν tk,ν tm] 51)) 103 (qo (l9 fk fm tk tm a n));have e:((w.alloc (aK #[ν fk,ν fm] 51)).alloc (aK #[ν tk,ν tm] 51)).heap.size=w.heap.size+2:=by simp
  rw [e] at h1;exact h1)
 have Ci:=η (YW vb p M A room l h (l9 fk fm tk tm a n) (aC ⟨w.heap.size+2,0,aB⟩) 2 _ JX.o pA.o (by
  intro x hx;simp only [l9,fE,List.not_mem_nil,or_false] at hx;rcases hx with rfl|rfl
  ·exact⟨hf.1,hf.2,ha,hIn⟩
  exact⟨ht.1,ht.2,ha,hn⟩) r8 hl (by simp [l9]))
 have hwr:aF.wrap (-n)= -n:=sj _ (by omega);go_enter func87,ntmps87
 go_wp2_with (go_at_call 50;refine Ci.o.mono ?_;rintro e w4 ⟨p',rfl,hv4,qO,j6⟩;have Om:=η hv4;have GG:=η qO;have jS:=η j6)
 go_ret;refine⟨p',rfl,Om.o,(bC.bZ _ ag.o).trans GG.o (λk hk=>aS hk),λk hk=>(jS.o k hk).imp id (λh=>bz ag.o.size h)⟩
def qm(a b:Int):Int:=if a<b then-1 else if b<a then 1 else 0
theorem XD(a:Int)(w:aJ):aQ aM 249 #[aG aF a] w λe w'=>e=aT (bJ aP)/\w=w':=by
 go_enter func249,ntmps249
 go_wp2
 go_ret;exact⟨rfl,rfl⟩
theorem V6(a b:Int)(w:aJ):aQ aM 213 #[aG aF a,aG aF b] w λe w'=>e=aT (aG aF (qm a b))/\w=w':=by
 unfold qm;by_cases h1:a<b
 ·rw [ifP h1];go_enter UT,Ub
  go_wp2_with (go_at_call 249;refine(XD _ _).mono ?_;rintro e w' ⟨rfl,rfl⟩)
  go_ret;exact⟨rfl,rfl⟩
 rw [ifN h1];have uW:b<=a:=by omega
 by_cases h2:b<a
 ·rw [ifP h2];go_enter UT,Ub
  go_wp2_with (go_at_call 249;refine(XD _ _).mono ?_;rintro e w' ⟨rfl,rfl⟩)
  go_ret;exact⟨rfl,rfl⟩
 rw [ifN h2];have uX:a<=b:=by omega
 go_enter UT,Ub
 go_wp2_with (go_at_call 249;refine(XD _ _).mono ?_;rintro e w' ⟨rfl,rfl⟩)
 go_ret;exact⟨rfl,rfl⟩
theorem a8A(r:Hr)(i:Int)(w:aJ):aQ aM 212 #[bQ #[aG aF r.i,aG aF r.s,aG aF r.m,aG aF r.a,aG aF r.n],aG aF i] w λe w'=>e=aT (aG aF (qm r.i i))/\aY w.heap.size w w':=by
 have hx:(w.alloc (aK #[ν r.i,ν r.s,ν r.m,ν r.a,ν r.n] 188)).cell? ⟨w.heap.size,0,aB⟩=aC (ν r.i):=cL w _ _ 0 rfl;go_enter func212,ntmps212
 go_wp2_with (go_at_call 213;refine(V6 _ _ _).mono ?_;rintro e w' ⟨rfl,rfl⟩)
 go_ret;exact⟨rfl,(aX _ _).alloc (aa _) _⟩
def qC(L:List Hr):Prop:=L.Pairwise (λx y=>x.i<y.i)
def Dx(L:List Hr)(i:Int):Nat:=L.findIdx λr=>decide (i<=r.i)
def vu(L:List Hr)(i:Int):Bool:=L.any λr=>r.i==i
theorem Xk {L:List Hr} {i:Int} {k:Nat}(hk:k<=aA L)(h1:∀j (hj:j<aA L),j<k->L[j].i<i)(h2:∀(hj:k<aA L),i<=L[k].i):Dx L i=k:=by
 unfold Dx;rcases rW k (aA L) with h|h
 ·rw [List.findIdx_eq h];exact⟨by simpa using h2 h,λj hj=>by simpa using h1 j (by omega) hj⟩
 have e:k=aA L:=by omega
 rw [e,List.findIdx_eq_length];intro x hx;obtain⟨j,hj,rfl⟩:=tB.1 hx;simpa using h1 j hj (by omega)
theorem a4p {L:List Hr} {i:Int}(hu:qC L) {k:Nat}(hk:k<=aA L)(h1:∀j (hj:j<aA L),j<k->L[j].i<i)(h2:∀(hj:k<aA L),i<=L[k].i):vu L i=(decide (k<aA L)&&(match L[k]? with|some r=>decide (r.i=i)|none=>aP)):=by
 unfold vu;rcases rW k (aA L) with h|h
 ·rw [iE h];simp only [h,decide_true,Bool.true_and];by_cases e:L[k].i=i
  ·simp only [e,decide_true];exact kA.2 ⟨_,cH h,by simpa using e⟩
  simp only [e,decide_false];rw [zQ];intro x hx;obtain⟨j,hj,rfl⟩:=tB.1 hx;have h3:=h2 h;rcases Nat.lt_trichotomy j k with hjk|hjk|hjk
  ·have:=h1 j hj hjk;simp;omega
  ·subst hjk;simpa using e
  have:=vF.1 hu k j h hj hjk;simp;omega
 rw [Ld h];simp only [Iz];rw [zQ];intro x hx;obtain⟨j,hj,rfl⟩:=tB.1 hx;have:=h1 j hj (by omega);simp;omega
theorem aDG(L:List Hr)(i:Int)(A:Option aj)(c:Nat)(w:aJ)(hs:aW w w.heap.size A (s7 L))(hl:aA L<=100000)(hu:qC L):
 aQ aM 211 #[aH A (aA L) c,ν i,.func (.func 212) #[] #[]] w λe w'=>e=aT (bB #[ν (Dx L i:Int),bJ (vu L i)])/\β w w':=by
 have HS:=η hs;have HU:=η hu;have aZ:Hid (β w w):=η (aX _ _);have LG:Hid (∀j (hj:j<aA L),j<0->L[j].i<i):=η (λj hj h=>absurd h (by omega));have L6:Hid (∀j (hj:j<aA L),aA L<=j->i<=L[j].i):=η (λj hj h=>absurd h (by omega));clear hs hu;go_enter func211,ntmps211
 go_wp2_with fail
 go_loopw [9,10,11] (λa b _ wr=>∃lo hi:Nat,lo<=hi/\hi<=aA L/\a=ν (lo:Int)/\b=ν (hi:Int)/\Hid (∀j (hj:j<aA L),j<lo->L[j].i<i)/\Hid (∀j (hj:j<aA L),hi<=j->i<=L[j].i)/\Hid (β w wr)) (λa b _ _=>(af b-af a).toNat)
 case atStart=>exact⟨0,_,bK _,aa _,rfl,rfl,LG,L6,aZ⟩
 case round=>
  clear LG L6 aZ;obtain⟨lo,hi,hlh,WA,rfl,rfl,EK,oZ,HB⟩:=hrel;by_cases hlt:lo<hi
  ·obtain⟨mid,Wb⟩:∃mid:Nat,mid=(lo+hi)/2:=⟨_,rfl⟩;have s6:lo<=mid:=by omega
   have vZ:mid<hi:=by omega
   have zG:Hid (((lo:Int)+(hi:Int))/2=(mid:Int)):=η (by omega);clear Wb;go_upto_region 5 with fail
   rw [zG.o];have ir:mid<aA L:=by omega
   obtain⟨be,oe,rfl,km,e0,e1,e2,e3,e4⟩:=KJ ((HS.o.below HB.o).mono HB.o.size) ir;have HF:=η (λW=>a8A L[mid] i W);have eY:(0:Int)<=(mid:Int):=by omega
   have hkb:(mid:Int)<(aA L:Int):=by omega
   by_cases hc:L[mid].i<i
   ·have a9P:Hid (∀j (hj:j<aA L),j<mid+1->L[j].i<i):=η (λj hj h=>by
     rcases rW j mid with h'|h'
     ·have:=vF.1 HU.o j mid hj ir h';omega
     obtain rfl:j=mid:=by omega
     exact hc)
    have hv:qm L[mid].i i= -1:=by unfold qm;rw [ifP hc]
    rw [hv] at HF;clear hv hc EK;generalize L[mid]=r at*;obtain⟨ri,rs,rm,ra,rn⟩:=r;simp only at e0 e1 e2 e3 e4 HF;go_wp2_with (go_at_call 212;refine(HF.o _).mono ?_;rintro e w2 ⟨rfl,hb2⟩;have aV:Hid (β w w2):=τ HB hb2;clear hb2)
    go_roundw
    case rel=>exact⟨mid+1,hi,by omega,by omega,by go_num,rfl,a9P,oZ,aV⟩
    case measure=>simp [af];omega
   have a9K:Hid (∀j (hj:j<aA L),mid<=j->i<=L[j].i):=η (λj hj h=>by
    rcases rW mid j with h'|h'
    ·have:=vF.1 HU.o mid j ir hj h';omega
    obtain rfl:j=mid:=by omega
    omega)
   have hv:0<=qm L[mid].i i:=by unfold qm;rw [ifN hc];split<;>omega
   clear hc oZ;generalize qm L[mid].i i=cv at*;generalize L[mid]=r at*;obtain⟨ri,rs,rm,ra,rn⟩:=r;simp only at e0 e1 e2 e3 e4 HF;go_wp2_with (go_at_call 212;refine(HF.o _).mono ?_;rintro e w2 ⟨rfl,hb2⟩;have aV:Hid (β w w2):=τ HB hb2;clear hb2)
   go_roundw
   case rel=>exact⟨lo,mid,by omega,by omega,rfl,rfl,EK,a9K,aV⟩
   case measure=>simp [af];omega
  obtain rfl:lo=hi:=by omega
  have hp:=Xk WA EK.o (λhj=>oZ.o _ hj (aa _));have qM:=a4p HU.o WA EK.o (λhj=>oZ.o _ hj (aa _));have HP:=η hp;have HIS:=η qM;clear hp qM;by_cases rz:lo<aA L
  ·obtain⟨be,oe,rfl,km,e0,e1,e2,e3,e4⟩:=KJ ((HS.o.below HB.o).mono HB.o.size) rz;have HF:=η (λW=>a8A L[lo] i W);have eY:(0:Int)<=(lo:Int):=by omega
   have hkb:(lo:Int)<(aA L:Int):=by omega
   have zw:=oZ.o _ rz (aa _);have fZ:Hid (vu L i=decide (L[lo].i=i)):=η (by rw [HIS.o,iE rz];simp [rz]);have Z9:Hid ((qm L[lo].i i==0)=decide (L[lo].i=i)):=η (by
    unfold qm;rw [ifN (by omega)];split
    ·rename_i h;have:L[lo].i≠i:=by omega
     simp [this]
    rename_i h;have:L[lo].i=i:=by omega
    simp [this])
   have HR:Hid (vu L i=(qm L[lo].i i==0)):=η (by rw [fZ.o,Z9.o]);generalize qm L[lo].i i=cv at*;clear fZ Z9 HIS oZ EK zw;generalize L[lo]=r at*;obtain⟨ri,rs,rm,ra,rn⟩:=r;simp only at e0 e1 e2 e3 e4 HF;go_wp2_with (go_at_call 212;refine(HF.o _).mono ?_;rintro e w2 ⟨rfl,hb2⟩;have aV:Hid (β w w2):=τ HB hb2;clear hb2)
   go_ret2;exact⟨by rw [HP.o,HR.o];rfl,aV.o⟩
  have pM:decide ((lo:Int)<(aA L:Int))=aP:=decide_eq_false (by omega);have aGm:decide (lo<aA L)=aP:=decide_eq_false rz;have fZ:Hid (vu L i=aP):=η (by rw [HIS.o,aGm];rfl);go_wp2_with fail
  go_ret2;exact⟨by rw [HP.o,fZ.o];rfl,HB.o⟩
theorem SI(room:Int)(v:aN)(L:List Hr)(i:Int)(tb:Nat)(w:aJ)(h:jE w tb room v L)(hl:aA L<=100000)(hu:qC L):
 aQ aM 172 #[π tb,ν i] w λe w'=>e=aT (bB #[ν (Dx L i:Int),bJ (vu L i)])/\β w w':=by
 have c1:=h.c1;obtain⟨A,c,hv⟩:=bL h.own;subst hv;have HC:=η (aDG L i A c w (aW.cA h.own) hl hu);go_enter func172,ntmps172
 go_wp2_with (go_at_call 211;refine kW HC.o λw2 aV=> ?_)
 go_ret2;exact⟨rfl,aV⟩
def a9A(v:aN)(n:Nat)(xs:List aN)(w:aJ)(e:dU)(w':aJ):Prop:=
 ∃g cap,e=aT (aH (aC ⟨g,0,aB⟩) (n+1) cap)/\w'.ownsRow 0 188 5 (aH (aC ⟨g,0,aB⟩) (n+1) cap) (n+1) xs/\w.grownBy w' v.ownBlock/\(v.ownBlock=aC g\/w.heap.size<=g)
theorem aHG(n:Nat)(xs:List aN)(A:Option aj)(c nb:Nat)(news:List aN)(w:aJ)(hown:w.ownsRow 0 188 5 (aH A n c) n xs)(hl:n<=100000)(pM:aA news=5)(hn:∀j u,news[j]? =aC u->w.cell? ((⟨nb,0,aB⟩:aj).add j)=aC u)(h1:∀u∈news,u.oneCell'=aO):
 aQ aM 173 #[aH A n c,ν (n:Int),aH (aC ⟨nb,0,aB⟩) 1 1] w (a9A (aH A n c) n (xs++news) w):=by
 have xS:n<=c/\c<=bM:=by
  rcases hown.2 with⟨hv,h0⟩|⟨g,cap,cur,hv,_,hb,h3,h4,_⟩
  ·injection hv with e1 e2 e3;rw [e2,e3];simp [bM]
  injection hv with e1 e2 e3;rw [e3];exact⟨h3,h4⟩
 have hAn:A=aB->c=n:=by
  rintro rfl;rcases hown.2 with⟨hv,h0⟩|⟨g,cap,cur,hv,_⟩
  ·injection hv with e1 e2 e3;omega
  injection hv with e1 e2 e3;cases e1
 have aMx:(n:Int)<=(c:Int):=by omega
 have aMy:=xS.1;have ku:(0:Int)<=(n:Int):=by omega
 have HO:=η hown;have HN:=η hn;have H1:=η h1;have rM:=η pM;obtain⟨ih,Qa,a4d,X8,a4e⟩:=dJ XB;have Cm:Hid (∃u,∀W:aJ,(Instr.slice 185 (aH A n c) (aC (ν (n:Int))) aB aB).run aM W= .ok u W):=η (by
  by_cases e:c=n
  ·subst e;refine⟨aH A 0 0,λW=> ?_⟩;cases A<;>go_simp
  cases A with
  |none=>
   exact absurd (hAn rfl) e
  |some a=>exact⟨aH (aC (a.add (n*5))) 0 (c-n),λW=>by go_simp⟩)
 obtain⟨u,hu⟩:=Cm.o;go_enter func173,ntmps173
 go_wp2_with (at_builtin;refine wpList_append_lies _ rfl _ _ 185 rfl 0 188 ih _ 5 40 PL Qa a4d X8 a4e rfl (by omega) (aH A n c) n xs rfl HO.o ⟨nb,0,aB⟩ 1 1 news rfl rM.o HN.o H1.o (by omega) (by simp only [bM];omega) (by omega) (bK _) w.heap.size rfl ?_)
 intro g cap w' hown' hgr hat _;have HO':=η hown';have HG:=η hgr;have HA:=η hat;go_wp2
 go_ret;exact⟨g,cap,rfl,HO'.o,HG.o,HA.o.imp id (λe=>by rw [e];exact aa _)⟩
def a0T(tb:Nat)(room:Int)(v:aN)(L:List Hr)(w:aJ)(e:dU)(w':aJ):Prop:=
 ∃v',e=aT (ν 0)/\jE w' tb room v' L/\bC (λk=>k=tb\/v.ownBlock=aC k) w w'/\∀k,v'.ownBlock=aC k->v.ownBlock=aC k\/w.heap.size<=k
theorem aGq(L:List Hr)(x:Hr):s7 (L++ [x])=s7 L++x.cells:=by simp [s7]
theorem aGr(x:Hr):∀u∈x.cells,u.oneCell'=aO:=by intro u hu;simp [Hr.cells] at hu;rcases hu with rfl|rfl|rfl|rfl|rfl<;>rfl
theorem jE.ne {w:aJ} {tb:Nat} {room:Int} {v:aN} {L:List Hr}(h:jE w tb room v L):v.ownBlock≠aC tb:=gP h.own h.blk (by decide)
theorem aLU(room:Int)(v:aN)(L:List Hr)(x:Hr)(tb:Nat)(w:aJ)(h:jE w tb room v L)(hl:aA L<=99999)(hu:qC L)(hp:Dx L x.i=aA L)(hi:vu L x.i=aP)(hr:(aA L:Int)<room):
 aQ aM 115 #[π tb,ν x.i,bQ #[ν x.s,ν x.m,ν x.a,ν x.n]] w (a0T tb room v (L++ [x]) w):=by
 obtain⟨xi,xs,xm,xa,xn⟩:=x;simp only at hp hi;have aZ:Hid (β w (w.alloc (aK #[ν xs,ν xm,ν xa,ν xn] 113))):=η σ;have HF:=η (SI room v L xi tb _ (h.below aZ.o) (by omega) hu);rw [hp,hi] at HF;have HT:=η (h.below aZ.o);have hz0:w.heap.size<(w.alloc (aK #[ν xs,ν xm,ν xa,ν xn] 113)).heap.size:=by simp
 have HX:Hid ((w.alloc (aK #[ν xs,ν xm,ν xa,ν xn] 113)).heap[w.heap.size]? =aC (aK #[ν xs,ν xm,ν xa,ν xn] 113 (0,0))):=η (cO w _);have FR:=h.lt;have rS:Hid (∀k,v.ownBlock=aC k->k<w.heap.size):=η (λk hk=>(h.own.lt k hk).2);clear h hu hp hi;have zw:decide (room<=(aA L:Int))=aP:=decide_eq_false (by omega);go_enter func115,ntmps115
 go_wp2_with (go_at_call 172;refine HF.o.mono ?_;rintro e w2 ⟨rfl,hb2⟩;have aV:=η hb2;clear hb2)
 generalize w.alloc (aK #[ν xs,ν xm,ν xa,ν xn] 113)=w1 at*;obtain⟨bx,bU⟩:∃bx,bx=w.heap.size:=⟨_,rfl⟩;have dL:=η bU;rw [<-bU] at HX hz0 ⊢;have htx:tb<bx:=by omega
 clear bU;have qY:=η (HT.o.below aV.o);have c0:=qY.o.c0;have c1:=qY.o.c1;obtain⟨A,c,hv⟩:=bL qY.o.own;subst hv;go_quiet (fail)
 have ag:Hid (β w1 (w2.drewN nq)):=η (below_drewN aV.o nq);have zO:Hid (jE (w2.drewN nq) tb room (aH A (aA L) c) L):=η ⟨qY.o.blk,qY.o.own⟩;clear aV qY c0 c1;generalize w2.drewN nq=w3 at*;go_upto_region 8 with fail
 have hz3:bx<w3.heap.size:=cP hz0 ag.o.size;have o8:Hid (w3.heap[bx]? =aC (aK #[ν xs,ν xm,ν xa,ν xn] 113 (0,0))):=η ((ag.o.block bx hz0).trans HX.o);have d0:w3.drew.cell? ⟨tb,1,aB⟩=aC (aH A (aA L) c):=zO.o.c1;obtain⟨d1,d2,d3,d4⟩:=Rm o8;have rR:Hid (jE w3.drew tb room (aH A (aA L) c) L):=η ⟨zO.o.blk,zO.o.own⟩;have ar:Hid (β w1 w3.drew):=η ag.o.drew;have a4X:tb<w3.drew.heap.size:=zO.o.lt;have QM:bx<w3.drew.heap.size:=hz3;have qU:Hid (aC tb≠(aH A (aA L) c).ownBlock):=η (λe=>zO.o.ne e.symm);have bX:Hid (aC bx≠(aH A (aA L) c).ownBlock):=η (λe=>by have:=rS.o bx e.symm;rw [dL.o] at this;omega);obtain⟨r,hr⟩:∃r,r=(aH A (aA L) c).ownBlock:=⟨_,rfl⟩;rw [<-hr] at qU bX;have HR:=η hr;clear hr zO o8 ag;refine Iw (S:=λW=>W.cell? ⟨tb,1,aB⟩=aC (aH A (aA L) c)/\W.cell? ⟨bx,0,aB⟩=aC (ν xs)/\W.cell? ⟨bx,1,aB⟩=aC (ν xm)/\W.cell? ⟨bx,2,aB⟩=aC (ν xa)/\W.cell? ⟨bx,3,aB⟩=aC (ν xn)) 13 (by kernel_rfl) ⟨d0,d1,d2,d3,d4⟩ (λhHeld=> ?_);have bO:Hid (∀W,w3.drew.grownBy W r->W.cell? ⟨tb,1,aB⟩=aC (aH A (aA L) c)/\W.cell? ⟨bx,0,aB⟩=aC (ν xs)/\W.cell? ⟨bx,1,aB⟩=aC (ν xm)/\W.cell? ⟨bx,2,aB⟩=aC (ν xa)/\W.cell? ⟨bx,3,aB⟩=aC (ν xn)):=η λW hg=>⟨(hg.cell_far ⟨tb,1,aB⟩ a4X qU.o).trans d0,(hg.cell_far ⟨bx,0,aB⟩ QM bX.o).trans d1,(hg.cell_far ⟨bx,1,aB⟩ QM bX.o).trans d2,(hg.cell_far ⟨bx,2,aB⟩ QM bX.o).trans d3,(hg.cell_far ⟨bx,3,aB⟩ QM bX.o).trans d4⟩
 clear d0 d1 d2 d3 d4;generalize w3.drew=w4 at*;have B1:Hid (w4.grownBy w4 r):=η (Hl (aX _ _) r);refine eC (i:=0) (v:=π tb) rfl (by kernel_rfl) (by kernel_rfl) (by kernel_rfl) (by kernel_rfl) (by kernel_rfl) (λ_ _ _ h=>h) (aS ⟨by rfl,λw' hSw=>by obtain⟨s0,s1,s2,s3,s4⟩:=hSw;go_simp⟩) hHeld ?_;refine eC (i:=1) (v:=π tb) rfl (by kernel_rfl) (by kernel_rfl) (by kernel_rfl) (by kernel_rfl) (by kernel_rfl) (λ_ _ _ h=>h) (aS ⟨by rfl,λw' hSw=>by obtain⟨s0,s1,s2,s3,s4⟩:=hSw;go_simp⟩) hHeld ?_;refine eC (i:=2) (v:=π tb) rfl (by kernel_rfl) (by kernel_rfl) (by kernel_rfl) (by kernel_rfl) (by kernel_rfl) (λ_ _ _ h=>h) (aS ⟨by rfl,λw' hSw=>by obtain⟨s0,s1,s2,s3,s4⟩:=hSw;go_simp⟩) hHeld ?_;refine eC (i:=3) (v:=bF (aC ⟨tb,1,aB⟩)) rfl (by kernel_rfl) (by kernel_rfl) (by kernel_rfl) (by kernel_rfl) (by kernel_rfl) (λ_ _ _ h=>h) (aS ⟨by rfl,λw' hSw=>by obtain⟨s0,s1,s2,s3,s4⟩:=hSw;go_simp⟩) hHeld ?_;refine eC (i:=4) (v:=aH A (aA L) c) rfl (by kernel_rfl) (by kernel_rfl) (by kernel_rfl) (by kernel_rfl) (by kernel_rfl) (λ_ _ _ h=>h) (aS ⟨by rfl,λw' hSw=>by obtain⟨s0,s1,s2,s3,s4⟩:=hSw;go_simp⟩) hHeld ?_;refine eC (i:=5) (v:=ν (aA L:Int)) rfl (by kernel_rfl) (by kernel_rfl) (by kernel_rfl) (by kernel_rfl) (by kernel_rfl) (λ_ _ _ h=>h) (aS ⟨by rfl,λw' hSw=>by obtain⟨s0,s1,s2,s3,s4⟩:=hSw;go_simp⟩) hHeld ?_;refine eC (i:=6) (v:=ν xi) rfl (by kernel_rfl) (by kernel_rfl) (by kernel_rfl) (by kernel_rfl) (by kernel_rfl) (λ_ _ _ h=>h) (aS ⟨by rfl,λw' hSw=>by obtain⟨s0,s1,s2,s3,s4⟩:=hSw;go_simp⟩) hHeld ?_;refine eC (i:=7) (v:=bQ #[ν xs,ν xm,ν xa,ν xn]) rfl (by kernel_rfl) (by kernel_rfl) (by kernel_rfl) (by kernel_rfl) (by kernel_rfl) (λ_ _ _ h=>h) (aS ⟨by rfl,λw' hSw=>by obtain⟨s0,s1,s2,s3,s4⟩:=hSw;go_simp⟩) hHeld ?_;refine eC (i:=8) (v:=bQ #[ν xi,ν xs,ν xm,ν xa,ν xn]) rfl (by kernel_rfl) (by kernel_rfl) (by kernel_rfl) (by kernel_rfl) (by kernel_rfl) (λ_ _ _ h=>h) (aS ⟨by rfl,λw' hSw=>by obtain⟨s0,s1,s2,s3,s4⟩:=hSw;go_simp⟩) hHeld ?_;clear hHeld;refine nx (rs:= [9]) (by kernel_rfl) (by simp) ?_;refine ei.cons rfl (λK hK=> ?_) ei.nil;go_simp
 have B2:Hid (w4.grownBy (w4.alloc (aK #[ν xi,ν xs,ν xm,ν xa,ν xn] 188)) r):=η (Q9 B1.o _);have ez:=η (rR.o.own.alloc (aK #[ν xi,ν xs,ν xm,ν xa,ν xn] 188));have om:=η (dK w4 188 #[ν xi,ν xs,ν xm,ν xa,ν xn] rfl);refine hK.o _ _ (λ_=>bO.o _ B2.o) (λ_=> ?_);clear hK K;have L9:=η (aHG (aA L) (s7 L) A c w4.heap.size [ν xi,ν xs,ν xm,ν xa,ν xn] _ ez.o (by omega) rfl om.o (aGr ⟨xi,xs,xm,xa,xn⟩));generalize (w4.alloc (aK #[ν xi,ν xs,ν xm,ν xa,ν xn] 188))=w5 at*;refine nx (rs:= [10]) (by kernel_rfl) (by simp) ?_;refine ei.cons rfl (λK hK=> ?_) ei.nil;go_simp
 go_at_call 173
 refine L9.o.mono ?_;rintro e w6 ⟨g,cap,rfl,ye,xQ,ha6⟩;have jh:=η ye;have B4:Hid (w4.grownBy w6 r):=η (Et B2.o xQ (aS HR.o.symm));have Z2:Hid ((aH A (aA L) c).ownBlock=aC g\/w4.heap.size<=g):=η (ha6.imp id (λe=>bz B2.o.size e));clear ye xQ ha6;go_wp2_with fail
 refine hK.o _ _ (λ_=>bO.o _ B4.o) (λ_=> ?_);clear hK K;refine eC (i:=11) (v:=π tb) rfl (by kernel_rfl) (by kernel_rfl) (by kernel_rfl) (by kernel_rfl) (by kernel_rfl) (λ_ _ _ h=>h) (aS ⟨by rfl,λw' hSw=>by obtain⟨s0,s1,s2,s3,s4⟩:=hSw;go_simp⟩) (bO.o _ B4.o) ?_;refine eC (i:=12) (v:=bF (aC ⟨tb,1,aB⟩)) rfl (by kernel_rfl) (by kernel_rfl) (by kernel_rfl) (by kernel_rfl) (by kernel_rfl) (λ_ _ _ h=>h) (aS ⟨by rfl,λw' hSw=>by obtain⟨s0,s1,s2,s3,s4⟩:=hSw;go_simp⟩) (bO.o _ B4.o) ?_;refine nx (rs:= [13]) (by kernel_rfl) (by simp) ?_;refine ei.cons rfl (λK hK=> ?_) ei.nil;have c1:=(bO.o _ B4.o).1;have iM:=(B4.o.block tb a4X qU.o).trans rR.o.blk;have hf6:w6.frozen? ⟨tb,1,aB⟩=aP:=by simp [iK,iM]
 have ew:=η iM;clear iM;go_simp
 refine hK.o _ _ (λh=>absurd rfl h) (λ_=> ?_);clear hK K;refine Iu (by kernel_rfl) ?_ _;go_wp2_with fail
 go_ret;have Hy:g≠tb:=by
  rintro rfl;rcases Z2.o with e|e
  ·exact qU.o (by rw [HR.o,e])
  omega
 refine⟨aH (aC ⟨g,0,aB⟩) (aA L+1) cap,rfl,⟨(lu ew.o 1 _).trans rfl, ?_⟩, ?_, ?_⟩
 ·rw [cN,aGq];exact kK jh.o (λe=>Hy (by simpa [dy] using e)) _
 ·have h1:bC (λk=>k=tb\/(aH A (aA L) c).ownBlock=aC k) w w4:=bC.bZ _ (aZ.o.trans (ar.o.mono aZ.o.size));have h2:bC (λk=>k=tb\/(aH A (aA L) c).ownBlock=aC k) w4 w6:=bC.IZ B4.o (λk hk=>aS (aU (by rw [<-HR.o];exact hk)));exact(h1.trans h2 (λk hk=>aS hk)).setCell (p:=⟨tb,1,aB⟩) (aS (aS rfl)) _
 intro k hk;have e:k=g:=by simpa [dy] using hk.symm
 subst e;rcases Z2.o with e|e
 ·exact aS e
 exact aU (bz (bz aZ.o.size ar.o.size) e)
theorem aKX(xs us:List aN)(u:aN)(j:Nat)(hj:j<aA xs):(xs.set j u).take (j+1)++us++(xs.set j u).drop (j+1+aA us)=xs.take j++(u::us)++xs.drop (j+(aA us+1)):=by
 have e1:(xs.set j u).take (j+1)=xs.take j++ [u]:=by rw [fF (by simpa using hj),a0G,List.take_set_of_le (aa _)]
 have e2:(xs.set j u).drop (j+1+aA us)=xs.drop (j+(aA us+1)):=by rw [List.drop_set_of_lt (by omega)];congr 1;omega
 rw [e1,e2];simp
theorem Xd {base:Nat} {e:bY} {size g n cap:Nat}:∀(us:List aN) (j:Nat) (w:aJ) (xs:List aN),w.ownsRow base e size (aH (aC ⟨g,0,aB⟩) n cap) n xs->j+aA us<=aA xs->
 (w.setCells g j us).ownsRow base e size (aH (aC ⟨g,0,aB⟩) n cap) n (xs.take j++us++xs.drop (j+aA us))/\w.grownBy (w.setCells g j us) (aC g)
 | [],j,w,xs,h,_=>by simpa [World.setCells] using ⟨h,Hl (aX _ _) (aC g)⟩
 |u::us,j,w,xs,h,hj=>by
  have hj':j<aA xs:=by simp at hj;omega
  obtain⟨h1,h2⟩:=h.stored j u;obtain⟨h3,h4⟩:=Xd us (j+1) _ _ h1 (by simp at hj ⊢;omega);rw [aKX xs us u j hj'] at h3;exact⟨h3,Et h2 h4 (aS rfl)⟩
theorem aJ8 {w:aJ} {base:Nat} {e:bY} {size g n cap:Nat} {xs:List aN}(h:w.ownsRow base e size (aH (aC ⟨g,0,aB⟩) (n+1) cap) (n+1) xs):w.ownsRow base e size (aH (aC ⟨g,0,aB⟩) n cap) n (xs.take (n*size)):=by
 rcases h.2 with⟨hv,h0⟩|⟨g',cap',cur,hv,hb,h2,h3,h4,h5,h6⟩
 ·cases hv
 refine⟨?_,aU ⟨g',cap',cur, ?_,hb,h2,by omega,h4,h5, ?_⟩⟩
 ·rw [vD,h.1];have:n*size<=(n+1)*size:=Ec _ (by omega);omega
 ·injection hv with e1 e2 e3;rw [e1,e3]
 rw [<-h6,aA2];congr 1;have:n*size<=(n+1)*size:=Ec _ (by omega);omega
def Z5:List aN:= [aG aF 0,aG aF 0,aG aF 0,aG aF 0,aG aF 0]
theorem aDv(w:aJ)(ty:bY)(b o c:Nat)(hc:∀j,j<5->(w.cell? ⟨b,o+j,aB⟩).isSome=aO)(hf:∀j,j<5->w.frozen? ⟨b,o+j,aB⟩=aP):
 (Yl #[185] ty #[aH (aC ⟨b,o,aB⟩) 1 c]).run aM w= .ok (bB #[]) (w.setCells b o Z5):=by
 have hzc:(EA (Value.agg #[ν 0,ν 0,ν 0,ν 0,ν 0]).cells 1).toList=Z5:=by kernel_rfl
 have hst:=run_storeCells_cells (P:=aM) b o Z5 0 w (by simpa [Z5] using hc) (by simpa [Z5] using hf) (by intro v hv;simp [Z5] at hv;subst hv;rfl);simp only [GY] at hst;simp [Yl,run_underlying PL,hzc,hst]
def Yr(g n cap:Nat)(xs:List aN)(w:aJ)(e:dU)(w':aJ):Prop:=
 e=aT (aH (aC ⟨g,0,aB⟩) n cap)/\w'.ownsRow 0 188 5 (aH (aC ⟨g,0,aB⟩) n cap) n xs/\w.grownBy w' (aC g)
theorem aEw(n g cap:Nat)(x xs:List aN)(w:aJ)(hx:aA x=5)(h1:∀u∈xs,u.oneCell'=aO)(hown:w.ownsRow 0 188 5 (aH (aC ⟨g,0,aB⟩) (n+1) cap) (n+1) (x++xs))(hl:n<=100000):
 aQ aM 182 #[aH (aC ⟨g,0,aB⟩) (n+1) cap,ν 0,ν 1] w (Yr g n cap xs w):=by
 have nD:aA xs=n*5:=by have:=hown.1;rw [cN,hx] at this;omega
 have F5:n+1<=cap/\cap<=bM:=by
  rcases hown.2 with⟨hv,h0⟩|⟨g',cap',cur,hv,_,hb,h3,h4,_⟩
  ·cases hv
  injection hv with e1 e2 e3;rw [e3];exact⟨h3,h4⟩
 have hcm:(cap:Int)<=9223372036854775807:=by have:=F5.2;unfold bM at this;omega
 have hc1:(n:Int)+1<=(cap:Int):=by omega
 have Mx:w.drew.ownsRow 0 188 5 (aH (aC ⟨g,0,aB⟩) (n+1) cap) (n+1) (x++xs):=hown.drew;obtain⟨A,hA,a9b⟩:∃A:aj,(if cap=1 then aC (⟨g,0,aB⟩:aj) else aC ⟨g,5,aB⟩)=aC A/\Hid (∀t u,xs[t]? =aC u->w.drew.cell? (A.add t)=aC u):=by
  by_cases h:cap=1
  ·refine⟨⟨g,0,aB⟩,by simp [h],λt u hu=> ?_⟩;have h0:xs= []:=nO (by omega);rw [h0] at hu;simp at hu
  refine⟨⟨g,5,aB⟩,by simp [h],λt u hu=> ?_⟩;have ht:t<aA xs:=(zR.1 hu).1;have ea:(⟨g,5,aB⟩:aj).add t=⟨g,5+t,aB⟩:=by unfold Addr.add;split<;>simp_all
  rw [ea,Mx.cellAt (5+t) (by omega),List.getElem?_append_right (by omega),hx,Nat.add_sub_cancel_left];exact hu
 obtain⟨o1,g1⟩:=Xd xs 0 w.drew (x++xs) Mx (by rw [cN];omega);have oK:aA (UG 0 (x++xs)++xs++U9 (0+aA xs) (x++xs))=n*5+5:=by simp only [nQ,GQ,cN,List.length_drop,hx,nD];omega
 obtain⟨o2,g2⟩:=Xd Z5 (n*5) _ _ o1 (by rw [oK];simp [Z5]);have kN:Hid (((w.drew.setCells g 0 xs).setCells g (n*5) Z5).ownsRow 0 188 5 (aH (aC ⟨g,0,aB⟩) n cap) n xs):=η (by
  have h2:=aJ8 o2;have e:(UG (n*5) (UG 0 (x++xs)++xs++U9 (0+aA xs) (x++xs))++Z5++U9 (n*5+aA Z5) (UG 0 (x++xs)++xs++U9 (0+aA xs) (x++xs))).take (n*5)=xs:=by simp only [nQ,GQ];rw [List.append_assoc,a0J (by rw [vD,cN];omega),aA2,Nat.min_self,a0J (by omega),List.take_of_length_le (by omega)]
  rw [e] at h2;exact h2)
 have ZN:Hid (w.grownBy ((w.drew.setCells g 0 xs).setCells g (n*5) Z5) (aC g)):=η (Et (Et (Hl (aX _ _).drew (aC g)) g1 (aS rfl)) g2 (aS rfl));have hsp:Hid (∀j,j<aA xs->(w.drew.cell? ⟨g,0+0*5+j,aB⟩).isSome=aO/\w.drew.frozen? ⟨g,0+0*5+j,aB⟩=aP):=η (λj hj=>by
  have e0:0+0*5+j=j:=by omega
  rw [e0];exact⟨by rw [Mx.cellAt j (by omega),iE (by rw [cN];omega)];rfl,Mx.frozenAt j⟩)
 obtain⟨W1,hW1⟩:=xq (w.drew.setCells g 0 xs);rw [<-hW1] at kN ZN o1
 have jY:∀ty,(Yl #[185] ty #[aH (aC ⟨g,n*5,aB⟩) 1 (cap-n)]).run aM W1= .ok (bB #[]) (W1.setCells g (n*5) Z5):=λty=>aDv W1 ty g (n*5) _
  (λj hj=>by rw [o1.cellAt (n*5+j) (by omega),iE (by rw [oK];omega)];rfl) (λj _=>o1.frozenAt _)
 have HW:Hid (W1=w.drew.setCells g (0+0*5) xs):=η hW1;have U1:=η nD;have H1:=η h1;obtain⟨ih,Qa,a4d,X8,a4e⟩:=dJ XB;have h11:(1:Int)<=(n:Int)+1:=by omega
 clear hown Mx o1 o2 g1 g2 oK hW1 nD h1 hx;go_enter func182,ntmps182
 go_wp2
 go_region_law (refine step_append_room rfl (.tmp 22) (.tmp 25) 185 rfl 188 ih 5 PL Qa X8 g 0 0 cap (by simp [Act.eval,Act.put]) A n (cap-1) xs (by simp [Act.eval,Act.put]) U1.o a9b.o H1.o (by omega) hsp.o ?_;rw [<-HW.o])
 have jJ:(0:Int)<=(n:Int):=by omega
 go_wp2
 go_ret;exact⟨rfl,kN.o,ZN.o⟩
theorem aLN(room:Int)(v:aN)(L:List Hr)(i:Int)(tb:Nat)(w:aJ)(h:jE w tb room v L)(hl:aA L<=100000)(hu:qC L)(hi:vu L i=aP):
 aQ aM 113 #[π tb,ν i] w λe w'=>e=aT (bB #[bQ #[ν 0,ν 0,ν 0,ν 0],ν 8])/\β w w':=by
 have aZ:Hid (β w (w.alloc (aK #[ν 0,ν 0,ν 0,ν 0] 113))):=η σ;have HF:=η (SI room v L i tb _ (h.below aZ.o) hl hu);rw [hi] at HF;have HX:Hid ((w.alloc (aK #[ν 0,ν 0,ν 0,ν 0] 113)).heap[w.heap.size]? =aC (aK #[ν 0,ν 0,ν 0,ν 0] 113 (0,0))):=η (cO w _);have hz0:w.heap.size<(w.alloc (aK #[ν 0,ν 0,ν 0,ν 0] 113)).heap.size:=by simp
 go_enter aAY,aBL
 go_wp2_with (go_at_call 172;refine HF.o.mono ?_;rintro e w2 ⟨rfl,hb2⟩;have aV:=η hb2;have hx2:=(hb2.block w.heap.size hz0).trans HX.o;have c0:w2.cell? ⟨w.heap.size,0,aB⟩=aC (ν 0):=ρ hx2;have c1:w2.cell? ⟨w.heap.size,1,aB⟩=aC (ν 0):=ρ hx2;have c2:w2.cell? ⟨w.heap.size,2,aB⟩=aC (ν 0):=ρ hx2;have c3:w2.cell? ⟨w.heap.size,3,aB⟩=aC (ν 0):=ρ hx2;have fz:∀j,w2.frozen? ⟨w.heap.size,j,aB⟩=aP:=(λj=>by simp [iK,hx2]);have hz2:w.heap.size<w2.heap.size:=cP hz0 hb2.size)
 have wM:=η (aZ.o.trans (aV.o.mono aZ.o.size));refine bodyPost_ret (v:=bB #[bQ #[ν 0,ν 0,ν 0,ν 0],ν 8]) (by simp [results,aC4,go_sem,c0,c1,c2,c3,hz2]) rfl ⟨rfl, ?_⟩;repeat (first|exact wM.o|refine E8 ?_ (by simp) _|refine rF ?_ (by simp;omega) _)
theorem aLM(room:Int)(v:aN)(L:List Hr)(k:Nat)(hk:k<aA L)(tb:Nat)(w:aJ)(h:jE w tb room v L)(hl:aA L<=100000)(hu:qC L):
 aQ aM 113 #[π tb,ν L[k].i] w λe w'=>e=aT (bB #[bQ #[ν L[k].s,ν L[k].m,ν L[k].a,ν L[k].n],ν 0])/\β w w':=by
 have h1:∀j (hj:j<aA L),j<k->L[j].i<L[k].i:=λj hj hjk=>vF.1 hu j k hj hk hjk
 have aZ:Hid (β w (w.alloc (aK #[ν 0,ν 0,ν 0,ν 0] 113))):=η σ;have HF:=η (SI room v L L[k].i tb _ (h.below aZ.o) hl hu);have hp:=Xk (by omega) h1 (λ_=>dM _);have hi:=a4p hu (by omega) h1 (λ_=>dM _);rw [iE hk] at hi;simp only [hk,decide_true,Bool.and_self] at hi;rw [hp,hi] at HF;have HT:=η (h.below aZ.o);have HX:Hid ((w.alloc (aK #[ν 0,ν 0,ν 0,ν 0] 113)).heap[w.heap.size]? =aC (aK #[ν 0,ν 0,ν 0,ν 0] 113 (0,0))):=η (cO w _);have hz0:w.heap.size<(w.alloc (aK #[ν 0,ν 0,ν 0,ν 0] 113)).heap.size:=by simp
 obtain⟨A,c,hv⟩:=bL h.own;subst hv;obtain⟨be,oe,rfl,km,_,_,_,_,_⟩:=KJ (aW.cA h.own) hk;have hkb:(k:Int)<(aA L:Int):=by omega
 have eY:(0:Int)<=(k:Int):=by omega
 go_enter aAY,aBL
 go_wp2_with (go_at_call 172;refine HF.o.mono ?_;rintro e w2 ⟨rfl,hb2⟩;have aV:=η hb2;have hx2:=(hb2.block w.heap.size hz0).trans HX.o;have c0:w2.cell? ⟨w.heap.size,0,aB⟩=aC (ν 0):=ρ hx2;have c1:w2.cell? ⟨w.heap.size,1,aB⟩=aC (ν 0):=ρ hx2;have c2:w2.cell? ⟨w.heap.size,2,aB⟩=aC (ν 0):=ρ hx2;have c3:w2.cell? ⟨w.heap.size,3,aB⟩=aC (ν 0):=ρ hx2;have fz:∀j,w2.frozen? ⟨w.heap.size,j,aB⟩=aP:=(λj=>by simp [iK,hx2]);have hz2:w.heap.size<w2.heap.size:=cP hz0 hb2.size;have ct:=(HT.o.below hb2).c1;obtain⟨b',o',hA',aGD,_,e1,e2,e3,e4⟩:=KJ (aW.cA (HT.o.below hb2).own) hk;injection hA' with hA';injection hA' with MR MS;subst MR MS)
 have wM:=η (aZ.o.trans (aV.o.mono aZ.o.size));refine bodyPost_ret (v:=bB #[bQ #[ν L[k].s,ν L[k].m,ν L[k].a,ν L[k].n],ν 0]) (by simp [results,aC4,go_sem,c0,c1,c2,c3]) rfl ⟨rfl, ?_⟩;repeat (first|exact wM.o|refine E8 ?_ (by simp) _|refine rF ?_ (by simp;omega) _)
theorem aJf(x:Hr)(L:List Hr):Dx (x::L) x.i=0:=by unfold Dx;rw [List.findIdx_cons];simp
theorem aHH(x:Hr)(L:List Hr):vu (x::L) x.i=aO:=by unfold vu;simp
def aAV(tb:Nat)(room:Int)(v:aN)(L:List Hr)(w:aJ)(w':aJ):Prop:=
 ∃v',jE w' tb room v' L/\bC (λk=>k=tb\/v.ownBlock=aC k) w w'/\∀k,v'.ownBlock=aC k->v.ownBlock=aC k\/w.heap.size<=k
theorem aLL(room:Int)(v:aN)(x:Hr)(L:List Hr)(tb:Nat)(w:aJ)(h:jE w tb room v (x::L))(hl:aA L<=99999)(hu:qC (x::L)):
 aQ aM 126 #[π tb,ν x.i] w λe w'=>e=aT (bB #[bQ #[ν x.s,ν x.m,ν x.a,ν x.n],ν 0])/\aAV tb room v L w w':=by
 have HU:=η hu;have aZ:Hid (β w (w.alloc (aK #[ν 0,ν 0,ν 0,ν 0] 113))):=η σ;have HT:=η (h.below aZ.o);have FR:=h.lt;have OU:=η h.ne;have HG:=η (aLM room v (x::L) 0 (by simp) tb _ HT.o (by simp;omega) hu);rw [List.getElem_cons_zero] at HG;have Qj:0<aA (x::L):=by simp
 obtain⟨g,cap,hv,hg0,kG⟩:=h.own.form Qj;subst hv;have HX:Hid ((w.alloc (aK #[ν 0,ν 0,ν 0,ν 0] 113)).heap[w.heap.size]? =aC (aK #[ν 0,ν 0,ν 0,ν 0] 113 (0,0))):=η (cO w _);have hz0:w.heap.size<(w.alloc (aK #[ν 0,ν 0,ν 0,ν 0] 113)).heap.size:=by simp
 have Hy:g≠tb:=λe=>OU.o (by rw [e];rfl)
 go_enter func126,ntmps126
 have JD:Hid (∀W,jE W tb room (aH (aC ⟨g,0,aB⟩) (aA (x::L)) cap) (x::L)->aQ aM 172 #[π tb,ν x.i] W λe w'=>e=aT (bB #[ν 0,bJ aO])/\β W w'):=η λW hW=>by have h1:=SI room _ (x::L) x.i tb W hW (by simp;omega) HU.o;rw [aJf,aHH] at h1;exact h1
 have Fw:Hid (∀W,jE W tb room (aH (aC ⟨g,0,aB⟩) (aA (x::L)) cap) (x::L)->aQ aM 182 #[aH (aC ⟨g,0,aB⟩) (aA L+1) cap,ν 0,ν 1] W (Yr g (aA L) cap (s7 L) W)):=η λW hW=>by
  refine aEw (aA L) g cap x.cells (s7 L) W rfl (Wo L) ?_ (by omega);have h2:=hW.own;have e:s7 (x::L)=x.cells++s7 L:=by simp [s7]
  rw [e,uL] at h2;exact h2
 have hsx:w.heap.size≠tb:=by omega
 go_wp2_with (first|(go_at_call 113;refine HG.o.mono ?_;rintro e w2 ⟨rfl,hb2⟩;have aV:=η hb2;have qY:=η (HT.o.below hb2);have zO:=η (qY.o.below ((aX _ _).alloc (aa _) (aK #[ν x.s,ν x.m,ν x.a,ν x.n] 113)));have HY:=η (cO w2 (aK #[ν x.s,ν x.m,ν x.a,ν x.n] 113));have ag:=η (rF hb2 hb2.size (aK #[ν x.s,ν x.m,ν x.a,ν x.n] 113));have hzy:w2.heap.size<(w2.alloc (aK #[ν x.s,ν x.m,ν x.a,ν x.n] 113)).heap.size:=(by simp);have hz2:w.heap.size<w2.heap.size:=cP hz0 hb2.size)|(go_at_call 172;refine(JD.o _ zO.o).mono ?_;rintro e w4 ⟨rfl,hb4⟩;have ar:=η hb4;have rR:=η (zO.o.below hb4);have ct:=rR.o.c1)|(go_at_call 182;refine(Fw.o _ rR.o).mono ?_;rintro e w5 ⟨rfl,iW,ej⟩;have ez:=η iW;have B2:=η ej;have cd:=(ej.block tb rR.o.lt (by simp;omega)).trans rR.o.blk;have a9C:=η cd;have ct5:w5.cell? ⟨tb,1,aB⟩=aC (aH (aC ⟨g,0,aB⟩) (aA L+1) cap):=ρ cd;have cf5:w5.frozen? ⟨tb,1,aB⟩=aP:=(by simp [iK,cd]);have aN3:tb<w5.heap.size:=(fX.1 cd).1;have hy4:=(ar.o.block w2.heap.size hzy).trans HY.o;have R5:=(ej.block w2.heap.size (cP hzy ar.o.size) (by simp;omega)).trans hy4;have hx2:=(ag.o.block w.heap.size hz0).trans HX.o;have X2:=(ar.o.block w.heap.size (cP hz0 ag.o.size)).trans hx2;have FV:=(ej.block w.heap.size (cP (cP hz0 ag.o.size) ar.o.size) (by simp;omega)).trans X2;have y0:w5.cell? ⟨w2.heap.size,0,aB⟩=aC (ν x.s):=ρ R5;have y1:w5.cell? ⟨w2.heap.size,1,aB⟩=aC (ν x.m):=ρ R5;have y2:w5.cell? ⟨w2.heap.size,2,aB⟩=aC (ν x.a):=ρ R5;have y3:w5.cell? ⟨w2.heap.size,3,aB⟩=aC (ν x.n):=ρ R5;have x0:w5.cell? ⟨w.heap.size,0,aB⟩=aC (ν 0):=ρ FV;have x1:w5.cell? ⟨w.heap.size,1,aB⟩=aC (ν 0):=ρ FV;have x2:w5.cell? ⟨w.heap.size,2,aB⟩=aC (ν 0):=ρ FV;have x3:w5.cell? ⟨w.heap.size,3,aB⟩=aC (ν 0):=ρ FV;have fx:∀j,w5.frozen? ⟨w.heap.size,j,aB⟩=aP:=(λj=>by simp [iK,FV]);have jJ:¬w2.heap.size=tb:=(by omega);have oL:¬w.heap.size=tb:=(by omega);have nh:¬w.heap.size=w2.heap.size:=(by omega)))
 have cC:Hid (β w w4):=η ((aZ.o.trans (ag.o.mono aZ.o.size)).trans (ar.o.mono (bz aZ.o.size ag.o.size)));have Ts:Hid (jE (w5.setCell ⟨tb,1,aB⟩ (aH (aC ⟨g,0,aB⟩) (aA L) cap)) tb room (aH (aC ⟨g,0,aB⟩) (aA L) cap) L):=η ⟨(lu a9C.o 1 _).trans rfl,kK ez.o (λe=>Hy (by simpa [dy] using e)) _⟩
 have HU6:Hid (bC (λk=>k=tb\/(aH (aC ⟨g,0,aB⟩) (aA L+1) cap).ownBlock=aC k) w (w5.setCell ⟨tb,1,aB⟩ (aH (aC ⟨g,0,aB⟩) (aA L) cap))):=η
  (((bC.bZ _ cC.o).trans (S':=λk=>k=tb\/(aH (aC ⟨g,0,aB⟩) (aA L+1) cap).ownBlock=aC k) (bC.IZ B2.o (λk hk=>aS (aU hk))) (λk hk=>aS hk)).setCell (p:=⟨tb,1,aB⟩) (aS (aS rfl)) _)
 have hgx:g≠w.heap.size:=by omega
 refine bodyPost_ret (v:=bB #[bQ #[ν x.s,ν x.m,ν x.a,ν x.n],ν 0]) (by simp [results,results126,go_sem,x0,x1,x2,x3]) rfl ⟨rfl,aH (aC ⟨g,0,aB⟩) (aA L) cap, ?_, ?_,λk hk=>aS hk⟩
 ·refine Ts.o.upd (S:=λk=>k=w.heap.size) ?_ (λe=>oL e.symm) (λk hk e=>hgx ((show g=k by simpa [dy] using hk).trans e));exact((((bC.refl (λk=>k=w.heap.size) _).setCell (p:=⟨w.heap.size,0,aB⟩) (aS rfl) _).setCell (p:=⟨w.heap.size,1,aB⟩) (aS rfl) _).setCell (p:=⟨w.heap.size,2,aB⟩) (aS rfl) _).setCell (p:=⟨w.heap.size,3,aB⟩) (aS rfl) _
 exact(((HU6.o.setCell (p:=⟨w.heap.size,0,aB⟩) (aU (aa _)) _).setCell (p:=⟨w.heap.size,1,aB⟩) (aU (aa _)) _).setCell (p:=⟨w.heap.size,2,aB⟩) (aU (aa _)) _).setCell (p:=⟨w.heap.size,3,aB⟩) (aU (aa _)) _
def Lu(vb:Nat)(p:Vp)(M A:Nat)(room:Int)(l:List Int)(h:List Hr)(w:aJ)(e:dU)(w':aJ):Prop:=
 ∃tv,e=aT (ν 0)/\gS w' vb {p with tv:=tv} M A room l h/\bC (qE vb p) w w'/\∀k,tv.ownBlock=aC k->p.tv.ownBlock=aC k\/w.heap.size<=k
theorem a2C {w:aJ} {a b:Nat} {c1 c2:Array aN} {t1 t2:bY}(h1:w.heap[a]? =aC (aK c1 t1 (0,0)))(h2:w.heap[b]? =aC (aK c2 t2 (0,0)))(ht:t1≠t2):a≠b:=by rintro rfl;rw [h1] at h2;injection h2 with h2;injection h2 with _ h2;exact ht h2
theorem gS.holds {w w1:aJ} {vb:Nat} {p:Vp} {M A:Nat} {room:Int} {l:List Int} {h h':List Hr} {tv:aN}(H:gS w vb p M A room l h)(ht:jE w1 p.tb room tv h')(hu:bC (λk=>k=p.tb\/p.tv.ownBlock=aC k) w w1):gS w1 vb {p with tv:=tv} M A room l h':=by
 have n1:=a2C H.blk H.tb.blk (by decide);have n2:=a2C H.bk.blk H.tb.blk (by decide);have n3:=gP H.tb.own H.blk (by decide);have n4:=gP H.tb.own H.bk.blk (by decide);have n5:=gP H.bk.own H.tb.blk (by decide);have n6:=Bv H.bk.own H.tb.own (by decide);refine⟨(hu.keep vb H.lt (λe=>e.elim n1 n3)).trans H.blk,H.bk.upd hu (λe=>e.elim n2 n4) (λk hk e=>e.elim (λe=>n5 (e▸hk)) (λe=> ?_)),ht⟩;rcases n6 with n6|n6
 ·rw [hk] at n6;cases n6
 exact n6 (hk.trans e.symm)
theorem qE.a5u {vb:Nat} {p:Vp} {k:Nat}(h:k=p.tb\/p.tv.ownBlock=aC k):qE vb p k:=h.elim (λe=>aU (aU (aU (aS e)))) (λe=>aU (aU (aU (aU e))))
theorem aLe(vb:Nat)(p:Vp)(M A:Nat)(room:Int)(l:List Int)(h:List Hr)(x:Hr)(w:aJ)(H:gS w vb p M A room l h)(r8:∀y∈l,aL y)(hl:aA h<=99999)(hu:qC h)(hp:Dx h x.i=aA h)(hi:vu h x.i=aP)(hr:(aA h:Int)<room/\room<=1000000000)
 (hk:aL x.s) (hm:aL x.m) (hf:qJ x.s=aP) (ku:0<=x.n) (hpl:plcA M A x.s x.m x.a≠aB) (hI:aL (balA M A l x.s x.m x.a-iP h x.s x.m x.a)) (hn:x.n<=balA M A l x.s x.m x.a-iP h x.s x.m x.a):
 aQ aM 57 #[π vb,ν x.i,bQ #[ν x.s,ν x.m,ν x.a,ν x.n]] w (Lu vb p M A room l (h++ [x]) w):=by
 obtain⟨xi,xs,xm,xa,xn⟩:=x;simp only at hp hi hk hm hf ku hpl hI hn;have aZ:Hid (β w (w.alloc (aK #[ν xs,ν xm,ν xa,ν xn] 113))):=η σ;have HV:=η (H.below aZ.o);have HX:Hid ((w.alloc (aK #[ν xs,ν xm,ν xa,ν xn] 113)).heap[w.heap.size]? =aC (aK #[ν xs,ν xm,ν xa,ν xn] 113 (0,0))):=η (cO w _);have hz0:w.heap.size<(w.alloc (aK #[ν xs,ν xm,ν xa,ν xn] 113)).heap.size:=by simp
 have IP:=H.lt;have Tu:Hid (∀W,aY (w.alloc (aK #[ν xs,ν xm,ν xa,ν xn] 113)).heap.size (w.alloc (aK #[ν xs,ν xm,ν xa,ν xn] 113)) W->aQ aM 111 #[π vb,bQ #[ν xs,ν xm],ν xa] W λe w'=>e=aT (bB #[ν (balA M A l xs xm xa-iP h xs xm xa),ν 0])/\β W w'):=η λW hW=>by have h1:=a8O vb p M A room l h xs xm xa W (HV.o.below hW) hk hm r8 (by omega);rw [ifN hpl,ifN hpl,(eA hI).1,(eA hI).2] at h1;exact h1
 have JE:Hid (∀W,aY (w.alloc (aK #[ν xs,ν xm,ν xa,ν xn] 113)).heap.size (w.alloc (aK #[ν xs,ν xm,ν xa,ν xn] 113)) W->aQ aM 113 #[π p.tb,ν xi] W λe w'=>e=aT (bB #[bQ #[ν 0,ν 0,ν 0,ν 0],ν 8])/\β W w'):=η λW hW=>aLN room p.tv h xi p.tb W (HV.o.below hW).tb (by omega) hu hi
 have zE:Hid (∀W,aY (w.alloc (aK #[ν xs,ν xm,ν xa,ν xn] 113)).heap.size (w.alloc (aK #[ν xs,ν xm,ν xa,ν xn] 113)) W->aQ aM 114 #[π p.tb] W λe w'=>e=aT (ν (room-(aA h:Int)))/\β W w'):=η λW hW=>aLQ room p.tv h p.tb W (HV.o.below hW).tb (by omega) (by omega)
 have HPU:Hid (∀W,aY (w.alloc (aK #[ν xs,ν xm,ν xa,ν xn] 113)).heap.size (w.alloc (aK #[ν xs,ν xm,ν xa,ν xn] 113)) W->aQ aM 115 #[π p.tb,ν xi,bQ #[ν xs,ν xm,ν xa,ν xn]] W (a0T p.tb room p.tv (h++ [⟨xi,xs,xm,xa,xn⟩]) W)):=η λW hW=>aLU room p.tv h ⟨xi,xs,xm,xa,xn⟩ p.tb W (HV.o.below hW).tb hl hu hp hi hr.1
 have wR:Hid (∀W,aQ aM 112 #[bQ #[ν xs,ν xm]] W λe w'=>e=aT (bJ aP)/\β W w'):=η λW=>by rw [<-hf];exact Pj xs xm W
 have hrm:(room-(aA h:Int)==0)=aP:=by simp;omega
 generalize hFR:balA M A l xs xm xa-iP h xs xm xa=fr at*;clear hFR H r8 hu hp hi hk hm hf hpl hI;go_enter func57,ntmps57
 go_upto_region 3 with fail
 generalize (w.alloc (aK #[ν xs,ν xm,ν xa,ν xn] 113))=w1 at*;obtain⟨bx,bU⟩:∃bx,bx=w.heap.size:=⟨_,rfl⟩;rw [<-bU] at HX hz0 ⊢;have hvx:vb<bx:=by omega
 clear bU;have iU:Hid (∀W,β w1 W->W.cell? ⟨bx,0,aB⟩=aC (ν xs)/\W.cell? ⟨bx,1,aB⟩=aC (ν xm)/\W.cell? ⟨bx,2,aB⟩=aC (ν xa)/\W.cell? ⟨bx,3,aB⟩=aC (ν xn)/\W.cell? ⟨vb,1,aB⟩=aC (π p.tb)):=η λW hW=>⟨((fA hW).1 _ _ hz0).trans (ρ HX.o),((fA hW).1 _ _ hz0).trans (ρ HX.o),((fA hW).1 _ _ hz0).trans (ρ HX.o),((fA hW).1 _ _ hz0).trans (ρ HX.o),(HV.o.below hW).c1⟩
 obtain⟨x0,x1,x2,x3,x4⟩:=iU.o _ (aX _ _);have hlv:vb<w1.heap.size:=by omega
 go_wp2_with (first|(go_at_call 112;refine(wR.o _).mono ?_;rintro e w2 ⟨rfl,hb2⟩;have qR:Hid (β w1 w2):=η hb2;clear x0 x1 x2 x3 x4 hb2;obtain⟨x0,x1,x2,x3,x4⟩:=iU.o _ qR.o)|(go_at_call 111;refine(Tu.o _ qR.o).mono ?_;rintro e w3 ⟨rfl,hb3⟩;have iT:Hid (β w1 w3):=τ qR hb3;clear x0 x1 x2 x3 x4 hb3;obtain⟨x0,x1,x2,x3,x4⟩:=iU.o _ iT.o;have aMs:vb<w3.heap.size:=cP hlv iT.o.size)|(go_at_call 113;refine(JE.o _ iT.o).mono ?_;rintro e w4 ⟨rfl,hb4⟩;have gK:Hid (β w1 w4):=τ iT hb4;have om:Hid (β w1 (w4.alloc (aK #[ν 0,ν 0,ν 0,ν 0] 113))):=η (gK.o.alloc gK.o.size _);clear x0 x1 x2 x3 x4 hb4;obtain⟨x0,x1,x2,x3,x4⟩:=iU.o _ gK.o;have aMt:vb<w4.heap.size:=cP hlv gK.o.size)|(go_at_call 114;refine(zE.o _ om.o).mono ?_;rintro e w6 ⟨rfl,iM⟩;have wV:Hid (β w1 w6):=τ om iM;clear x0 x1 x2 x3 x4 iM;obtain⟨x0,x1,x2,x3,x4⟩:=iU.o _ wV.o;have aMu:vb<w6.heap.size:=cP hlv wV.o.size))
 go_still_tail 6,(by kernel_rfl)
 change wpList _ _ _ _ _ w6.drew;have EM:Hid (β w1 w6.drew):=η wV.o.drew;generalize w6.drew=w7 at*;clear x0 x1 x2 x3 x4;obtain⟨x0,x1,x2,x3,x4⟩:=iU.o _ EM.o;go_wp2_with (go_at_call 115;refine(HPU.o _ EM.o).mono ?_;rintro e w8 ⟨tv,rfl,ht8,hu8,Bh⟩;have HT8:=η ht8;have Zx:=η hu8;have BG:=η Bh;clear ht8 hu8 Bh)
 go_ret;have dW:β w w7:=aZ.o.trans (EM.o.mono aZ.o.size);exact⟨tv,rfl,(HV.o.below EM.o).holds HT8.o Zx.o,(bC.bZ (qE vb p) dW).trans Zx.o (λk hk=>aS (qE.a5u hk)),λk hk=>(BG.o k hk).imp id (λe=>bz dW.size e)⟩
theorem aLh(vb:Nat)(p:Vp)(M A:Nat)(room:Int)(l:List Int)(x:Hr)(h:List Hr)(w:aJ)(H:gS w vb p M A room l (x::h))(hl:aA h<=99999)(hu:qC (x::h)):
 aQ aM 64 #[π vb,ν x.i] w (Lu vb p M A room l h w):=by
 have HV:=η H;have c1:=H.c1;have HD:=η (aLL room p.tv x h p.tb w H.tb hl hu);go_enter func64,ntmps64
 go_wp2_with (go_at_call 126;refine HD.o.mono ?_;rintro e w2 ⟨rfl,tv,ht2,sA,hs2⟩;have qY:=η ht2;have BI:=η sA;have cM:=η hs2)
 go_ret;exact⟨tv,rfl,((HV.o.holds qY BI).below σ),(((bC.refl (qE vb p) w).trans BI (λk hk=>aS (qE.a5u hk))).alloc _),cM⟩
theorem aLb(vb:Nat)(p:Vp)(M A:Nat)(room:Int)(l:List Int)(h:List Hr)(w:aJ)(H:gS w vb p M A room l h)(hl:aA h<=100000):
 aQ aM 63 #[π vb] w (sU 2 1 (aA h) ((h.map (·.i)).map (aG aF)) w):=by
 have c1:=H.c1;have LV:=η (a8H room p.tv h p.tb w H.tb hl);clear H;go_enter func63,ntmps63
 go_wp2_with (go_at_call 125;refine LV.o.mono ?_)
 rintro e w2 ⟨v2,rfl,eU,hb2⟩;have HO:=η eU;have HB:Hid (β w w2):=η hb2;obtain⟨Ar,cr,hv⟩:=bL eU;subst hv;obtain⟨ids,WD⟩:∃ids:List aN,ids=(h.map (·.i)).map (aG aF):=⟨_,rfl⟩;have ZT:=η WD;have uG:Hid (aA ids=aA h):=η (by rw [WD,iV,iV]);have mJ:Hid (w2.ownsRow w2.heap.size 2 1 (aH aB 0 0) 0 (ids.take 0)):=η (by rw [nQ];exact fh _ _ _ _);have sV:Hid (β w2 w2):=η (aX _ _);obtain⟨i0,bu,hz0',ft,xV⟩:=dJ NH;clear eU hb2 LV c1 WD;go_wp2_with fail
 go_loopw [3,5,14] (λv _ i wr=>∃j:Nat,j<=aA h/\i=ν (j:Int)/\Hid (β w2 wr)/\Hid (wr.ownsRow w2.heap.size 2 1 v j (ids.take j))) (λ_ _ i _=>aA h-(af i).toNat)
 case atStart=>exact⟨0,bK _,rfl,sV,mJ⟩
 case round=>
  clear sV mJ;obtain⟨j,hj,rfl,HR,HOW⟩:=hrel;obtain⟨Ax,cx,pL⟩:=bL HOW.o;subst pL;by_cases hlt:j<aA h
  ·obtain⟨be,oe,rfl,km,e0,e1,e2,e3,e4⟩:=KJ (((aW.cA HO.o).below HR.o).mono HR.o.size) hlt;have lU:Hid (ids.take (j+1)=ids.take j++ [ν h[j].i]):=η (by rw [fF (by rw [uG.o];exact hlt)];simp [ZT.o]);have yb:(0:Int)<=(j:Int):=by omega
   have hjb:(j:Int)<(aA h:Int):=by omega
   generalize h[j]=r at*;obtain⟨ri,rs,rm,ra,rn⟩:=r;simp only at e0 e1 e2 e3 e4 lU;have ag:Hid (β w2 ((wr.alloc (aK #[ν ri,ν rs,ν rm,ν ra,ν rn] 188)).alloc (aK #[ν ri] 2))):=η ((HR.o.alloc HR.o.size _).alloc (by have:=HR.o.size;simp;omega) _);have cD:=η ((HOW.o.alloc (aK #[ν ri,ν rs,ν rm,ν ra,ν rn] 188)).alloc (aK #[ν ri] 2));have hzz:w2.heap.size<=wr.heap.size:=HR.o.size;go_wp2_with (at_builtin;refine wpList_append_lies _ rfl _ _ 53 rfl w2.heap.size 2 i0 _ 1 8 mP bu hz0' ft xV rfl (by decide) _ j _ rfl cD.o ⟨wr.heap.size+1,0,aB⟩ 1 1 [ν ri] rfl rfl (dK _ _ #[_] (by simp)) xh (by omega) (by simp only [bM];omega) (by omega) (by simp;omega) (wr.heap.size+1+1) (by simp) ?_)
   intro g4 M8 w4 pN iQ _ _;have ar:Hid (β w2 w4):=η (ag.o.grown iQ (by simp;omega) (λk hk=>eF cD.o k hk));have dP:Hid (w4.ownsRow w2.heap.size 2 1 (aH (aC ⟨g4,0,aB⟩) (j+1) M8) (j+1) (ids.take (j+1))):=η (by rw [lU.o];exact pN);clear pN iQ ag cD HOW HR;go_wp2_with fail
   go_roundw
   case rel=>exact⟨j+1,by omega,by go_num,ar,dP⟩
   case measure=>simp [af];omega
  obtain rfl:j=aA h:=by omega
  have ez:Hid (wr.ownsRow w.heap.size 2 1 (aH Ax (aA h) cx) (aA h) ((h.map (·.i)).map (aG aF))):=η (by have h2:=HOW.o;rw [List.take_of_length_le (by rw [uG.o];exact aa _),ZT.o] at h2;exact iC h2 HB.o.size);go_wp2_with fail
  go_ret;exact⟨_,rfl,ez.o,HB.o.trans (HR.o.mono HB.o.size)⟩
def aAI(M A:Nat)(room:Int)(l:List Int)(h:List Hr)(w:aJ)(e:dU)(w':aJ):Prop:=
 ∃nb p,e=aT (π nb)/\gS w' nb p M A room l h/\(∀k,qE nb p k->w.heap.size<=k)/\β w w'
theorem aLa(vb:Nat)(p:Vp)(M A:Nat)(room:Int)(l:List Int)(h:List Hr)(w:aJ)(H:gS w vb p M A room l h)(hl:aA h<=100000):
 aQ aM 93 #[π vb] w (aAI M A room l h w):=by
 have bO:Hid (∀W,β w W->W.cell? ⟨vb,0,aB⟩=aC (π p.bb)/\W.cell? ⟨vb,1,aB⟩=aC (π p.tb)):=η λW hW=>⟨(H.below hW).c0,(H.below hW).c1⟩
 have Au:=η (λW (hW:β w W)=>a1p M A p.bv l p.po p.bb W (H.below hW).bk);have Sw:=η (λW (hW:β w W)=>aLJ room p.tv h p.tb W (H.below hW).tb hl);go_enter func93,ntmps93
 go_wp2
 have yY:β w w.drew:=(aX _ _).drew;go_region_held3 (λW=>W.cell? ⟨vb,0,aB⟩=aC (π p.bb)/\W.cell? ⟨vb,1,aB⟩=aC (π p.tb)) (first|(with_reducible exact bO.o _ yY)|(with_reducible exact bO.o _ (yY.alloc yY.size _))) ((first|(go_at_call 98;refine(Au.o _ yY).mono ?_;rintro e wb ⟨nb,nv,rfl,hkb,mB,hnv,iO⟩;have yY:=yY.trans (iO.mono yY.size))|(go_at_call 156;refine(Sw.o _ yY).mono ?_;rintro e wt ⟨nt,tv,rfl,hkt,hnt,htv,hbt⟩;have yY:=yY.trans (hbt.mono yY.size))))
 have CZ:=η (hkb.below hbt);have HKT:=η hkt;have Sx:=η yY;have OA:Hid ((w.heap.size<=nb/\∀k,nv.ownBlock=aC k->w.heap.size<=k)/\w.heap.size<=nt/\∀k,tv.ownBlock=aC k->w.heap.size<=k):=η ⟨⟨mB,hnv⟩,bz iO.size hnt,λk hk=>bz iO.size (htv k hk)⟩;go_wp2
 go_ret;refine⟨wt.heap.size,⟨nb,nv,p.po,nt,tv⟩,rfl,⟨cO wt _,CZ.o.below σ,HKT.o.below σ⟩, ?_,Sx.o.alloc Sx.o.size _⟩;rintro k (e|e|e|e|e)
 ·rw [e];exact Sx.o.size
 ·rw [e];exact OA.o.1.1
 ·exact OA.o.1.2 k e
 ·rw [e];exact OA.o.2.1
 exact OA.o.2.2 k e
theorem aLd(M A r:Nat)(hM:M<=16)(MR:1<=A)(hA:A<=9)(w:aJ):
 aQ aM 31 #[ν (M:Int),ν (A:Int),ν (r:Int)] w λe w'=>∃nb p,e=aT (bB #[π nb,ν 0])/\gS w' nb p M A (r:Int) (gR (A*(6+3*M)) 0) []/\(∀k,qE nb p k->w.heap.size<=k)/\β w w':=by
 have bX:=η (aDF M A hM MR hA w);have qU:=η (λW=>aLR (r:Int) W (by omega));go_enter func31,ntmps31
 go_wp2_with (first|(go_at_call 80;refine(qU.o _).mono ?_;rintro e w3 ⟨nt,tv,rfl,hk3,nh,hv3,hb3⟩;have od:=η hk3;have iT:Hid (w2.heap.size<=nt/\∀k,tv.ownBlock=aC k->w2.heap.size<=k):=η ⟨nh,hv3⟩;have ag:=η hb3)|(go_at_call 79;refine bX.o.mono ?_;rintro e w2 ⟨nb,nv,rfl,hk2,oL,hv2,hb2⟩;have lh:=η hk2;have qR:Hid (w.heap.size<=nb/\∀k,nv.ownBlock=aC k->w.heap.size<=k):=η ⟨oL,hv2⟩;have aV:=η hb2))
 go_ret2;have dW:=aV.o.trans (ag.o.mono aV.o.size);refine⟨w3.heap.size,⟨nb,nv,0,nt,tv⟩,rfl,⟨cO w3 _,(lh.o.below ag.o).below σ,od.o.below σ⟩, ?_,dW.alloc dW.size _⟩;rintro k (e|e|e|e|e)
 ·rw [e];exact dW.size
 ·rw [e];exact qR.o.1
 ·exact qR.o.2 k e
 ·rw [e];exact bz aV.o.size iT.o.1
 exact bz aV.o.size (iT.o.2 k e)
def bg(n least most:Int):Bool:=decide (least<=n)&&decide (n<=most)
theorem yv(n a b:Int)(w:aJ):aQ aM 240 #[aG aF n,aG aF a,aG aF b] w λe w'=>e=aT (bJ (bg n a b))/\w=w':=by
 have HB:=η (show bg n a b=(decide (a<=n)&&decide (n<=b)) from rfl);by_cases h1:a<=n
 ·by_cases h2:n<=b
  ·go_enter a0h,a1B
   go_wp2
   go_ret;exact⟨fQ (by rw [HB.o];simp [h1,h2]),rfl⟩
  go_enter a0h,a1B
  go_wp2
  go_ret;exact⟨fQ (by rw [HB.o,decide_eq_false (show¬n<=b by omega)];simp),rfl⟩
 go_enter a0h,a1B
 go_wp2
 go_ret;exact⟨fQ (by rw [HB.o,decide_eq_false (show¬a<=n by omega)];simp),rfl⟩
theorem IY(n a b:Int)(w:aJ):aQ aM 243 #[aG aF n,aG aF a,aG aF b] w λe w'=>e=aT (bJ (bg n a b))/\w=w':=by
 have HB:=η (show bg n a b=(decide (a<=n)&&decide (n<=b)) from rfl);by_cases h1:a<=n
 ·by_cases h2:n<=b
  ·go_enter a0i,a1C
   go_wp2
   go_ret;exact⟨fQ (by rw [HB.o];simp [h1,h2]),rfl⟩
  go_enter a0i,a1C
  go_wp2
  go_ret;exact⟨fQ (by rw [HB.o,decide_eq_false (show¬n<=b by omega)];simp),rfl⟩
 go_enter a0i,a1C
 go_wp2
 go_ret;exact⟨fQ (by rw [HB.o,decide_eq_false (show¬a<=n by omega)];simp),rfl⟩
def uf(x:Pr):Bool:=bg x.a 0 1099511627776&&bg x.b 0 1099511627776
def uj(x:Pr):Bool:=bg x.a 1 1048576&&bg x.b x.a 1048576
def kT(l:List Pr):Bool:=l.all uf&&bg (aA l) 2 16
def lF(l:List Pr):Bool:=l.all uj&&bg (aA l) 1 8
theorem PV {α:Type}(p:α->Bool) {l:List α} {k:Nat}(hk:k<aA l):(l.take (k+1)).all p=((l.take k).all p&&p l[k]):=by rw [fF hk,List.all_append];simp
theorem aI1(l:List Pr)(A:Option aj)(c:Nat)(w:aJ)(hs:aW w w.heap.size A (gp l))(hl:aA l<=1000000):
 aQ aM 234 #[aH A (aA l) c] w λe w'=>e=aT (bJ (kT l))/\β w w':=by
 have HS:=η hs;have HA:=η (show kT l=(l.all uf&&bg (aA l) 2 16) from rfl);go_enter func234,ntmps234
 go_wp2_with fail
 go_loopw [4,7] (λ_ i wr=>∃k:Nat,k<=aA l/\i=ν k/\Hid ((l.take k).all uf=aO)/\Hid (β w wr)) (λ_ i _=>aA l-(af i).toNat)
 case atStart=>exact⟨0,bK _,rfl,rfl,aX _ _⟩
 case round=>
  obtain⟨k,hk,rfl,HK,HB⟩:=hrel;have hsz:=HB.o.size;by_cases hlt:k<aA l
  ·obtain⟨b,o,rfl,hb,d0,d1⟩:=Bz (HS.o.below HB.o) hlt;have cG:=η (PV uf hlt);have HP:=η (show uf l[k]=(bg l[k].a 0 1099511627776&&bg l[k].b 0 1099511627776) from rfl);cases h1:bg l[k].a 0 1099511627776
   ·have HF:Hid (aP=kT l):=by
     show _=_;rw [HA.o,show l.all uf=aP from Jc.2 ⟨l[k],cH hlt,by rw [HP.o,h1];simp⟩];rfl
    go_wp2_with fail
    refine(yv _ _ _ _).mono ?_;rintro e w1 ⟨rfl,rfl⟩;rw [h1];go_wp2_with fail
    go_ret;exact⟨fQ HF.o,HB.o.alloc hsz _⟩
   cases h2:bg l[k].b 0 1099511627776
   ·have HF:Hid (aP=kT l):=by
     show _=_;rw [HA.o,show l.all uf=aP from Jc.2 ⟨l[k],cH hlt,by rw [HP.o,h1,h2];simp⟩];rfl
    go_wp2_with fail
    refine(yv _ _ _ _).mono ?_;rintro e w1 ⟨rfl,rfl⟩;rw [h1];go_wp2_with fail
    refine(yv _ _ _ _).mono ?_;rintro e w1 ⟨rfl,rfl⟩;rw [h2];go_wp2_with fail
    go_ret;exact⟨fQ HF.o,HB.o.alloc hsz _⟩
   have HX:Hid ((l.take (k+1)).all uf=aO):=by show _=_;rw [cG.o,HK.o,HP.o,h1,h2];rfl
   go_wp2_with fail
   refine(yv _ _ _ _).mono ?_;rintro e w1 ⟨rfl,rfl⟩;rw [h1];go_wp2_with fail
   refine(yv _ _ _ _).mono ?_;rintro e w1 ⟨rfl,rfl⟩;rw [h2];go_wp2_with fail
   go_roundw
   case rel=>exact⟨k+1,by omega,by go_num,HX,HB.o.alloc hsz _⟩
   case measure=>simp [af];omega
  obtain rfl:k=aA l:=by omega
  have hK:=HK.o;rw [cT] at hK;have HF:Hid (bg (aA l) 2 16=kT l):=by show _=_;rw [HA.o,hK];rfl
  go_wp2_with fail
  refine(IY _ _ _ _).mono ?_;rintro e w1 ⟨rfl,rfl⟩;go_wp2_with fail
  go_ret;exact⟨fQ HF.o,HB.o⟩
theorem aKP(l:List Pr)(A:Option aj)(c:Nat)(w:aJ)(hs:aW w w.heap.size A (gp l))(hl:aA l<=1000000):
 aQ aM 236 #[aH A (aA l) c] w λe w'=>e=aT (bJ (lF l))/\β w w':=by
 have HS:=η hs;have HA:=η (show lF l=(l.all uj&&bg (aA l) 1 8) from rfl);go_enter func236,ntmps236
 go_wp2_with fail
 go_loopw [4,7] (λ_ i wr=>∃k:Nat,k<=aA l/\i=ν k/\Hid ((l.take k).all uj=aO)/\Hid (β w wr)) (λ_ i _=>aA l-(af i).toNat)
 case atStart=>exact⟨0,bK _,rfl,rfl,aX _ _⟩
 case round=>
  obtain⟨k,hk,rfl,HK,HB⟩:=hrel;have hsz:=HB.o.size;by_cases hlt:k<aA l
  ·obtain⟨b,o,rfl,hb,d0,d1⟩:=Bz (HS.o.below HB.o) hlt;have cG:=η (PV uj hlt);have HP:=η (show uj l[k]=(bg l[k].a 1 1048576&&bg l[k].b l[k].a 1048576) from rfl);cases h1:bg l[k].a 1 1048576
   ·have HF:Hid (aP=lF l):=by
     show _=_;rw [HA.o,show l.all uj=aP from Jc.2 ⟨l[k],cH hlt,by rw [HP.o,h1];simp⟩];rfl
    go_wp2_with fail
    refine(yv _ _ _ _).mono ?_;rintro e w1 ⟨rfl,rfl⟩;rw [h1];go_wp2_with fail
    go_ret;exact⟨fQ HF.o,HB.o.alloc hsz _⟩
   cases h2:bg l[k].b l[k].a 1048576
   ·have HF:Hid (aP=lF l):=by
     show _=_;rw [HA.o,show l.all uj=aP from Jc.2 ⟨l[k],cH hlt,by rw [HP.o,h1,h2];simp⟩];rfl
    go_wp2_with fail
    refine(yv _ _ _ _).mono ?_;rintro e w1 ⟨rfl,rfl⟩;rw [h1];go_wp2_with fail
    refine(yv _ _ _ _).mono ?_;rintro e w1 ⟨rfl,rfl⟩;rw [h2];go_wp2_with fail
    go_ret;exact⟨fQ HF.o,HB.o.alloc hsz _⟩
   have HX:Hid ((l.take (k+1)).all uj=aO):=by show _=_;rw [cG.o,HK.o,HP.o,h1,h2];rfl
   go_wp2_with fail
   refine(yv _ _ _ _).mono ?_;rintro e w1 ⟨rfl,rfl⟩;rw [h1];go_wp2_with fail
   refine(yv _ _ _ _).mono ?_;rintro e w1 ⟨rfl,rfl⟩;rw [h2];go_wp2_with fail
   go_roundw
   case rel=>exact⟨k+1,by omega,by go_num,HX,HB.o.alloc hsz _⟩
   case measure=>simp [af];omega
  obtain rfl:k=aA l:=by omega
  have hK:=HK.o;rw [cT] at hK;have HF:Hid (bg (aA l) 1 8=lF l):=by show _=_;rw [HA.o,hK];rfl
  go_wp2_with fail
  refine(IY _ _ _ _).mono ?_;rintro e w1 ⟨rfl,rfl⟩;go_wp2_with fail
  go_ret;exact⟨fQ HF.o,HB.o⟩
def iH(l:List Cy):List Int:=l.flatMap λx=> [x.a,x.b,x.c,x.d]
theorem a8D {l:List Cy} {k:Nat}(hk:k<aA l):iH (l.take (k+1))=iH (l.take k)++ [l[k].a,l[k].b,l[k].c,l[k].d]:=by unfold iH;rw [fF hk,List.flatMap_append];simp
theorem a8C(l:List Cy):aA (iH l)=4*aA l:=by
 induction l with
 |nil=>rfl
 |cons a l ih=>unfold iH at*;rw [wZ,cN,ih];simp;omega
theorem aLO(x:ak)(w:aJ)(h:lf w x)(hl:aA x.cy<=100000):
 aQ aM 263 #[x.val] w (Z0 w (iH x.cy)):=by
 have dQ:=η (h.below (mQ w x));have aZ:=η (mQ w x);have c2:=(zi w x).c2;obtain⟨i0,bu,hz0,ft,hz2⟩:=dJ RI;unfold ak.val;clear h;obtain⟨ms,Am,cm,ss,As,cs,cy,Ac,cc,line,bV,lead,tr,bT⟩:=x;obtain⟨_,_,hc⟩:=dQ.o;have HC:=η hc;clear hc dQ;simp only at*;go_enter func263,ntmps263
 go_wp2_with fail
 generalize w.alloc (aK #[aH Am (aA ms) cm,aH As (aA ss) cs,aH Ac (aA cy) cc,ν line,ν bV,ν lead,ν tr,ν bT] 26)=W0 at*;go_loopw [3,5,9] (λu _ i wr=>∃k:Nat,k<=aA cy/\i=ν k/\Hid (wr.ownsRow W0.heap.size 3 1 u (aA (iH (cy.take k))) ((iH (cy.take k)).map (aG aF)))/\Hid (β W0 wr)) (λ_ _ i _=>aA cy-(af i).toNat)
 case atStart=>exact⟨0,bK _,rfl,⟨by simp [iH],aS ⟨rfl,rfl⟩⟩,aX _ _⟩
 case round=>
  obtain⟨k,hk,rfl,HO,HB⟩:=hrel;have hsz:=HB.o.size;have FR:=a8C (cy.take k);have Bi:aA (iH (cy.take k))<=400000:=by rw [FR,vD];omega
  clear FR;by_cases hlt:k<aA cy
  ·obtain⟨b,o,rfl,hb,d0,d1,d2,d3⟩:=a2U (HC.o.below HB.o) hlt;have jQ:=η (a8D hlt);generalize iH (cy.take k)=ys at*;go_wp2_with (at_builtin;refine iZ _ rfl _ _ 46 rfl W0.heap.size 3 i0 _ 1 8 yN bu hz0 ft hz2 rfl (by decide) _ (aA ys) (ys.map (aG aF)) rfl ((HO.o.alloc _).alloc _) ⟨wr.heap.size+1,0,aB⟩ 4 4 [ν cy[k].a,ν cy[k].b,ν cy[k].c,ν cy[k].d] rfl rfl (dK _ _ #[_,_,_,_] (by simp)) a3N (by simp only [bM];omega) (by omega) (by simp;omega) ?_)
   intro v' w4 hown1 dG _;have dP:Hid (w4.ownsRow W0.heap.size 3 1 v' (aA (iH (cy.take (k+1)))) ((iH (cy.take (k+1))).map (aG aF))):=by show kB _ _ _ _ _ _ _;rw [jQ.o,dZ,cN];exact hown1
   have pg:Hid (β W0 w4):=((HB.o.alloc hsz _).alloc (by simp;omega) _).grown dG (by simp;omega) (λj hj=>eF HO.o j hj);clear hown1 dG;go_wp2_with fail
   go_roundw
   case rel=>exact⟨k+1,by omega,by go_num,dP,pg⟩
   case measure=>simp [af];omega
  obtain rfl:k=aA cy:=by omega
  have hO:=HO.o;rw [cT] at hO;obtain⟨A2,c2',rfl⟩:=bL hO;have cM:=η (aW.cA hO);clear hO;go_wp2_with fail
  go_ret;exact⟨A2,c2',rfl,cM.o,aZ.o.trans (HB.o.mono aZ.o.size)⟩
def risesB:Int->List Int->Bool
 |_,[]=>aO
 |p,t::r=>decide (p<t)&&risesB t r
def ja:Int->List Int->Int
 |p,[]=>p
 |_,t::r=>ja t r
theorem a6r(t:Int):∀(l:List Int) (p:Int),risesB p (l++ [t])=(risesB p l&&decide (ja p l<t))
 | [],p=>by show (decide (p<t)&&aO)=(aO&&decide (p<t));rw [Bool.and_true,Bool.true_and]
 |a::l,p=>by rw [List.cons_append];unfold risesB ja;rw [a6r t l a,Bool.and_assoc]
theorem a5H(t:Int):∀(l:List Int) (p:Int),ja p (l++ [t])=t
 | [],_=>rfl
 |a::l,_=>by rw [List.cons_append];unfold ja;exact a5H t l a
theorem a6q:∀(l r:List Int) (p:Int),risesB p l=aP->risesB p (l++r)=aP
 | [],_,_,h=>by simp [risesB] at h
 |a::l,r,p,h=>by
  rw [List.cons_append];unfold risesB at*;rcases Bool.and_eq_false_iff.1 h with h1|h1
  ·rw [h1];rfl
  rw [a6q l r a h1,Iz]
def lV(l:List Cy):Bool:=risesB 0 (iH l)&&(bg (aA l) 1 4&&decide (ja 0 (iH l)<=1000))
theorem aEc(x:ak)(w:aJ)(h:lf w x)(hl:aA x.cy<=100000):
 aQ aM 238 #[x.val] w λe w'=>e=aT (bJ (lV x.cy))/\β w w':=by
 have HT:=η (aLO x _ (h.below (mQ w x)) hl);have aZ:=η (mQ w x);have HX:=η (zi w x);have HA:=η (show lV x.cy=(risesB 0 (iH x.cy)&&(bg (aA x.cy) 1 4&&decide (ja 0 (iH x.cy)<=1000))) from rfl);have FR:aA (iH x.cy)<=400000:=by rw [a8C];omega
 have hb0:=(mQ w x).size;obtain⟨c0,c1,c2,c3,c4,c5,c6,c7,jk⟩:=HX.o;unfold ak.val at*;generalize hcv:lV x.cy=cv at*;go_enter func238,ntmps238
 go_wp2_with fail
 generalize w.alloc (aK #[aH x.Am (aA x.ms) x.cm,aH x.As (aA x.ss) x.cs,aH x.Ac (aA x.cy) x.cc,ν x.line,ν x.bV,ν x.lead,ν x.tr,ν x.bT] 26)=W0 at*;refine HT.o.mono ?_;rintro e w1 ⟨A1,k1,rfl,hs1,hb1⟩;generalize iH x.cy=zs at*;have cX:=η hs1;have aR:=η hb1;have o7:=η (HX.o.below hb1);have d2:=(HX.o.below hb1).c2;go_wp2_with fail
 go_loop [3,5,9] (λp _ i=>∃k:Nat,k<=aA zs/\i=ν k/\p=ν (ja 0 (zs.take k))/\Hid (risesB 0 (zs.take k)=aO)) (λ_ _ i=>aA zs-(af i).toNat)
 case atStart=>exact⟨0,bK _,rfl,rfl,rfl⟩
 case round=>
  obtain⟨k,hk,rfl,rfl,HK⟩:=hrel;by_cases hlt:k<aA zs
  ·obtain⟨b,o,rfl,hb,e0⟩:=tV cX.o hlt;have HR:=η (a6r zs[k] (zs.take k) 0);have HL:=η (a5H zs[k] (zs.take k) 0);have lU:=η (fF hlt);by_cases hp:zs[k]<=ja 0 (zs.take k)
   ·have HF:Hid (aP=cv):=by
     show _=_;have h1:risesB 0 (zs.take (k+1))=aP:=by rw [lU.o,HR.o,decide_eq_false (by omega),Iz]
     have h2:risesB 0 zs=aP:=by have:=a6q (zs.take (k+1)) (zs.drop (k+1)) 0 h1;rw [List.take_append_drop] at this;exact this
     rw [HA.o,h2];rfl
    go_wp2_with fail
    go_ret;exact⟨fQ HF.o,aZ.o.trans (aR.o.mono hb0)⟩
   have kQ:Hid (risesB 0 (zs.take (k+1))=aO):=by show _=_;rw [lU.o,HR.o,HK.o,decide_eq_true (by omega)];rfl
   have o8:Hid (ja 0 (zs.take (k+1))=zs[k]):=by show _=_;rw [lU.o,HL.o]
   go_wp2_with fail
   go_round
   case rel=>exact⟨k+1,by omega,by go_num,by rw [o8.o],kQ⟩
   case measure=>simp [af];omega
  obtain rfl:k=aA zs:=by omega
  have hK:=HK.o;rw [cT] at hK ⊢;have HF:Hid (cv=(bg (aA x.cy) 1 4&&decide (ja 0 zs<=1000))):=by show _=_;rw [HA.o,hK];rfl
  cases hi:bg (aA x.cy) 1 4
  ·go_wp2_with fail
   refine(IY _ _ _ _).mono ?_;rintro e w2 ⟨rfl,rfl⟩;rw [hi];go_wp2_with fail
   go_ret;exact⟨fQ (by rw [HF.o,hi];rfl),aZ.o.trans (aR.o.mono hb0)⟩
  generalize ja 0 zs=la at*;go_wp2_with fail
  refine(IY _ _ _ _).mono ?_;rintro e w2 ⟨rfl,rfl⟩;rw [hi];go_wp2_with fail
  go_ret;exact⟨fQ (by rw [HF.o,hi];simp),aZ.o.trans (aR.o.mono hb0)⟩
theorem aDX(x:ak)(bx:Nat)(w:aJ)(h:pX w bx x)(hk:lf w x)(hl:aA x.ms<=100000):
 aQ aM 233 #[π bx] w λe w'=>e=aT (bJ (!kT x.ms))/\β w w':=by
 obtain⟨c0,c1,c2,c3,c4,c5,c6,c7,jk⟩:=h;have HC:=η (aI1 x.ms x.Am x.cm w hk.m (by omega));generalize kT x.ms=bv at*;go_enter func233,ntmps233
 go_wp2_with fail
 refine HC.o.mono ?_;rintro e w1 ⟨rfl,hb1⟩;have aR:=η hb1;go_wp2_with fail
 go_ret;exact⟨rfl,aR.o⟩
theorem aDY(x:ak)(bx:Nat)(w:aJ)(h:pX w bx x)(hk:lf w x)(hl:aA x.ss<=100000):
 aQ aM 235 #[π bx] w λe w'=>e=aT (bJ (!lF x.ss))/\β w w':=by
 obtain⟨c0,c1,c2,c3,c4,c5,c6,c7,jk⟩:=h;have HC:=η (aKP x.ss x.As x.cs w hk.s (by omega));generalize lF x.ss=bv at*;go_enter func235,ntmps235
 go_wp2_with fail
 refine HC.o.mono ?_;rintro e w1 ⟨rfl,hb1⟩;have aR:=η hb1;go_wp2_with fail
 go_ret;exact⟨rfl,aR.o⟩
theorem aDZ(x:ak)(bx:Nat)(w:aJ)(h:pX w bx x)(hk:lf w x)(hl:aA x.cy<=100000):
 aQ aM 237 #[π bx] w λe w'=>e=aT (bJ (!lV x.cy))/\β w w':=by
 obtain⟨c0,c1,c2,c3,c4,c5,c6,c7,jk⟩:=h;have HC:=η (aEc x w hk hl);generalize lV x.cy=bv at*;go_enter func237,ntmps237
 go_wp2_with fail
 refine HC.o.mono ?_;rintro e w1 ⟨rfl,hb1⟩;have aR:=η hb1;go_wp2_with fail
 go_ret;exact⟨rfl,aR.o⟩
theorem aDa(x:ak)(bx:Nat)(w:aJ)(h:pX w bx x):
 aQ aM 239 #[π bx] w λe w'=>e=aT (bJ (!bg x.line 0 1099511627776))/\β w w':=by
 obtain⟨c0,c1,c2,c3,c4,c5,c6,c7,jk⟩:=h;have HC:=η (yv x.line 0 1099511627776 w);generalize bg x.line 0 1099511627776=bv at*;go_enter func239,ntmps239
 go_wp2_with fail
 refine HC.o.mono ?_;rintro e w1 ⟨rfl,rfl⟩;go_wp2_with fail
 go_ret;exact⟨rfl,aX _ _⟩
theorem aDb(x:ak)(bx:Nat)(w:aJ)(h:pX w bx x):
 aQ aM 241 #[π bx] w λe w'=>e=aT (bJ (!bg x.bV 0 1099511627776))/\β w w':=by
 obtain⟨c0,c1,c2,c3,c4,c5,c6,c7,jk⟩:=h;have HC:=η (yv x.bV 0 1099511627776 w);generalize bg x.bV 0 1099511627776=bv at*;go_enter func241,ntmps241
 go_wp2_with fail
 refine HC.o.mono ?_;rintro e w1 ⟨rfl,rfl⟩;go_wp2_with fail
 go_ret;exact⟨rfl,aX _ _⟩
theorem aDc(x:ak)(bx:Nat)(w:aJ)(h:pX w bx x):
 aQ aM 242 #[π bx] w λe w'=>e=aT (bJ (!bg x.lead 0 1000))/\β w w':=by
 obtain⟨c0,c1,c2,c3,c4,c5,c6,c7,jk⟩:=h;have HC:=η (IY x.lead 0 1000 w);generalize bg x.lead 0 1000=bv at*;go_enter func242,ntmps242
 go_wp2_with fail
 refine HC.o.mono ?_;rintro e w1 ⟨rfl,rfl⟩;go_wp2_with fail
 go_ret;exact⟨rfl,aX _ _⟩
theorem aDd(x:ak)(bx:Nat)(w:aJ)(h:pX w bx x):
 aQ aM 244 #[π bx] w λe w'=>e=aT (bJ (!bg x.tr 1 64))/\β w w':=by
 obtain⟨c0,c1,c2,c3,c4,c5,c6,c7,jk⟩:=h;have HC:=η (IY x.tr 1 64 w);generalize bg x.tr 1 64=bv at*;go_enter func244,ntmps244
 go_wp2_with fail
 refine HC.o.mono ?_;rintro e w1 ⟨rfl,rfl⟩;go_wp2_with fail
 go_ret;exact⟨rfl,aX _ _⟩
theorem aDe(x:ak)(bx:Nat)(w:aJ)(h:pX w bx x):
 aQ aM 245 #[π bx] w λe w'=>e=aT (bJ (!bg x.bT 1 32))/\β w w':=by
 obtain⟨c0,c1,c2,c3,c4,c5,c6,c7,jk⟩:=h;have HC:=η (IY x.bT 1 32 w);generalize bg x.bT 1 32=bv at*;go_enter func245,ntmps245
 go_wp2_with fail
 refine HC.o.mono ?_;rintro e w1 ⟨rfl,rfl⟩;go_wp2_with fail
 go_ret;exact⟨rfl,aX _ _⟩
def Jr(b:Nat):Array aN:= #[.string ⟨#[109,101,109,98,101,114,115]⟩,.func (.func 233) #[] #[bF (aC ⟨b,0,aB⟩)],.string ⟨#[115,101,99,115]⟩,.func (.func 235) #[] #[bF (aC ⟨b,0,aB⟩)],.string ⟨#[99,121,99,108,101,115]⟩,.func (.func 237) #[] #[bF (aC ⟨b,0,aB⟩)],.string ⟨#[108,105,110,101]⟩,.func (.func 239) #[] #[bF (aC ⟨b,0,aB⟩)],.string ⟨#[99,97,112,105,116,97,108]⟩,.func (.func 241) #[] #[bF (aC ⟨b,0,aB⟩)],.string ⟨#[108,101,97,100]⟩,.func (.func 242) #[] #[bF (aC ⟨b,0,aB⟩)],.string ⟨#[116,114,97,100,101,115]⟩,.func (.func 244) #[] #[bF (aC ⟨b,0,aB⟩)],.string ⟨#[98,105,100,115]⟩,.func (.func 245) #[] #[bF (aC ⟨b,0,aB⟩)]]
theorem aDf(x:ak)(w:aJ):aQ aM 202 #[x.val] w λe w'=>e=aT (aH (aC ⟨w.heap.size+1,0,aB⟩) 8 8)/\(w.alloc (aK #[aH x.Am (aA x.ms) x.cm,aH x.As (aA x.ss) x.cs,aH x.Ac (aA x.cy) x.cc,aG aF x.line,aG aF x.bV,aG aF x.lead,aG aF x.tr,aG aF x.bT] 26)).alloc (aK (Jr w.heap.size) 279)=w':=by
 unfold ak.val Jr;go_enter func202,ntmps202
 go_wp2
 go_ret;exact⟨rfl,rfl⟩
def iR(x:ak):ByteArray:=if kT x.ms=aP then⟨#[109,101,109,98,101,114,115]⟩ else if lF x.ss=aP then⟨#[115,101,99,115]⟩ else if lV x.cy=aP then⟨#[99,121,99,108,101,115]⟩ else if bg x.line 0 1099511627776=aP then⟨#[108,105,110,101]⟩ else if bg x.bV 0 1099511627776=aP then⟨#[99,97,112,105,116,97,108]⟩ else if bg x.lead 0 1000=aP then⟨#[108,101,97,100]⟩ else if bg x.tr 1 64=aP then⟨#[116,114,97,100,101,115]⟩ else if bg x.bT 1 32=aP then⟨#[98,105,100,115]⟩ else⟨#[]⟩
def okB(x:ak):Bool:=kT x.ms&&lF x.ss&&lV x.cy&&bg x.line 0 1099511627776&&bg x.bV 0 1099511627776&&bg x.lead 0 1000&&bg x.tr 1 64&&bg x.bT 1 32
def PE(w:aJ)(g b:Nat):Prop:=∀j u,(Jr b)[j]? =aC u->w.cell? ⟨g,j,aB⟩=aC u
theorem PE.below {w w':aJ} {g b:Nat}(h:PE w g b)(hg:g<w.heap.size)(hb:aY w.heap.size w w'):PE w' g b:=λj u hu=>(hb.cell (p:=⟨g,j,aB⟩) hg).trans (h j u hu)
structure Ny(w:aJ)(g b:Nat)(x:ak):Prop where
 tab:PE w g b
 lt:g<w.heap.size
 cf:pX w b x
 ok:lf w x
theorem Ny.below {w w':aJ} {g b:Nat} {x:ak}(h:Ny w g b x)(hb:aY w.heap.size w w'):Ny w' g b x:=⟨h.tab.below h.lt hb,cP h.lt hb.size,h.cf.below hb,h.ok.below hb⟩
theorem aEP(w:aJ)(x:ak)(h:lf w x):Ny ((w.alloc (aK #[aH x.Am (aA x.ms) x.cm,aH x.As (aA x.ss) x.cs,aH x.Ac (aA x.cy) x.cc,aG aF x.line,aG aF x.bV,aG aF x.lead,aG aF x.tr,aG aF x.bT] 26)).alloc (aK (Jr w.heap.size) 279)) (w.heap.size+1) w.heap.size x:=by have hb:aY (w.alloc (aK #[aH x.Am (aA x.ms) x.cm,aH x.As (aA x.ss) x.cs,aH x.Ac (aA x.cy) x.cc,ν x.line,ν x.bV,ν x.lead,ν x.tr,ν x.bT] 26)).heap.size (w.alloc (aK #[aH x.Am (aA x.ms) x.cm,aH x.As (aA x.ss) x.cs,aH x.Ac (aA x.cy) x.cc,ν x.line,ν x.bV,ν x.lead,ν x.tr,ν x.bT] 26)) ((w.alloc (aK #[aH x.Am (aA x.ms) x.cm,aH x.As (aA x.ss) x.cs,aH x.Ac (aA x.cy) x.cc,ν x.line,ν x.bV,ν x.lead,ν x.tr,ν x.bT] 26)).alloc (aK (Jr w.heap.size) 279)):=(aX _ _).alloc (aa _) _;refine⟨λj u hu=> ?_,by simp,(zi w x).below hb,(h.below (mQ w x)).below hb⟩;rw [cL _ _ _ _ (by simp)];exact hu
theorem aEQ(x:ak)(w:aJ)(h:lf w x)(hm:aA x.ms<=100000)(hs:aA x.ss<=100000)(hc:aA x.cy<=100000):
 aQ aM 145 #[x.val] w λe w'=>e=aT (.string (iR x))/\β w w':=by
 have HC:=η (aDf x (w.alloc (aK #[aH x.Am (aA x.ms) x.cm,aH x.As (aA x.ss) x.cs,aH x.Ac (aA x.cy) x.cc,ν x.line,ν x.bV,ν x.lead,ν x.tr,ν x.bT] 26)));have HN:=η (aEP (w.alloc (aK #[aH x.Am (aA x.ms) x.cm,aH x.As (aA x.ss) x.cs,aH x.Ac (aA x.cy) x.cc,ν x.line,ν x.bV,ν x.lead,ν x.tr,ν x.bT] 26)) x (h.below (mQ w x)));have aZ:=η (mQ w x);have aR:Hid (β w (((w.alloc (aK #[aH x.Am (aA x.ms) x.cm,aH x.As (aA x.ss) x.cs,aH x.Ac (aA x.cy) x.cc,ν x.line,ν x.bV,ν x.lead,ν x.tr,ν x.bT] 26)).alloc (aK #[aH x.Am (aA x.ms) x.cm,aH x.As (aA x.ss) x.cs,aH x.Ac (aA x.cy) x.cc,ν x.line,ν x.bV,ν x.lead,ν x.tr,ν x.bT] 26)).alloc (aK (Jr (w.alloc (aK #[aH x.Am (aA x.ms) x.cm,aH x.As (aA x.ss) x.cs,aH x.Ac (aA x.cy) x.cc,ν x.line,ν x.bV,ν x.lead,ν x.tr,ν x.bT] 26)).heap.size) 279))):=(((mQ w x).alloc (by simp) _).alloc (by simp;omega) _);have rT:=η (show iR x=if kT x.ms=aP then⟨#[109,101,109,98,101,114,115]⟩ else if lF x.ss=aP then⟨#[115,101,99,115]⟩ else if lV x.cy=aP then⟨#[99,121,99,108,101,115]⟩ else if bg x.line 0 1099511627776=aP then⟨#[108,105,110,101]⟩ else if bg x.bV 0 1099511627776=aP then⟨#[99,97,112,105,116,97,108]⟩ else if bg x.lead 0 1000=aP then⟨#[108,101,97,100]⟩ else if bg x.tr 1 64=aP then⟨#[116,114,97,100,101,115]⟩ else if bg x.bT 1 32=aP then⟨#[98,105,100,115]⟩ else⟨#[]⟩ from rfl);generalize iR x=ws at*;unfold ak.val at*;go_enter func145,ntmps145
 go_wp2_with fail
 refine HC.o.mono ?_;rintro e w2 ⟨rfl,hw2⟩;rw [hw2] at HN aR;generalize (w.alloc (aK #[aH x.Am (aA x.ms) x.cm,aH x.As (aA x.ss) x.cs,aH x.Ac (aA x.cy) x.cc,ν x.line,ν x.bV,ν x.lead,ν x.tr,ν x.bT] 26)).heap.size=b at*;go_wp2_with fail
 refine um 9 ?_;rw [eB];have t0:w2.cell? ⟨b+1,0,aB⟩=aC (.string ⟨#[109,101,109,98,101,114,115]⟩):=HN.o.tab 0 _ rfl;have t1:w2.cell? ⟨b+1,1,aB⟩=aC (.func (.func 233) #[] #[π b]):=HN.o.tab 1 _ rfl;have hlt:=HN.o.lt;have bX:=η (HN.o.below ((aX _ _).alloc (aa _) (aK #[.string ⟨#[109,101,109,98,101,114,115]⟩,.func (.func 233) #[] #[π b]] 279)));have hsz:=aR.o.size;go_wp2_with fail
 refine(aDX x b _ bX.o.cf bX.o.ok hm).mono ?_;rintro e w3 ⟨rfl,hb⟩;have fD:Hid (β w w3):=(aR.o.alloc hsz _).trans (hb.mono (by simp;omega));have jg:=η (bX.o.below hb);have q0:w3.cell? ⟨w2.heap.size,0,aB⟩=aC (.string ⟨#[109,101,109,98,101,114,115]⟩):=(hb.cell (p:=⟨w2.heap.size,0,aB⟩) (by simp)).trans (cL _ _ _ 0 rfl);cases gX:kT x.ms
 ·have HF:Hid (⟨#[109,101,109,98,101,114,115]⟩=ws):=by show _=_;rw [rT.o];simp [gX]
  go_wp2_with fail
  go_ret;exact⟨congrArg (λz=>aT (.string z)) HF.o,fD.o⟩
 have HN:=jg;have aR:=fD;go_wp2_with fail
 rw [eB];have t0:w3.cell? ⟨b+1,2,aB⟩=aC (.string ⟨#[115,101,99,115]⟩):=HN.o.tab 2 _ rfl;have t1:w3.cell? ⟨b+1,3,aB⟩=aC (.func (.func 235) #[] #[π b]):=HN.o.tab 3 _ rfl;have hlt:=HN.o.lt;have bX:=η (HN.o.below ((aX _ _).alloc (aa _) (aK #[.string ⟨#[115,101,99,115]⟩,.func (.func 235) #[] #[π b]] 279)));have hsz:=aR.o.size;go_wp2_with fail
 refine(aDY x b _ bX.o.cf bX.o.ok hs).mono ?_;rintro e w4 ⟨rfl,hb⟩;have fD:Hid (β w w4):=(aR.o.alloc hsz _).trans (hb.mono (by simp;omega));have jg:=η (bX.o.below hb);have q0:w4.cell? ⟨w3.heap.size,0,aB⟩=aC (.string ⟨#[115,101,99,115]⟩):=(hb.cell (p:=⟨w3.heap.size,0,aB⟩) (by simp)).trans (cL _ _ _ 0 rfl);cases mU:lF x.ss
 ·have HF:Hid (⟨#[115,101,99,115]⟩=ws):=by show _=_;rw [rT.o];simp [gX,mU]
  go_wp2_with fail
  go_ret;exact⟨congrArg (λz=>aT (.string z)) HF.o,fD.o⟩
 have HN:=jg;have aR:=fD;go_wp2_with fail
 rw [eB];have t0:w4.cell? ⟨b+1,4,aB⟩=aC (.string ⟨#[99,121,99,108,101,115]⟩):=HN.o.tab 4 _ rfl;have t1:w4.cell? ⟨b+1,5,aB⟩=aC (.func (.func 237) #[] #[π b]):=HN.o.tab 5 _ rfl;have hlt:=HN.o.lt;have bX:=η (HN.o.below ((aX _ _).alloc (aa _) (aK #[.string ⟨#[99,121,99,108,101,115]⟩,.func (.func 237) #[] #[π b]] 279)));have hsz:=aR.o.size;go_wp2_with fail
 refine(aDZ x b _ bX.o.cf bX.o.ok hc).mono ?_;rintro e w5 ⟨rfl,hb⟩;have fD:Hid (β w w5):=(aR.o.alloc hsz _).trans (hb.mono (by simp;omega));have jg:=η (bX.o.below hb);have q0:w5.cell? ⟨w4.heap.size,0,aB⟩=aC (.string ⟨#[99,121,99,108,101,115]⟩):=(hb.cell (p:=⟨w4.heap.size,0,aB⟩) (by simp)).trans (cL _ _ _ 0 rfl);cases jZ:lV x.cy
 ·have HF:Hid (⟨#[99,121,99,108,101,115]⟩=ws):=by show _=_;rw [rT.o];simp [gX,mU,jZ]
  go_wp2_with fail
  go_ret;exact⟨congrArg (λz=>aT (.string z)) HF.o,fD.o⟩
 have HN:=jg;have aR:=fD;go_wp2_with fail
 rw [eB];have t0:w5.cell? ⟨b+1,6,aB⟩=aC (.string ⟨#[108,105,110,101]⟩):=HN.o.tab 6 _ rfl;have t1:w5.cell? ⟨b+1,7,aB⟩=aC (.func (.func 239) #[] #[π b]):=HN.o.tab 7 _ rfl;have hlt:=HN.o.lt;have bX:=η (HN.o.below ((aX _ _).alloc (aa _) (aK #[.string ⟨#[108,105,110,101]⟩,.func (.func 239) #[] #[π b]] 279)));have hsz:=aR.o.size;go_wp2_with fail
 refine(aDa x b _ bX.o.cf).mono ?_;rintro e w6 ⟨rfl,hb⟩;have fD:Hid (β w w6):=(aR.o.alloc hsz _).trans (hb.mono (by simp;omega));have jg:=η (bX.o.below hb);have q0:w6.cell? ⟨w5.heap.size,0,aB⟩=aC (.string ⟨#[108,105,110,101]⟩):=(hb.cell (p:=⟨w5.heap.size,0,aB⟩) (by simp)).trans (cL _ _ _ 0 rfl);cases uZ:bg x.line 0 1099511627776
 ·have HF:Hid (⟨#[108,105,110,101]⟩=ws):=by show _=_;rw [rT.o];simp [gX,mU,jZ,uZ]
  go_wp2_with fail
  go_ret;exact⟨congrArg (λz=>aT (.string z)) HF.o,fD.o⟩
 have HN:=jg;have aR:=fD;go_wp2_with fail
 rw [eB];have t0:w6.cell? ⟨b+1,8,aB⟩=aC (.string ⟨#[99,97,112,105,116,97,108]⟩):=HN.o.tab 8 _ rfl;have t1:w6.cell? ⟨b+1,9,aB⟩=aC (.func (.func 241) #[] #[π b]):=HN.o.tab 9 _ rfl;have hlt:=HN.o.lt;have bX:=η (HN.o.below ((aX _ _).alloc (aa _) (aK #[.string ⟨#[99,97,112,105,116,97,108]⟩,.func (.func 241) #[] #[π b]] 279)));have hsz:=aR.o.size;go_wp2_with fail
 refine(aDb x b _ bX.o.cf).mono ?_;rintro e w7 ⟨rfl,hb⟩;have fD:Hid (β w w7):=(aR.o.alloc hsz _).trans (hb.mono (by simp;omega));have jg:=η (bX.o.below hb);have q0:w7.cell? ⟨w6.heap.size,0,aB⟩=aC (.string ⟨#[99,97,112,105,116,97,108]⟩):=(hb.cell (p:=⟨w6.heap.size,0,aB⟩) (by simp)).trans (cL _ _ _ 0 rfl);cases xU:bg x.bV 0 1099511627776
 ·have HF:Hid (⟨#[99,97,112,105,116,97,108]⟩=ws):=by show _=_;rw [rT.o];simp [gX,mU,jZ,uZ,xU]
  go_wp2_with fail
  go_ret;exact⟨congrArg (λz=>aT (.string z)) HF.o,fD.o⟩
 have HN:=jg;have aR:=fD;go_wp2_with fail
 rw [eB];have t0:w7.cell? ⟨b+1,10,aB⟩=aC (.string ⟨#[108,101,97,100]⟩):=HN.o.tab 10 _ rfl;have t1:w7.cell? ⟨b+1,11,aB⟩=aC (.func (.func 242) #[] #[π b]):=HN.o.tab 11 _ rfl;have hlt:=HN.o.lt;have bX:=η (HN.o.below ((aX _ _).alloc (aa _) (aK #[.string ⟨#[108,101,97,100]⟩,.func (.func 242) #[] #[π b]] 279)));have hsz:=aR.o.size;go_wp2_with fail
 refine(aDc x b _ bX.o.cf).mono ?_;rintro e w8 ⟨rfl,hb⟩;have fD:Hid (β w w8):=(aR.o.alloc hsz _).trans (hb.mono (by simp;omega));have jg:=η (bX.o.below hb);have q0:w8.cell? ⟨w7.heap.size,0,aB⟩=aC (.string ⟨#[108,101,97,100]⟩):=(hb.cell (p:=⟨w7.heap.size,0,aB⟩) (by simp)).trans (cL _ _ _ 0 rfl);cases Qh:bg x.lead 0 1000
 ·have HF:Hid (⟨#[108,101,97,100]⟩=ws):=by show _=_;rw [rT.o];simp [gX,mU,jZ,uZ,xU,Qh]
  go_wp2_with fail
  go_ret;exact⟨congrArg (λz=>aT (.string z)) HF.o,fD.o⟩
 have HN:=jg;have aR:=fD;go_wp2_with fail
 rw [eB];have t0:w8.cell? ⟨b+1,12,aB⟩=aC (.string ⟨#[116,114,97,100,101,115]⟩):=HN.o.tab 12 _ rfl;have t1:w8.cell? ⟨b+1,13,aB⟩=aC (.func (.func 244) #[] #[π b]):=HN.o.tab 13 _ rfl;have hlt:=HN.o.lt;have bX:=η (HN.o.below ((aX _ _).alloc (aa _) (aK #[.string ⟨#[116,114,97,100,101,115]⟩,.func (.func 244) #[] #[π b]] 279)));have hsz:=aR.o.size;go_wp2_with fail
 refine(aDd x b _ bX.o.cf).mono ?_;rintro e w9 ⟨rfl,hb⟩;have fD:Hid (β w w9):=(aR.o.alloc hsz _).trans (hb.mono (by simp;omega));have jg:=η (bX.o.below hb);have q0:w9.cell? ⟨w8.heap.size,0,aB⟩=aC (.string ⟨#[116,114,97,100,101,115]⟩):=(hb.cell (p:=⟨w8.heap.size,0,aB⟩) (by simp)).trans (cL _ _ _ 0 rfl);cases Wk:bg x.tr 1 64
 ·have HF:Hid (⟨#[116,114,97,100,101,115]⟩=ws):=by show _=_;rw [rT.o];simp [gX,mU,jZ,uZ,xU,Qh,Wk]
  go_wp2_with fail
  go_ret;exact⟨congrArg (λz=>aT (.string z)) HF.o,fD.o⟩
 have HN:=jg;have aR:=fD;go_wp2_with fail
 rw [eB];have t0:w9.cell? ⟨b+1,14,aB⟩=aC (.string ⟨#[98,105,100,115]⟩):=HN.o.tab 14 _ rfl;have t1:w9.cell? ⟨b+1,15,aB⟩=aC (.func (.func 245) #[] #[π b]):=HN.o.tab 15 _ rfl;have hlt:=HN.o.lt;have bX:=η (HN.o.below ((aX _ _).alloc (aa _) (aK #[.string ⟨#[98,105,100,115]⟩,.func (.func 245) #[] #[π b]] 279)));have hsz:=aR.o.size;go_wp2_with fail
 refine(aDe x b _ bX.o.cf).mono ?_;rintro e tu ⟨rfl,hb⟩;have fD:Hid (β w tu):=(aR.o.alloc hsz _).trans (hb.mono (by simp;omega));have jg:=η (bX.o.below hb);have q0:tu.cell? ⟨w9.heap.size,0,aB⟩=aC (.string ⟨#[98,105,100,115]⟩):=(hb.cell (p:=⟨w9.heap.size,0,aB⟩) (by simp)).trans (cL _ _ _ 0 rfl);cases hp7:bg x.bT 1 32
 ·have HF:Hid (⟨#[98,105,100,115]⟩=ws):=by show _=_;rw [rT.o];simp [gX,mU,jZ,uZ,xU,Qh,Wk,hp7]
  go_wp2_with fail
  go_ret;exact⟨congrArg (λz=>aT (.string z)) HF.o,fD.o⟩
 have HN:=jg;have aR:=fD;go_wp2_with fail
 rw [eB];have HF:Hid (⟨#[]⟩=ws):=by show _=_;rw [rT.o];simp [gX,mU,jZ,uZ,xU,Qh,Wk,hp7]
 go_wp2_with fail
 go_ret;exact⟨congrArg (λz=>aT (.string z)) HF.o,aR.o⟩
theorem a8W {x:ak}(h:okB x=aO):iR x=⟨#[]⟩:=by unfold okB at h;simp only [je] at h;obtain⟨⟨⟨⟨⟨⟨⟨h0,h1⟩,h2⟩,h3⟩,h4⟩,h5⟩,h6⟩,h7⟩:=h;unfold iR;simp [h0,h1,h2,h3,h4,h5,h6,h7]
theorem a8V {x:ak}(h:okB x=aP):iR x=⟨#[109,101,109,98,101,114,115]⟩\/iR x=⟨#[115,101,99,115]⟩\/iR x=⟨#[99,121,99,108,101,115]⟩\/iR x=⟨#[108,105,110,101]⟩\/iR x=⟨#[99,97,112,105,116,97,108]⟩\/iR x=⟨#[108,101,97,100]⟩\/iR x=⟨#[116,114,97,100,101,115]⟩\/iR x=⟨#[98,105,100,115]⟩:=by
 unfold okB at h;unfold iR;cases h0:kT x.ms
 ·simp
 cases h1:lF x.ss
 ·simp
 cases h2:lV x.cy
 ·simp
 cases h3:bg x.line 0 1099511627776
 ·simp
 cases h4:bg x.bV 0 1099511627776
 ·simp
 cases h5:bg x.lead 0 1000
 ·simp
 cases h6:bg x.tr 1 64
 ·simp
 cases h7:bg x.bT 1 32
 ·simp
 simp [h0,h1,h2,h3,h4,h5,h6,h7] at h
def zj(x:ak):Int:=if okB x=aO then 0 else 1
theorem aEO(x:ak)(w:aJ)(h:lf w x)(hm:aA x.ms<=100000)(hs:aA x.ss<=100000)(hc:aA x.cy<=100000):
 aQ aM 78 #[x.val] w λe w'=>e=aT (ν (zj x))/\β w w':=by
 have aZ:=η (mQ w x);have HW:=η (aEQ x (w.alloc (aK #[aH x.Am (aA x.ms) x.cm,aH x.As (aA x.ss) x.cs,aH x.Ac (aA x.cy) x.cc,ν x.line,ν x.bV,ν x.lead,ν x.tr,ν x.bT] 26)) (h.below (mQ w x)) hm hs hc);have HG:=η (@a8W x);have HX:=η (@a8V x);have HC:Hid (zj x=if okB x=aO then 0 else 1):=rfl;generalize iR x=ws at*;generalize zj x=ci at*;generalize okB x=ok at*;unfold ak.val at*;go_enter func78,ntmps78
 go_wp2_with fail
 refine HW.o.mono ?_;rintro e w2 ⟨rfl,hb⟩;have HB:Hid (β w w2):=aZ.o.trans (hb.mono (by simp));cases ok
 ·have HF:Hid (ci=1):=by show _=_;rw [HC.o];rfl
  rcases HX.o rfl with rfl|rfl|rfl|rfl|rfl|rfl|rfl|rfl
  all_goals
   go_wp2_with fail
   go_ret;exact⟨congrArg (λz=>aT (ν z)) HF.o.symm,HB.o⟩
 have HF:Hid (ci=0):=by show _=_;rw [HC.o];rfl
 obtain rfl:=HG.o rfl;go_wp2_with fail
 go_ret;exact⟨congrArg (λz=>aT (ν z)) HF.o.symm,HB.o⟩
structure wJ(w:aJ)(base:Nat)(x:ak):Prop where
 m:w.ownsRow base 67 2 (aH x.Am (aA x.ms) x.cm) (aA x.ms) (gp x.ms)
 s:w.ownsRow base 69 2 (aH x.As (aA x.ss) x.cs) (aA x.ss) (gp x.ss)
 c:w.ownsRow base 71 4 (aH x.Ac (aA x.cy) x.cc) (aA x.cy) (uS x.cy)
theorem wJ.below {w w':aJ} {b:Nat} {x:ak}(h:wJ w b x)(hb:aY w.heap.size w w'):wJ w' b x:=⟨gh h.m hb,gh h.s hb,gh h.c hb⟩
theorem a6Y(L:List Pr):aA (gp L)=aA L*2:=by
 induction L with
 |nil=>rfl
 |cons x l ih=>simp only [gp,wZ,cN,uL] at*;rw [ih];simp [Pr.cells];omega
theorem aEa(L:List Cy):aA (uS L)=aA L*4:=by
 induction L with
 |nil=>rfl
 |cons x l ih=>simp only [uS,wZ,cN,uL] at*;rw [ih];simp [Cy.cells];omega
theorem a6Z(L:List Pr):∀u∈gp L,u.oneCell'=aO:=by intro u hu;obtain⟨x,_,hx⟩:=List.mem_flatMap.1 hu;simp [Pr.cells] at hx;rcases hx with rfl|rfl<;>rfl
theorem aEb(L:List Cy):∀u∈uS L,u.oneCell'=aO:=by intro u hu;obtain⟨x,_,hx⟩:=List.mem_flatMap.1 hu;simp [Cy.cells] at hx;rcases hx with rfl|rfl|rfl|rfl<;>rfl
structure uq(w:aJ)(x:ak):Prop where
 ok:lf w x
 nm:x.Am=aB->aA x.ms=0
 ns:x.As=aB->aA x.ss=0
 nc:x.Ac=aB->aA x.cy=0
theorem uq.below {w w':aJ} {x:ak}(h:uq w x)(hb:aY w.heap.size w w'):uq w' x:=⟨h.ok.below hb,h.nm,h.ns,h.nc⟩
theorem wJ.src {w:aJ} {base:Nat} {x:ak}(h:wJ w base x):uq w x:=⟨⟨aW.cA h.m,aW.cA h.s,aW.cA h.c⟩,AU h.m,AU h.s,AU h.c⟩
theorem a2R(x:ak)(w:aJ)(h:uq w x)(hm:aA x.ms<=100000)(hs:aA x.ss<=100000)(hc:aA x.cy<=100000):
 aQ aM 32 #[x.val] w λe w'=>∃Am cm As cs Ac cc,e=aT ({x with Am:=Am,cm:=cm,As:=As,cs:=cs,Ac:=Ac,cc:=cc}:ak).val/\wJ w' w.heap.size {x with Am:=Am,cm:=cm,As:=As,cs:=cs,Ac:=Ac,cc:=cc}/\β w w':=by
 have H:=η h;clear h;have HM:=η (λW hW=>aE7 (aA x.ms) (gp x.ms) x.Am x.cm W (H.o.ok.below hW).m (a6Y _) H.o.nm (a6Z _) hm);have HS:=η (λW hW=>aE8 (aA x.ss) (gp x.ss) x.As x.cs W (H.o.ok.below hW).s (a6Y _) H.o.ns (a6Z _) hs);have HC:=η (λW hW=>aE2 (aA x.cy) (uS x.cy) x.Ac x.cc W (H.o.ok.below hW).c (aEa _) H.o.nc (aEb _) hc);have aZ:Hid (β w ((w.alloc (aK #[aH x.Am (aA x.ms) x.cm,aH x.As (aA x.ss) x.cs,aH x.Ac (aA x.cy) x.cc,ν x.line,ν x.bV,ν x.lead,ν x.tr,ν x.bT] 26)).alloc (aK #[aH aB 0 0,aH aB 0 0,aH aB 0 0,ν 0,ν 0,ν 0,ν 0,ν 0] 26))):=η (σ.alloc (by simp) _);have HX:Hid (((w.alloc (aK #[aH x.Am (aA x.ms) x.cm,aH x.As (aA x.ss) x.cs,aH x.Ac (aA x.cy) x.cc,ν x.line,ν x.bV,ν x.lead,ν x.tr,ν x.bT] 26)).alloc (aK #[aH aB 0 0,aH aB 0 0,aH aB 0 0,ν 0,ν 0,ν 0,ν 0,ν 0] 26)).heap[w.heap.size]? =aC (aK x.vals 26 (0,0))):=η ((fG _ _ (by simp)).trans (cO w _));have HY:Hid (((w.alloc (aK #[aH x.Am (aA x.ms) x.cm,aH x.As (aA x.ss) x.cs,aH x.Ac (aA x.cy) x.cc,ν x.line,ν x.bV,ν x.lead,ν x.tr,ν x.bT] 26)).alloc (aK #[aH aB 0 0,aH aB 0 0,aH aB 0 0,ν 0,ν 0,ν 0,ν 0,ν 0] 26)).heap[w.heap.size+1]? =aC (aK #[aH aB 0 0,aH aB 0 0,aH aB 0 0,ν 0,ν 0,ν 0,ν 0,ν 0] 26 (0,0))):=η (by have h1:=cO (w.alloc (aK #[aH x.Am (aA x.ms) x.cm,aH x.As (aA x.ss) x.cs,aH x.Ac (aA x.cy) x.cc,ν x.line,ν x.bV,ν x.lead,ν x.tr,ν x.bT] 26)) (aK #[aH aB 0 0,aH aB 0 0,aH aB 0 0,ν 0,ν 0,ν 0,ν 0,ν 0] 26);rw [DB] at h1;exact h1);have hz0:w.heap.size+1<((w.alloc (aK #[aH x.Am (aA x.ms) x.cm,aH x.As (aA x.ss) x.cs,aH x.Ac (aA x.cy) x.cc,ν x.line,ν x.bV,ν x.lead,ν x.tr,ν x.bT] 26)).alloc (aK #[aH aB 0 0,aH aB 0 0,aH aB 0 0,ν 0,ν 0,ν 0,ν 0,ν 0] 26)).heap.size:=by simp
 unfold ak.val;clear hm hs hc H;go_enter func32,ntmps32
 go_upto_region 1 with fail
 generalize ((w.alloc (aK #[aH x.Am (aA x.ms) x.cm,aH x.As (aA x.ss) x.cs,aH x.Ac (aA x.cy) x.cc,ν x.line,ν x.bV,ν x.lead,ν x.tr,ν x.bT] 26)).alloc (aK #[aH aB 0 0,aH aB 0 0,aH aB 0 0,ν 0,ν 0,ν 0,ν 0,ν 0] 26))=w1 at*;obtain⟨bx,bU⟩:∃bx,bx=w.heap.size:=⟨_,rfl⟩;have dL:=η bU;rw [<-bU] at HX HY hz0 ⊢;clear bU;obtain⟨d0,d1,d2⟩:=Ng HX;have iB:bx<w1.drew.heap.size:=by have:w1.drew.heap.size=w1.heap.size:=rfl;omega
 have aR:Hid (β w w1.drew):=η aZ.o.drew;have o7:Hid (w1.drew.heap[bx]? =aC (aK x.vals 26 (0,0))):=η HX.o;have EU:Hid (w1.drew.heap[bx+1]? =aC (aK #[aH aB 0 0,aH aB 0 0,aH aB 0 0,ν 0,ν 0,ν 0,ν 0,ν 0] 26 (0,0))):=η HY.o;have NA:bx+1<w1.drew.heap.size:=hz0;clear HX HY aZ hz0;refine Yd (S:=λW=>W.cell? ⟨bx,0,aB⟩=aC (aH x.Am (aA x.ms) x.cm)/\W.cell? ⟨bx,1,aB⟩=aC (aH x.As (aA x.ss) x.cs)/\W.cell? ⟨bx,2,aB⟩=aC (aH x.Ac (aA x.cy) x.cc)) [9,10,11,12,13,14] (by kernel_rfl) ⟨d0,d1,d2⟩ (λhHeld=> ?_);have bO:Hid (∀W,aY w1.drew.heap.size w1.drew W->W.cell? ⟨bx,0,aB⟩=aC (aH x.Am (aA x.ms) x.cm)/\W.cell? ⟨bx,1,aB⟩=aC (aH x.As (aA x.ss) x.cs)/\W.cell? ⟨bx,2,aB⟩=aC (aH x.Ac (aA x.cy) x.cc)):=η λW hW=>⟨((fA hW).1 _ _ iB).trans d0,((fA hW).1 _ _ iB).trans d1,((fA hW).1 _ _ iB).trans d2⟩
 clear d0 d1 d2;generalize w1.drew=w2 at*;refine ld (i:=0) (v:=π bx) rfl (by kernel_rfl) (by kernel_rfl) (by kernel_rfl) (by kernel_rfl) (by kernel_rfl) (by kernel_rfl) (λ_ _ _ h=>h) (aS ⟨by rfl,λw' hSw=>by obtain⟨s0,s1,s2⟩:=hSw;go_simp⟩) hHeld ?_;refine ld (i:=1) (v:=aH x.Am (aA x.ms) x.cm) rfl (by kernel_rfl) (by kernel_rfl) (by kernel_rfl) (by kernel_rfl) (by kernel_rfl) (by kernel_rfl) (λ_ _ _ h=>h) (aS ⟨by rfl,λw' hSw=>by obtain⟨s0,s1,s2⟩:=hSw;go_simp⟩) hHeld ?_;refine ld (i:=3) (v:=bF (aC ⟨bx,1,aB⟩)) rfl (by kernel_rfl) (by kernel_rfl) (by kernel_rfl) (by kernel_rfl) (by kernel_rfl) (by kernel_rfl) (λ_ _ _ h=>h) (aS ⟨by rfl,λw' hSw=>by obtain⟨s0,s1,s2⟩:=hSw;go_simp⟩) hHeld ?_;refine ld (i:=4) (v:=aH x.As (aA x.ss) x.cs) rfl (by kernel_rfl) (by kernel_rfl) (by kernel_rfl) (by kernel_rfl) (by kernel_rfl) (by kernel_rfl) (λ_ _ _ h=>h) (aS ⟨by rfl,λw' hSw=>by obtain⟨s0,s1,s2⟩:=hSw;go_simp⟩) hHeld ?_;refine ld (i:=6) (v:=bF (aC ⟨bx,2,aB⟩)) rfl (by kernel_rfl) (by kernel_rfl) (by kernel_rfl) (by kernel_rfl) (by kernel_rfl) (by kernel_rfl) (λ_ _ _ h=>h) (aS ⟨by rfl,λw' hSw=>by obtain⟨s0,s1,s2⟩:=hSw;go_simp⟩) hHeld ?_;refine ld (i:=7) (v:=aH x.Ac (aA x.cy) x.cc) rfl (by kernel_rfl) (by kernel_rfl) (by kernel_rfl) (by kernel_rfl) (by kernel_rfl) (by kernel_rfl) (λ_ _ _ h=>h) (aS ⟨by rfl,λw' hSw=>by obtain⟨s0,s1,s2⟩:=hSw;go_simp⟩) hHeld ?_;clear hHeld;refine tx (rs:= [2]) (by kernel_rfl) (by simp) ?_;refine gq.cons rfl (λK hK=> ?_) gq.nil;go_simp
 go_at_call 81
 refine(HM.o _ aR.o).mono ?_;rintro e w3 ⟨vm,rfl,Qg,Vn⟩;have aV:Hid (β w2 w3):=η Vn;have uC:Hid (β w w3):=τ aR Vn;have LJ:=η (iC Qg aR.o.size);clear Qg Vn;go_wp2_with fail
 refine hK.o _ _ (λ_=>bO.o _ aV.o) (λ_=> ?_);clear hK K;refine Fl (i:=9) (v:=π bx) rfl (by kernel_rfl) (by kernel_rfl) (by kernel_rfl) (by kernel_rfl) (λ_ _ _ h=>h) (aS ⟨by rfl,λw' _=>by go_simp⟩) ?_;refine tx (rs:= [5]) (by kernel_rfl) (by simp) ?_;refine gq.cons rfl (λK hK=> ?_) gq.nil;go_simp
 go_at_call 82
 refine(HS.o _ uC.o).mono ?_;rintro e w4 ⟨vs,rfl,Wi,F4⟩;have ag:Hid (β w2 w4):=τ aV F4;have J6:Hid (β w w4):=τ uC F4;have Zm:=η (gh LJ.o F4);have Fz:=η (iC Wi uC.o.size);clear Wi F4 LJ;go_wp2_with fail
 refine hK.o _ _ (λ_=>bO.o _ ag.o) (λ_=> ?_);clear hK K;refine tx (rs:= [8]) (by kernel_rfl) (by simp) ?_;refine gq.cons rfl (λK hK=> ?_) gq.nil;go_simp
 go_at_call 83
 refine(HC.o _ J6.o).mono ?_;rintro e w5 ⟨vc,rfl,Bf,gF⟩;have ar:Hid (β w2 w5):=τ ag gF;have a9D:Hid (β w w5):=τ J6 gF;have Ta:=η (gh Zm.o gF);have Tc:=η (gh Fz.o gF);have qV:=η (iC Bf J6.o.size);clear Bf gF Zm Fz;go_wp2_with fail
 refine hK.o _ _ (λ_=>bO.o _ ar.o) (λ_=> ?_);clear hK K;refine tx (rs:= [10]) (by kernel_rfl) (by simp) ?_;refine gq.cons rfl (λK hK=> ?_) gq.nil;have Pa:=(ar.o.block bx iB).trans o7.o;have c0:=bH _ bx 0 _ _ (0,0) Pa;have f0:∀j,w5.frozen? ⟨bx,j,aB⟩=aP:=λj=>by simp [iK,Pa]
 have Ai:=η Pa;obtain⟨Am,cm,hvm⟩:=bL Ta.o;obtain⟨As,cs,hvs⟩:=bL Tc.o;obtain⟨Ac,cc,hvc⟩:=bL qV.o;subst hvm hvs hvc;have a4D:bx+1<w5.heap.size:=cP NA ar.o.size;clear Pa;unfold ak.vals at c0;go_simp
 refine hK.o _ _ (λh=>absurd h (by decide)) (λ_=> ?_);clear hK K;refine Fl (i:=11) (v:=bF (aC ⟨bx,1,aB⟩)) rfl (by kernel_rfl) (by kernel_rfl) (by kernel_rfl) (by kernel_rfl) (λ_ _ _ h=>h) (aS ⟨by rfl,λw' _=>by go_simp⟩) ?_;refine tx (rs:= [12]) (by kernel_rfl) (by simp) ?_;refine gq.cons rfl (λK hK=> ?_) gq.nil;go_simp
 refine hK.o _ _ (λh=>absurd h (by decide)) (λ_=> ?_);clear hK K;refine Fl (i:=13) (v:=bF (aC ⟨bx,2,aB⟩)) rfl (by kernel_rfl) (by kernel_rfl) (by kernel_rfl) (by kernel_rfl) (λ_ _ _ h=>h) (aS ⟨by rfl,λw' _=>by go_simp⟩) ?_;refine tx (rs:= [14]) (by kernel_rfl) (by simp) ?_;refine gq.cons rfl (λK hK=> ?_) gq.nil;go_simp
 refine hK.o _ _ (λh=>absurd h (by decide)) (λ_=> ?_);clear hK K;refine Yb (by kernel_rfl) ?_ _;have q3:=bH _ bx 3 _ _ (0,0) Ai.o;have q4:=bH _ bx 4 _ _ (0,0) Ai.o;have q5:=bH _ bx 5 _ _ (0,0) Ai.o;have q6:=bH _ bx 6 _ _ (0,0) Ai.o;have q7:=bH _ bx 7 _ _ (0,0) Ai.o;have hy:=(ar.o.block (bx+1) NA).trans EU.o;have y0:=bH _ (bx+1) 0 _ _ (0,0) hy;have y1:=bH _ (bx+1) 1 _ _ (0,0) hy;have y2:=bH _ (bx+1) 2 _ _ (0,0) hy;have y3:=bH _ (bx+1) 3 _ _ (0,0) hy;have y4:=bH _ (bx+1) 4 _ _ (0,0) hy;have y5:=bH _ (bx+1) 5 _ _ (0,0) hy;have y6:=bH _ (bx+1) 6 _ _ (0,0) hy;have y7:=bH _ (bx+1) 7 _ _ (0,0) hy;have fy:∀j,w5.frozen? ⟨bx+1,j,aB⟩=aP:=λj=>by simp [iK,hy]
 unfold ak.vals at q3 q4 q5 q6 q7;clear hy;go_wp2_with fail
 refine bodyPost_ret (v:=({x with Am:=Am,cm:=cm,As:=As,cs:=cs,Ac:=Ac,cc:=cc}:ak).val) (by simp [results,results32,go_sem,y0,y1,y2,y3,y4,y5,y6,y7,ak.val]) rfl ?_;have dW:w.heap.size<=bx:=by rw [dL.o];exact aa _
 have aMe:w.heap.size<=bx+1:=Nat.le_succ_of_le dW;have b1:=Ai.o;have b2:=(ar.o.block (bx+1) NA).trans EU.o;have hne:∀ {e:bY} {s n:Nat} {v:aN} {xs:List aN},w5.ownsRow w.heap.size e s v n xs->e≠26->∀k,v.ownBlock=aC k->¬(k=bx\/k=bx+1):=λho he k hk hh=>by
  rcases hh with rfl|rfl
  ·exact gP ho b1 (Ne.symm he) hk
  exact gP ho b2 (Ne.symm he) hk
 refine⟨Am,cm,As,cs,Ac,cc,rfl, ?_, ?_⟩
 ·refine⟨bC.own (S:=λk=>k=bx\/k=bx+1) ?_ Ta.o (hne Ta.o (by decide)),bC.own (S:=λk=>k=bx\/k=bx+1) ?_ Tc.o (hne Tc.o (by decide)),bC.own (S:=λk=>k=bx\/k=bx+1) ?_ qV.o (hne qV.o (by decide))⟩
  all_goals
   repeat (refine bC.setCell ?_ (by first|exact aS (aS rfl)|exact aS (aU rfl)) _)
   exact bC.refl _ _
 repeat (refine E8 ?_ (by assumption) _)
 exact a9D.o
def FZ(x:ak)(i:Int):Prop:=1<=i/\i<=aA x.ms
instance(x:ak)(i:Int):Decidable (FZ x i):=inferInstanceAs (Decidable (_/\_))
def ud(x:ak)(i:Int):Pr:=if FZ x i then x.ms.getD (i-1).toNat ⟨0,0⟩ else⟨0,0⟩
def jb(x:ak)(i:Int):Int:=if FZ x i then 0 else 9
theorem a5b {x:ak} {i:Int}(h:¬FZ x i):ud x i=⟨0,0⟩/\jb x i=9:=by unfold ud jb;rw [ifN h,ifN h];exact⟨rfl,rfl⟩
theorem aI0 {x:ak} {k:Nat}(h:k<aA x.ms):ud x ((k:Int)+1)=x.ms[k]/\jb x ((k:Int)+1)=0:=by
 have h1:FZ x ((k:Int)+1):=by unfold FZ;omega
 unfold ud jb;rw [ifP h1,ifP h1,show ((k:Int)+1-1).toNat=k by omega];exact⟨by simp [List.getD,h],rfl⟩
theorem Po(x:ak)(i:Int)(w:aJ)(h:lf w x)(hI:aL i):
 aQ aM 147 #[x.val,ν i] w λe w'=>e=aT (bB #[bQ #[ν (ud x i).a,ν (ud x i).b],ν (jb x i)])/\β w w':=by
 have aZ:=η (mQ w x);have jP:=(zi w x).c0;have HS:=η (h.m.below (mQ w x));have DV:=hI.1;have hI2:=hI.2;by_cases h1:i<1
 ·have hP:=a5b (x:=x) (i:=i) (by unfold FZ;omega);rw [hP.1,hP.2];unfold ak.val at*;go_enter a0Z,a0t
  go_wp2_with fail
  exact bodyPost_ret (v:=bB #[bQ #[ν 0,ν 0],ν 9]) (by simp [results,a1I,go_sem]) rfl ⟨rfl,by repeat (first|exact aZ.o|refine E8 ?_ (by simp) _|refine rF ?_ (by simp) _)⟩
 by_cases h2:i<=aA x.ms
 ·obtain⟨k,hk⟩:∃k:Nat,k=(i-1).toNat:=⟨_,rfl⟩;have eE:k<aA x.ms:=by omega
  have hik:i=(k:Int)+1:=by omega
  have hP:=aI0 eE;rw [<-hik] at hP;rw [hP.1,hP.2];have em:i-1=(k:Int):=by omega
  have h3:¬i>(aA x.ms:Int):=by omega
  clear hP hk hik h2;unfold ak.val at*;obtain⟨b,o,hA,hb,d0,d1⟩:=Bz HS.o eE;rw [hA] at aZ jP d0 d1 ⊢;have mf:=η hb;generalize x.ms[k]=p at*;go_enter a0Z,a0t
  go_wp2_with fail
  exact bodyPost_ret (v:=bB #[bQ #[ν p.a,ν p.b],ν 0]) (by simp [results,a1I,go_sem]) rfl ⟨rfl,by repeat (first|exact aZ.o|refine E8 ?_ (by simp) _|refine rF ?_ (by simp) _)⟩
 have hP:=a5b (x:=x) (i:=i) (by unfold FZ;omega);rw [hP.1,hP.2];clear hP;unfold ak.val at*;go_enter a0Z,a0t
 go_wp2_with fail
 exact bodyPost_ret (v:=bB #[bQ #[ν 0,ν 0],ν 9]) (by simp [results,a1I,go_sem]) rfl ⟨rfl,by repeat (first|exact aZ.o|refine E8 ?_ (by simp) _|refine rF ?_ (by simp) _)⟩
def FX(p q:Int×Int):Int:=if qm p.1 q.1≠0 then qm p.1 q.1 else qm p.2 q.2
def pQ(p:Int×Int):Int:=p.1*18446744073709551616+p.2
theorem aHd {p q:Int×Int}(hp:aL p.2)(hq:aL q.2):FX p q<0↔pQ p<pQ q:=by obtain⟨a,b⟩:=p;obtain⟨c,d⟩:=q;unfold aL at hp hq;simp only [FX,qm,pQ] at*;split<;>split at* <;>(try split at*)<;>(try split)<;>omega
def Cq(w:aJ)(B:Nat)(A:Option aj)(ks:List (Int×Int)):Prop:=
 ∀j (hj:j<aA ks),∃b o g c,A=aC ⟨b,o,aB⟩/\b<B/\w.cell? ⟨b,o+j,aB⟩=aC (aH (aC ⟨g,0,aB⟩) 2 c)/\g<B/\w.cell? ⟨g,0,aB⟩=aC (ν ks[j].1)/\w.cell? ⟨g,1,aB⟩=aC (ν ks[j].2)
theorem Cq.keep {w w':aJ} {B:Nat} {A:Option aj} {ks:List (Int×Int)}(h:Cq w B A ks)(hk:∀b o,b<B->w'.cell? ⟨b,o,aB⟩=w.cell? ⟨b,o,aB⟩):Cq w' B A ks:=λj hj=>by obtain⟨b,o,g,c,h1,h2,h3,h4,h5,h6⟩:=h j hj;exact⟨b,o,g,c,h1,h2,(hk _ _ h2).trans h3,h4,(hk _ _ h4).trans h5,(hk _ _ h4).trans h6⟩
theorem aEI(p q:Int×Int)(g1 c1 g2 c2:Nat)(w:aJ)(a0:w.cell? ⟨g1,0,aB⟩=aC (aG aF p.1))(a1:w.cell? ⟨g1,1,aB⟩=aC (aG aF p.2))(b0:w.cell? ⟨g2,0,aB⟩=aC (aG aF q.1))(b1:w.cell? ⟨g2,1,aB⟩=aC (aG aF q.2)):
 aQ aM 248 #[aH (aC ⟨g1,0,aB⟩) 2 c1,aH (aC ⟨g2,0,aB⟩) 2 c2] w λe w'=>e=aT (ν (FX p q))/\w=w':=by
 have wO:=η (λW=>V6 p.1 q.1 W);have kN:=η (λW=>V6 p.2 q.2 W);unfold FX;obtain⟨x,hx⟩:∃x,x=qm p.1 q.1:=⟨_,rfl⟩;obtain⟨y,hy⟩:∃y,y=qm p.2 q.2:=⟨_,rfl⟩;rw [<-hx] at wO ⊢;rw [<-hy] at kN ⊢;clear hx hy;by_cases h0:x≠0
 ·rw [ifP h0];have hx1:(x !=0)=aO:=by simpa using h0
  clear h0;go_enter a0j,a1D
  go_wp2_with fail
  refine um 1 ?_;rw [eB];go_wp2_with (go_at_call 213;refine(wO.o _).mono ?_;rintro e w' ⟨rfl,rfl⟩)
  go_ret;exact⟨rfl,rfl⟩
 have hx0:x=0:=by omega
 subst hx0;rw [ifN (by simp)];clear h0;by_cases h1:y≠0
 ·have KO:(y==0)=aP:=by simpa using h1
  have IQ:(y !=0)=aO:=by simpa using h1
  clear h1;go_enter a0j,a1D
  go_wp2_with fail
  refine um 2 ?_;rw [eB];go_wp2_with (go_at_call 213;refine(wO.o _).mono ?_;rintro e w' ⟨rfl,rfl⟩)
  rw [eB];go_wp2_with (go_at_call 213;refine(kN.o _).mono ?_;rintro e w' ⟨rfl,rfl⟩)
  go_ret;exact⟨rfl,rfl⟩
 have KO:y=0:=by omega
 subst KO;clear h1;go_enter a0j,a1D
 go_wp2_with fail
 refine um 3 ?_;rw [eB];go_wp2_with (go_at_call 213;refine(wO.o _).mono ?_;rintro e w' ⟨rfl,rfl⟩)
 rw [eB];go_wp2_with (go_at_call 213;refine(kN.o _).mono ?_;rintro e w' ⟨rfl,rfl⟩)
 rw [eB];go_wp2_with fail
 go_ret;exact⟨rfl,rfl⟩
theorem aJs(p q:Int×Int)(g1 c1 g2 c2:Nat)(w:aJ)(a0:w.cell? ⟨g1,0,aB⟩=aC (aG aF p.1))(a1:w.cell? ⟨g1,1,aB⟩=aC (aG aF p.2))(b0:w.cell? ⟨g2,0,aB⟩=aC (aG aF q.1))(b1:w.cell? ⟨g2,1,aB⟩=aC (aG aF q.2)):
 aQ aM 209 #[aH (aC ⟨g1,0,aB⟩) 2 c1,aH (aC ⟨g2,0,aB⟩) 2 c2] w λe w'=>e=aT (ν (FX p q))/\w=w':=by
 have HC:=η (aEI p q g1 c1 g2 c2 w a0 a1 b0 b1);go_enter func209,ntmps209
 go_wp2_with (go_at_call 248;refine HC.o.mono ?_;rintro e w' ⟨rfl,rfl⟩)
 go_ret;exact⟨rfl,rfl⟩
theorem aIy(ks:List (Int×Int))(bc:Nat)(A:Option aj)(c:Nat)(x y:Nat)(hx:x<aA ks)(hy:y<aA ks)(w:aJ)(hc:w.cell? ⟨bc,0,aB⟩=aC (aH A (aA ks) c))(hk:Cq w w.heap.size A ks):
 aQ aM 208 #[ν (x:Int),ν (y:Int),π bc] w λe w'=>e=aT (ν (FX ks[x] ks[y]))/\∃q,w'=w.drewN q:=by
 obtain⟨b,o,g1,c1,rfl,h2,h3,h4,h5,h6⟩:=hk x hx;obtain⟨b',o',g2,c2,e,i2,i3,i4,i5,i6⟩:=hk y hy;injection e with e;injection e with e1 e2;subst e1 e2;have HC:Hid (∀n,aQ aM 209 #[aH (aC ⟨g1,0,aB⟩) 2 c1,aH (aC ⟨g2,0,aB⟩) 2 c2] (w.drewN n) λe w'=>e=aT (ν (FX ks[x] ks[y]))/\w'=w.drewN n):=η (λn=>(aJs ks[x] ks[y] g1 c1 g2 c2 (w.drewN n) h5 h6 i5 i6).mono λ_ _ ⟨a,b⟩=>⟨a,b.symm⟩);have j1:(0:Int)<=(x:Int):=by omega
 have j2:(x:Int)<(aA ks:Int):=by omega
 have j3:(0:Int)<=(y:Int):=by omega
 have j4:(y:Int)<(aA ks:Int):=by omega
 go_enter func208,ntmps208
 go_wp2
 go_quiet ((go_at_call 209;exact J1 (HC _)))
 go_wp2
 go_ret;exact⟨rfl,_,rfl⟩
section
open Go.Lib Go.Sort Go.Shelf Go.Proofs.YtdokipdchlcmeaaGreat.pH Go.Proofs.YtdokipdchlcmeaaGreat.ShareLaw
def NJ(ks:List (Int×Int))(z:Int):Int:=pQ (ks.getD z.toNat (0,0))
structure Jb(ks:List (Int×Int))(is:List Nat):Prop where
 len:aA is=aA ks
 lt:∀i∈is,i<aA ks
 all:∀j,j<aA ks->j∈is
 wD:is.Pairwise (λa b:Nat=>pH.L (NJ ks) (a:Int) (b:Int))
def Sl(ks:List (Int×Int))(w:aJ)(e:dU)(w':aJ):Prop:=
 ∃bw is,e=aT (aH (aC ⟨bw,0,aB⟩) (aA ks) (aA ks))/\Jb ks is/\w.heap.size<=bw/\(∀t (ht:t<aA is),w'.cell? ⟨bw,t,aB⟩=aC (ν (is[t]:Int)))/\bw<w'.heap.size/\β w w'
theorem aHI {ks:List (Int×Int)} {f g:Nat->Int}(hm:cZ f g 0 (aA ks))(hf:∀p,p<aA ks->f p=p)(hs:cJ (NJ ks) g 0 (aA ks)):∃is,Jb ks is/\∀t (ht:t<aA is),g t=(is[t]:Int):=by
 have hex:∀t,t<aA ks->∃m:Nat,m<aA ks/\g t=(m:Int):=λt ht=>by obtain⟨j,_,hj,e⟩:=hm.to t (bK _) ht;exact⟨j,hj,by rw [e,hf j hj]⟩
 have hn:∀t,t<aA ks->((g t).toNat<aA ks/\((g t).toNat:Int)=g t):=λt ht=>by obtain⟨m,h1,h2⟩:=hex t ht;rw [h2];simpa using h1
 refine⟨(dR (aA ks)).map λt=>(g t).toNat,⟨by simp,λi hi=> ?_,λj hj=> ?_, ?_⟩,λt ht=> ?_⟩
 ·obtain⟨t,ht,rfl⟩:=df.1 hi;exact(hn t (nP.1 ht)).1
 ·obtain⟨i,_,hi,e⟩:=hm.of j (bK _) hj;refine df.2 ⟨i,nP.2 hi, ?_⟩;rw [<-e,hf j hj];simp
 ·rw [BK];refine Oz ?_ (List.pairwise_lt_range (n:=aA ks));intro a b ha hb hab;have h1:=hn a (nP.1 ha);have h2:=hn b (nP.1 hb);rw [h1.2,h2.2];exact hs a b (bK _) hab (nP.1 hb)
 simp only [iV,List.length_range] at ht;simp only [wk,List.getElem_range];exact(hn t ht).2.symm
theorem aKk(ks:List (Int×Int))(A:Option aj)(c bc bw:Nat)(w:aJ)(hn:aA ks<=1000000)(hI:∀p∈ks,aL p.2)(hc:w.cell? ⟨bc,0,aB⟩=aC (aH A (aA ks) c))(hk:Cq w bw A ks)(hw:fS w bw 3 (eH (aA ks) λi=>(i:Int)))(h1:bc<bw)(h5:bw<w.heap.size):
 aQ aM 207 #[aH (aC ⟨bw,0,aB⟩) (aA ks) (aA ks),.func (.func 208) #[] #[π bc]] w λe w'=>e=aT (bB #[])/\∃is,Jb ks is/\(∀t (ht:t<aA is),w'.cell? ⟨bw,t,aB⟩=aC (ν (is[t]:Int)))/\w.grownBy w' (aC bw):=by
 have hlen:(eH (aA ks) λi=>(i:Int)).toArray.size=aA ks:=by simp [rD]
 have hH:Holds (aG aF) w bw 0 (eH (aA ks) λi=>(i:Int)).toArray:=by
  intro j hj;rw [hlen] at hj;refine⟨?_,hw.free _⟩;have hl:0+j<aA (eH (aA ks) λi=>(i:Int)):=by rw [rD];omega
  rw [hw.cell hl];have e:=Hj (aA ks) (λi=>(i:Int)) hj;unfold fn at e;rw [e,Dy];simp
 have R:Row1 (aG aF) w bw 0 (eH (aA ks) λi=>(i:Int)).toArray:=⟨a3D,hH,h5⟩;have T:tD w bw 0 (aA ks) 208 #[π bc] (λx y=>FX (ks.getD x.toNat (0,0)) (ks.getD y.toNat (0,0))) (NJ ks) (λx=>∃m:Nat,x=m/\m<aA ks) (eH (aA ks) λi=>(i:Int)).toArray:=by
  refine⟨R,hlen,by omega,enters_of func208 (by kernel_rfl) rfl, ?_, ?_⟩
  ·rintro m os dk hdk x y ⟨xn,rfl,hx⟩ ⟨yn,rfl,hy⟩;have hg:w.grownBy (sortWorld (aG aF) w bw 0 m dk os) (aC bw):=grownBy_sortedI dk;have jY:∀b o,b<bw->(sortWorld (aG aF) w bw 0 m dk os).cell? ⟨b,o,aB⟩=w.cell? ⟨b,o,aB⟩:=λb o hb=>hg.cell_far ⟨b,o,aB⟩ (Lj hb h5) (λe=>Nat.ne_of_lt hb (pF e))
   have KD:Cq (sortWorld (aG aF) w bw 0 m dk os) (sortWorld (aG aF) w bw 0 m dk os).heap.size A ks:=λj hj=>by obtain⟨b,o,g,c,q1,q2,q3,q4,q5,q6⟩:=hk.keep jY j hj;have hz:=cP h5 hg.size;exact⟨b,o,g,c,q1,Lj q2 hz,q3,Lj q4 hz,q5,q6⟩
   refine(aIy ks bc A c xn yn hx hy _ ((jY bc 0 h1).trans hc) KD).mono ?_;rintro e w' ⟨rfl,q,rfl⟩;refine⟨by simp [hx,hy],q, #[], ?_⟩;rw [grow_empty]
  rintro x y ⟨xn,rfl,hx⟩ ⟨yn,rfl,hy⟩;unfold NJ;simp only [Int.toNat_natCast];have e1:ks.getD xn (0,0)=ks[xn]:=by simp [List.getD,hx]
  have e2:ks.getD yn (0,0)=ks[yn]:=by simp [List.getD,hy]
  rw [e1,e2];exact aHd (hI _ (cH hx)) (hI _ (cH hy))
 have RW:Rw w bw 0 (aA ks) (λx=>∃m:Nat,x=m/\m<aA ks) (eH (aA ks) λi=>(i:Int)).toArray w:=⟨hlen,SW.start hH,λp hp=>⟨p,Hj _ _ hp,hp⟩⟩;refine(a7U T (aA ks) _ w RW hn (λp hp=>Hj _ _ hp)).mono ?_;rintro e w' ⟨rfl,d',mv,hs,hR⟩;obtain⟨is,ho,his⟩:=aHI mv (λp hp=>Hj _ _ hp) hs;refine⟨rfl,is,ho, ?_, ?_⟩
 ·intro t ht;have:=hR.c T t (by rw [<-ho.len];exact ht);rw [Nat.zero_add] at this;rw [this,his t ht]
 obtain⟨m,os,e⟩:=hR.sw;rw [e];exact grownBy_sortedI d'
theorem a6E(ks:List (Int×Int))(A:Option aj)(c:Nat)(w:aJ)(hn:aA ks<=1000000)(hI:∀p∈ks,aL p.2)(hk:Cq w w.heap.size A ks):
 aQ aM 162 #[aH A (aA ks) c] w (Sl ks w):=by
 have Dg:=a5T (aA ks) hn (w.alloc (aK #[aH A (aA ks) c] 235));have aV:Hid (β w ((w.alloc (aK #[aH A (aA ks) c] 235)).alloc (aK (lH (aA ks) (aG aF 0)) 3))):=η (σ.alloc (by simp) _);have sX:Hid (fS ((w.alloc (aK #[aH A (aA ks) c] 235)).alloc (aK (lH (aA ks) (aG aF 0)) 3)) (w.heap.size+1) 3 (eH (aA ks) (λi=>if i<0 then (i:Int) else 0))):=η (by rw [a6w (g:=λi=>(i:Int))];have h1:=cO (w.alloc (aK #[aH A (aA ks) c] 235)) (aK (lH (aA ks) (aG aF 0)) 3);rw [DB] at h1;unfold fS;rw [h1];simp);have jP:Hid (((w.alloc (aK #[aH A (aA ks) c] 235)).alloc (aK (lH (aA ks) (aG aF 0)) 3)).heap[w.heap.size]? =aC (aK #[aH A (aA ks) c] 235 (0,0))):=η ((fG _ _ (by simp)).trans (cO w _));have hz2:((w.alloc (aK #[aH A (aA ks) c] 235)).alloc (aK (lH (aA ks) (aG aF 0)) 3)).heap.size=w.heap.size+1+1:=by simp
 have yJ:=η hz2;have HK:=η hk;have HI:=η hI;rw [DB] at Dg;clear hk hI hz2;go_enter func162,ntmps162
 go_wp2_with fail
 clear Dg;generalize (w.alloc (aK #[aH A (aA ks) c] 235)).alloc (aK (lH (aA ks) (aG aF 0)) 3)=w2 at*;obtain⟨bc,gF⟩:∃bc,bc=w.heap.size:=⟨_,rfl⟩;have EC:=η gF;rw [<-gF] at sX jP yJ ⊢;clear gF;have Ol:Hid (bC (λk=>k=bc+1) w2 w2):=η (bC.refl _ _);go_loopw [4,10] (λ_ i wr=>∃k:Nat,k<=aA ks/\i=ν (k:Int)/\Hid (fS wr (bc+1) 3 (eH (aA ks) (λi=>if i<k then (i:Int) else 0)))/\Hid (bC (λk=>k=bc+1) w2 wr)) (λ_ i _=>aA ks-(af i).toNat)
 case atStart=>exact⟨0,bK _,rfl,sX,Ol⟩
 case round=>
  clear sX Ol;obtain⟨k,hk,rfl,HR,HU⟩:=hrel;by_cases hlt:k<aA ks
  ·have c0:=HR.o.cell (mk0 _ k (λi=>(i:Int)) hlt);have f0:=HR.o.free k;have iB:bc+1<wr.heap.size:=by have:=HU.o.size;have:=yJ.o;omega
   have eY:(0:Int)<=(k:Int):=by omega
   have hkb:(k:Int)<(aA ks:Int):=by omega
   have lT:Hid (fS (wr.setCell ⟨bc+1,k,aB⟩ (ν (k:Int))) (bc+1) 3 (eH (aA ks) (λi=>if i<k+1 then (i:Int) else 0))):=η (by have h1:=HR.o.set k (k:Int);rw [Ru (g:=λi=>(i:Int))] at h1;exact h1);have HU1:Hid (bC (λk=>k=bc+1) w2 (wr.setCell ⟨bc+1,k,aB⟩ (ν (k:Int)))):=η (HU.o.setCell (p:=⟨bc+1,k,aB⟩) (aS rfl) _);clear HR HU;go_wp2_with fail
   go_roundw
   case rel=>exact⟨k+1,by omega,by go_num,lT,HU1⟩
   case measure=>simp [af];omega
  obtain rfl:k=aA ks:=by omega
  have iB:bc+1<wr.heap.size:=by have:=HU.o.size;have:=yJ.o;omega
  have LQ:=HR.o;rw [Rt] at LQ;have Zs:=η LQ;have hcb:wr.heap[bc]? =aC (aK #[aH A (aA ks) c] 235 (0,0)):=(HU.o.keep bc (by have:=yJ.o;omega) (by omega)).trans jP.o;have cC:Hid (β w wr):=η (aV.o.trans (HU.o.toBelow aV.o.size (λk hk=>by have:=EC.o;omega)));have HS:=η (aKk ks A c bc (bc+1) wr hn HI.o (ρ hcb) (λj hj=>by obtain⟨b,o,g,c',q1,q2,q3,q4,q5,q6⟩:=HK.o j hj;have:=EC.o;exact⟨b,o,g,c',q1,by omega,((fA (cC.o)).1 _ _ q2).trans q3,by omega,((fA cC.o).1 _ _ q4).trans q5,((fA cC.o).1 _ _ q4).trans q6⟩) Zs.o (by omega) iB);clear LQ Zs HR hcb HU;go_wp2_with (go_at_call 207;refine HS.o.mono ?_;rintro e w5 ⟨rfl,is,ho,hc5,ej⟩;have HO:=η ho;have Aj:=η hc5;have B2:=η ej;clear ho hc5 ej)
  go_ret;refine⟨bc+1,is,rfl,HO.o,by have:=EC.o;omega,Aj.o,cP iB B2.o.size, ?_⟩;exact cC.o.grown B2.o cC.o.size (λk hk=>by injection hk with hk;have:=EC.o;omega)
end
section
open Go.Maps Go.MapKept Go.ChangeMaps
section
variable {κ:Type} {P:Program} {k:bY} {enc:κ->aN}
structure qc(P:Program)(k:bY)(enc:κ->aN)(w:aJ)(b r:Nat)(m:List (κ×aN))(done:List κ):Prop where
 it:∃es clock since tj c0,w.heap[b]? =aC (.map es clock)/\es.toList.map (λe=>(e.key,e.val))=m.map (λp=>(enc p.1,p.2))/\Stamped es clock/\w.heap[r]? =aC (.mapIter (aC b) since tj c0)/\(∀x∈es.toList,x.born<since)/\since<=c0/\since<=clock/\
  (∀e∈es.toList,∀q,e.key=enc q->(tj.contains e.born=aO↔q∈done))/\tj.size=aA done
 apart:wG m
 once:done.Nodup
 sub:∀q∈done,∃v,(q,v)∈m
variable {w w':aJ} {b r:Nat} {m:List (κ×aN)} {done:List κ}
theorem qc.ne(h:qc P k enc w b r m done):r≠b:=by obtain⟨es,clock,since,tj,c0,hb,_,_,hr,_⟩:=h.it;rintro rfl;rw [hb] at hr;cases hr
theorem qc.aIc(h:qc P k enc w b r m done)(eb:w'.heap[b]? =w.heap[b]?)(er:w'.heap[r]? =w.heap[r]?):qc P k enc w' b r m done:=by obtain⟨es,clock,since,tj,c0,hb,hm,hs,hr,ho,h1,h2,h3,h9⟩:=h.it;exact⟨⟨es,clock,since,tj,c0,eb.trans hb,hm,hs,er.trans hr,ho,h1,h2,h3,h9⟩,h.apart,h.once,h.sub⟩
def seenAt(w:aJ)(r:Nat):Nat:=match w.heap[r]? with
 |some (.mapIter _ _ tj _)=>tj.size
 |_=>0
theorem qc.seen(h:qc P k enc w b r m done):seenAt w r=aA done:=by obtain⟨es,clock,since,tj,c0,_,_,_,hr,_,_,_,_,h9⟩:=h.it;unfold seenAt;rw [hr];exact h9
theorem qc.count [DecidableEq κ](h:qc P k enc w b r m done):aA done<=aA m:=by
 have h1:done.Subset (m.map (·.1)):=λq hq=>by obtain⟨v,hv⟩:=h.sub q hq;exact df.2 ⟨_,hv,rfl⟩
 have:=h.once.length_le_of_subset h1;simpa using this
theorem eX.aJr {t e:bY}(ht:P.underlying t=aC (.map k e))(h:eX P k enc w b m)(hs:∃es clock,w.heap[b]? =aC (.map es clock)/\Stamped es clock):
 ∃w',(a9k t (.map (aC b))).run P w= .ok (π w.heap.size) w'/\qc P k enc w' b w.heap.size m []/\β w w'/\w'.heap.size=w.heap.size+1:=by
 obtain⟨es,clock,hb,hst⟩:=hs;obtain⟨Hg,Gx,hb0,hm⟩:=h.blk;obtain⟨rfl,rfl⟩:es=Hg/\clock=Gx:=by rw [hb] at hb0;simpa using hb0
 have hlt:=(fX.1 hb).1;refine⟨w.alloc (.mapIter (aC b) clock #[] clock), ?_,⟨⟨es,clock,clock, #[],clock,(fG w _ hlt).trans hb,hm,hst,cO w _,λx hx=>((stamped_iff es clock).1 hst).1 x hx,aa _,aa _,λe he q hq=>by simp,rfl⟩,h.apart,List.nodup_nil,by simp⟩,(aX _ _).alloc (aa _) _,by simp⟩;simp [a9k,run_underlying ht,BM hb,uN]
theorem qc.next(WE:∀q q':κ,enc q=enc q'->q=q')(h:qc P k enc w b r m done)(ty:bY):
 ((∀p∈m,p.1∈done)/\(a9j (π r) aP ty).run P w= .ok (bB #[bJ aP]) w)\/
 ∃q v w',(q,v)∈m/\q∉done/\(a9j (π r) aP ty).run P w= .ok (bB #[bJ aO,enc q,v]) w'/\qc P k enc w' b r m (done++ [q])/\w.grownBy w' (aC r)/\w'.heap.size=w.heap.size/\
  (a9h (π r)).run P w'= .ok (bB #[enc q,v]) w':=by
 have hne:=h.ne;obtain⟨es,clock,since,tj,c0,hb,hm,hs,hr,hold,h1,h2,h3,h9⟩:=h.it;have WN:∀p∈m,∃e∈es.toList,e.key=enc p.1/\e.val=p.2:=λp hp=>by
  have h4:(enc p.1,p.2)∈es.toList.map (λe=>(e.key,e.val)):=by rw [hm];exact df.2 ⟨p,hp,rfl⟩
  obtain⟨e,he,e'⟩:=df.1 h4;injection e' with a b;exact⟨e,he,a,b⟩
 have aGR:∀e∈es.toList,∃p∈m,e.key=enc p.1/\e.val=p.2:=λe he=>by
  have h4:(e.key,e.val)∈m.map (λp=>(enc p.1,p.2)):=by rw [<-hm];exact df.2 ⟨e,he,rfl⟩
  obtain⟨p,hp,e'⟩:=df.1 h4;injection e' with a b;exact⟨p,hp,a.symm,b.symm⟩
 rcases run_next_at (P:=P) w ty r b since c0 tj es clock hr hb hold h1 with⟨h0,hrun⟩|⟨e,he,w1,rr,hrun⟩
 ·refine aS ⟨λp hp=> ?_,hrun⟩;obtain⟨e,he,hk,_⟩:=WN p hp;exact(h3 e he p.1 hk).1 (all_seen es tj h0 e he)
 obtain⟨Mk,hes⟩:=mem_left he;obtain⟨p,hp,hk,hv⟩:=aGR e Mk;have vg:p.1∉done:=λhd=>by have:=(h3 e Mk p.1 hk).2 hd;rw [hes] at this;cases this
 have hr1:w1.heap[r]? =aC (.mapIter (aC b) since tj c0):=by rcases rr with rfl|rfl<;>exact hr
 have hb1:w1.heap[b]? =aC (.map es clock):=by rcases rr with rfl|rfl<;>exact hb
 have FQ:=heap_set (o':= .mapIter (aC b) since (tj.push e.born) clock) hr1;have hb':=(FQ.2 b (λe1=>hne e1.symm)).trans hb1;have a3y:=((stamped_iff es clock).1 hs).2.1;refine aU ⟨p.1,p.2,_,hp,vg,by rw [<-hk,<-hv];exact hrun,⟨⟨es,clock,since,tj.push e.born,clock,hb',hm,hs,FQ.1,hold,h2,h2,λx hx q hq=> ?_,by simp [h9]⟩,h.apart, ?_, ?_⟩, ?_, ?_,by rw [<-hk,<-hv];exact run_entry_at _ r b since tj es clock e FQ.1 hb' Mk a3y⟩
 ·rw [contains_push];by_cases Qz:x=e
  ·subst Qz;have:q=p.1:=WE _ _ (hq.symm.trans hk);subst this;simp
  have QN:x.born≠e.born:=λhb2=>Qz (by obtain⟨i,hi,rfl⟩:=List.getElem_of_mem hx;obtain⟨j,hj,rfl⟩:=List.getElem_of_mem Mk;have:=(List.getElem_inj (xs:=es.toList.map (·.born)) (h₀:=by simpa using hi) (h₁:=by simpa using hj) a3y).1 (by simpa using hb2);subst this;rfl)
  have hqp:q≠p.1:=λe1=>Qz (entry_eq_of_key ((stamped_iff es clock).1 hs).2.2 hx Mk (by rw [hq,e1,hk]))
  simpa [QN,hqp] using h3 x hx q hq
 ·exact List.nodup_append.2 ⟨h.once,by simp,by intro a ha b' hb2;simp at hb2;subst hb2;intro e1;subst e1;exact vg ha⟩
 ·intro q hq;rcases gL.1 hq with hq|hq
  ·exact h.sub q hq
  simp at hq;subst hq;exact⟨p.2,hp⟩
 ·rcases rr with rfl|rfl<;>exact⟨rfl,rfl,rfl,by simp [setBlock],λi _ hi=>FQ.2 i (λe1=>hi (by rw [e1]))⟩
 rcases rr with rfl|rfl<;>simp [setBlock]
end
section
variable {κ:Type} {P:Program} {k:bY} {enc:κ->aN} {b r:Nat} {m:List (κ×aN)} {done:List κ} {ops:Array Oper} {rest:List Oper} {o:Oper} {a:Act} {Q:Exit->Act->aJ->Prop}
theorem aLv(w:aJ)(hg:o.guard=aB)(mo:Operand)(t:bY)(hop:o.op=Op.range t mo) {e:bY}(ht:P.underlying t=aC (.map k e))(hm:a.eval mo= .map (aC b))(h:eX P k enc w b m)(hs:∃es clock,w.heap[b]? =aC (.map es clock)/\Stamped es clock)
 (hK:∀w',qc P k enc w' b w.heap.size m []->β w w'->w'.heap.size=w.heap.size+1->wpList P ops Q rest (a.put o.dst (π w.heap.size)) w'):
 wpList P ops Q (o::rest) a w:=by
 refine wpList_plain hg λK' hK'=> ?_
 obtain⟨w',hrun,r1,r2,r3⟩:=h.aJr ht hs;unfold Oper.wp;simp [execOp,hop,hm,hrun,uN];exact hK' _ _ (hK w' r1 r2 r3)
theorem aLu(w:aJ)(WE:∀q q':κ,enc q=enc q'->q=q')(hg:o.guard=aB)(it:Operand)(hop:o.op=Op.next it aP)(hit:a.eval it=bF (aC ⟨r,0,aB⟩))(h:qc P k enc w b r m done)
 (hDone:(∀p∈m,p.1∈done)->wpList P ops Q rest (a.put o.dst (bB #[bJ aP])) w)
 (hMore:∀q v w',(q,v)∈m->q∉done->qc P k enc w' b r m (done++ [q])->w.grownBy w' (aC r)->w'.heap.size=w.heap.size->(a9h (π r)).run P w'= .ok (bB #[enc q,v]) w'->wpList P ops Q rest (a.put o.dst (bB #[bJ aO,enc q,v])) w'):
 wpList P ops Q (o::rest) a w:=by
 refine wpList_plain hg λK' hK'=> ?_
 unfold Oper.wp;rcases h.next WE o.type with⟨hd,hrun⟩|⟨q,v,w',hq,vg,hrun,r1,r2,r3,r4⟩
 ·simp [execOp,hop,hit,hrun,uN];exact hK' _ _ (hDone hd)
 simp [execOp,hop,hit,hrun,uN];exact hK' _ _ (hMore q v w' hq vg r1 r2 r3 r4)
end
end
theorem RN(x:Lg):∀u∈x.cells,u.oneCell'=aO:=by intro u hu;simp [Lg.cells] at hu;rcases hu with rfl|rfl|rfl<;>rfl
theorem RM(L:List Lg)(x:Lg):bA (L++ [x])=bA L++x.cells:=by simp [bA]
theorem RL:(aM.info? 76).map (λi=>(i.zero,i.size,i.bytes))=aC (aC (bQ #[aG aF 0,aG aF 0,aG aF 0]),3,24):=by kernel_rfl
theorem MK {α:Type}(p:α->Bool) {l:List α} {k:Nat}(hk:k<aA l):(l.take (k+1)).filter p=(l.take k).filter p++(if p l[k] then [l[k]] else []):=by rw [fF hk,List.filter_append,List.filter_cons];simp
theorem MI {α:Type}(p:α->Bool)(l:List α)(k:Nat):aA ((l.take k).filter p)<=aA l:=bz (qg _ _) (by rw [vD];omega)
def lx(L:List Lg):List Lg:=L.filter λx=>decide (0<x.n)
def jH(L:List Lg):List Lg:=(L.filter λx=>decide (x.n<0)).map λx=>⟨x.m,x.a,-x.n⟩
def jF(a:Int)(L:List Lg):List Lg:=L.filter λx=>x.a==a
theorem aDp {L:List Lg} {k:Nat}(hk:k<aA L):jH (L.take (k+1))=jH (L.take k)++(if L[k].n<0 then [⟨L[k].m,L[k].a,-L[k].n⟩] else []):=by unfold jH;rw [MK _ hk,dZ];by_cases h:L[k].n<0<;>simp [h]
theorem a2J(L:List Lg)(k:Nat):aA (jH (L.take k))<=aA L:=by unfold jH;rw [iV];exact MI _ _ _
def tK(L:List Lg):Int:=if L.any (λx=>x.n==fw)=aO then 2 else 0
theorem aID(L:List Lg)(A:Option aj)(c:Nat)(w:aJ)(hs:aW w w.heap.size A (bA L))(hl:aA L<=100000):
 aQ aM 166 #[aH A (aA L) c] w (sU 76 3 (aA (lx L)) (bA (lx L)) w):=by
 have HS:=η hs;have aZ:Hid (β w w):=η (aX _ _);have mJ:Hid (w.ownsRow w.heap.size 76 3 (aH aB 0 0) (aA (lx (L.take 0))) (bA (lx (L.take 0)))):=η (by rw [nQ];exact fh _ _ _ _);obtain⟨ic,yZ,sB,sD,sF⟩:=dJ RL;go_enter func166,ntmps166
 go_wp2
 go_loopw [3,5,8] (λv _ i wr=>∃k:Nat,k<=aA L/\i=ν (k:Int)/\Hid (β w wr)/\Hid (wr.ownsRow w.heap.size 76 3 v (aA (lx (L.take k))) (bA (lx (L.take k))))) (λ_ _ i _=>aA L-(af i).toNat)
 ·exact⟨0,bK _,rfl,aZ,mJ⟩
 ·
  obtain⟨k,hk,rfl,HB,HO⟩:=hrel;obtain⟨Ax,cx,pL⟩:=bL HO.o;subst pL;by_cases hlt:k<aA L
  ·obtain⟨be,oe,rfl,km,e0,e1,e2⟩:=oM ((HS.o.below HB.o).mono HB.o.size) hlt;have cG:Hid (lx (L.take (k+1))=lx (L.take k)++(if decide (0<L[k].n) then [L[k]] else [])):=η (MK (λx:Lg=>decide (0<x.n)) hlt);have gW:aA (lx (L.take k))<=100000:=bz (MI _ L k) hl;have eY:(0:Int)<=(k:Int):=by omega
   have hkb:(k:Int)<(aA L:Int):=by omega
   generalize L[k]=x at*;generalize lx (L.take k)=D at*;obtain⟨xm,xa,xn⟩:=x;simp only at e0 e1 e2 cG;by_cases hn:0<xn
   ·have HD:Hid (lx (L.take (k+1))=D++ [⟨xm,xa,xn⟩]):=η (by rw [cG.o,ifP (by simpa using hn)]);have aV:Hid (β w ((wr.alloc (aK #[ν xm,ν xa,ν xn] 76)).alloc (aK #[ν xm,ν xa,ν xn] 76))):=η ((HB.o.alloc HB.o.size _).alloc (by have:=HB.o.size;simp;omega) _);have dE:=η ((HO.o.alloc (aK #[ν xm,ν xa,ν xn] 76)).alloc (aK #[ν xm,ν xa,ν xn] 76));have hzz:w.heap.size<=wr.heap.size:=HB.o.size;go_wp2_with (at_builtin;refine wpList_append_lies _ rfl _ _ 39 rfl w.heap.size 76 ic _ 3 24 tE yZ sB sD sF rfl (by omega) _ _ _ rfl dE.o ⟨wr.heap.size+1,0,aB⟩ 1 1 (Lg.cells ⟨xm,xa,xn⟩) rfl rfl (dK _ _ #[_,_,_] (by simp)) (RN _) (by omega) (by simp only [bM];omega) (by omega) (by simp;omega) (wr.heap.size+1+1) (by simp) ?_)
    intro g3 tG w3 mS gN _ _;have ag:Hid (β w w3):=η (aV.o.grown gN (by simp;omega) (λj hj=>eF dE.o j hj));have cD:Hid (w3.ownsRow w.heap.size 76 3 (aH (aC ⟨g3,0,aB⟩) (aA D+1) tG) (aA (lx (L.take (k+1)))) (bA (lx (L.take (k+1))))):=η (by rw [HD.o,cN,RM];exact mS);go_wp2
    go_roundw
    ·exact⟨k+1,by omega,by go_num,ag,cD⟩
    simp [af];omega
   have HD:Hid (lx (L.take (k+1))=D):=η (by rw [cG.o,ifN (by simpa using hn)];simp);have KE:xn<=0:=by omega
   have aV:Hid (β w (wr.alloc (aK #[ν xm,ν xa,ν xn] 76))):=η (HB.o.alloc HB.o.size _);have dE:Hid ((wr.alloc (aK #[ν xm,ν xa,ν xn] 76)).ownsRow w.heap.size 76 3 (aH Ax (aA D) cx) (aA (lx (L.take (k+1)))) (bA (lx (L.take (k+1))))):=η (by rw [HD.o];exact HO.o.alloc _);go_wp2
   go_roundw
   ·exact⟨k+1,by omega,by go_num,aV,dE⟩
   simp [af];omega
  obtain rfl:k=aA L:=by omega
  have cF:=HO.o;rw [cT] at cF ⊢;have dE:=η cF;go_wp2
  go_ret;exact⟨_,rfl,dE.o,HB.o⟩
theorem aIC(L:List Lg)(A:Option aj)(c:Nat)(w:aJ)(hs:aW w w.heap.size A (bA L))(hl:aA L<=100000)(hI:∀x∈L,aL x.n):
 aQ aM 167 #[aH A (aA L) c] w λe w'=>β w w'/\((tK L=0/\∃v,e=aT (bB #[v,ν 0])/\w'.ownsRow w.heap.size 76 3 v (aA (jH L)) (bA (jH L)))\/(tK L=2/\e=aT (bB #[aH aB 0 0,ν 2]))):=by
 have HS:=η hs;have HI:=η hI;have wP:Hid ((L.take 0).any (λx=>x.n==fw)=aP):=η (by rw [nQ];rfl);have aZ:Hid (β w w):=η (aX _ _);have mJ:Hid (w.ownsRow w.heap.size 76 3 (aH aB 0 0) (aA (jH (L.take 0))) (bA (jH (L.take 0)))):=η (by rw [nQ];exact fh _ _ _ _);obtain⟨ic,yZ,sB,sD,sF⟩:=dJ RL;clear hs hI;go_enter func167,ntmps167
 go_wp2_with fail
 go_loopw [4,6,7,8,11] (λv _ _ _ i wr=>∃k:Nat,k<=aA L/\i=ν (k:Int)/\Hid (β w wr)/\Hid (wr.ownsRow w.heap.size 76 3 v (aA (jH (L.take k))) (bA (jH (L.take k))))/\Hid ((L.take k).any (λx=>x.n==fw)=aP)) (λ_ _ _ _ i _=>aA L-(af i).toNat)
 case atStart=>exact⟨0,bK _,rfl,aZ,mJ,wP⟩
 case round=>
  clear aZ mJ wP;obtain⟨k,hk,rfl,HB,HO,HE⟩:=hrel;obtain⟨Ax,cx,pL⟩:=bL HO.o;subst pL;by_cases hlt:k<aA L
  ·obtain⟨be,oe,rfl,km,e0,e1,e2⟩:=oM ((HS.o.below HB.o).mono HB.o.size) hlt;have cG:=η (aDp hlt);have J4:=η (zY (λx:Lg=>x.n==fw) hlt);have N9:=HI.o _ (cH hlt);have EL:Hid ((L[k].n==fw)=aO->L.any (λx=>x.n==fw)=aO):=η (λh=>kA.2 ⟨_,cH hlt,h⟩);have gW:aA (jH (L.take k))<=100000:=bz (a2J L k) hl;have eY:(0:Int)<=(k:Int):=by omega
   have hkb:(k:Int)<(aA L:Int):=by omega
   generalize L[k]=x at*;generalize jH (L.take k)=D at*;obtain⟨xm,xa,xn⟩:=x;simp only at e0 e1 e2 cG J4 N9 EL;by_cases hn:xn<0
   ·have KE:decide (0<=xn)=aP:=decide_eq_false (by omega);have GI:=η N9;have BB:=η (λW=>RU xn W GI.o);by_cases I9:xn=fw
    ·have mh:Hid (tK L=2):=η (by unfold tK;rw [ifP (EL.o (by simpa using I9))]);have tT:¬aL (-xn):=by rw [I9];unfold aL fw;omega
     rw [(gw tT).1,(gw tT).2] at BB;have aV:Hid (β w (wr.alloc (aK #[ν xm,ν xa,ν xn] 76))):=η (HB.o.alloc HB.o.size _);clear I9 tT N9 cG EL J4 GI hn;go_wp2_with (go_at_call 169;refine(BB.o _).mono ?_;rintro e w3 ⟨rfl,rfl⟩)
     go_ret2;exact⟨aV.o,aU ⟨mh.o,rfl⟩⟩
    have tT:aL (-xn):=by have:=GI.o;unfold aL fw at*;omega
    rw [(eA tT).1,(eA tT).2] at BB;have HD:Hid (jH (L.take (k+1))=D++ [⟨xm,xa,-xn⟩]):=η (by rw [cG.o,ifP hn]);have xz:Hid ((L.take (k+1)).any (λx=>x.n==fw)=aP):=η (by rw [J4.o,HE.o];simpa using I9);have aV:Hid (β w (((wr.alloc (aK #[ν xm,ν xa,ν xn] 76)).setCell ⟨wr.heap.size,2,aB⟩ (ν (-xn))).alloc (aK #[ν xm,ν xa,ν (-xn)] 76))):=η (((HB.o.alloc HB.o.size _).setCell (p:=⟨wr.heap.size,2,aB⟩) HB.o.size _).alloc (by have:=HB.o.size;simp;omega) _);have hzz:w.heap.size<=wr.heap.size:=HB.o.size;have dE:=η (HO.o.alloc (aK #[ν xm,ν xa,ν (-xn)] 76));have cD:=η (dE.o.alloc (aK #[ν xm,ν xa,ν (-xn)] 76));clear I9 tT N9 cG EL J4 GI hn HE;go_wp2_with (first|(go_at_call 169;refine(BB.o _).mono ?_;rintro e w3 ⟨rfl,rfl⟩)|(at_builtin;refine wpList_append_lies _ rfl _ _ 39 rfl w.heap.size 76 ic _ 3 24 tE yZ sB sD sF rfl (by omega) _ _ _ rfl cD.o ⟨wr.heap.size+1,0,aB⟩ 1 1 (Lg.cells ⟨xm,xa,-xn⟩) rfl rfl (dK _ _ #[_,_,_] (by simp)) (RN _) (by omega) (by simp only [bM];omega) (by omega) (by simp;omega) (wr.heap.size+1+1) (by simp) ?_))
    intro g3 tG w3 mS gN _ _;have ag:Hid (β w w3):=η (((HB.o.alloc HB.o.size _).alloc (by simp;omega) _).grown gN (by simp;omega) (λj hj=>eF cD.o j hj));have dP:Hid (w3.ownsRow w.heap.size 76 3 (aH (aC ⟨g3,0,aB⟩) (aA D+1) tG) (aA (jH (L.take (k+1)))) (bA (jH (L.take (k+1))))):=η (by rw [HD.o,cN,RM];exact mS);clear mS gN dE cD HO HB aV;go_wp2_with fail
    go_roundw
    case rel=>exact⟨k+1,by omega,by go_num,ag,dP,xz⟩
    case measure=>simp [af];omega
   have HD:Hid (jH (L.take (k+1))=D):=η (by rw [cG.o,ifN hn];simp);have KE:0<=xn:=by omega
   have xz:Hid ((L.take (k+1)).any (λx=>x.n==fw)=aP):=η (by rw [J4.o,HE.o];simp [fw];omega);have aV:Hid (β w (wr.alloc (aK #[ν xm,ν xa,ν xn] 76))):=η (HB.o.alloc HB.o.size _);have dE:Hid ((wr.alloc (aK #[ν xm,ν xa,ν xn] 76)).ownsRow w.heap.size 76 3 (aH Ax (aA D) cx) (aA (jH (L.take (k+1)))) (bA (jH (L.take (k+1))))):=η (by rw [HD.o];exact HO.o.alloc _);clear hn cG HE N9 J4 EL;go_wp2_with fail
   go_roundw
   case rel=>exact⟨k+1,by omega,by go_num,aV,dE,xz⟩
   case measure=>simp [af];omega
  obtain rfl:k=aA L:=by omega
  have cF:=HO.o;rw [cT] at cF ⊢;have dE:=η cF;clear cF HO;rw [cT] at HE;have mh:Hid (tK L=0):=η (by unfold tK;rw [ifN (by rw [HE.o];simp)]);go_wp2_with fail
  go_ret2;exact⟨HB.o,aS ⟨mh.o,_,rfl,dE.o⟩⟩
def kh(a:Int)(L:List Lg):List Int:=(jF a L).map (·.n)
theorem aCq(a:Int) {L:List Lg} {k:Nat}(hk:k<aA L):kh a (L.take (k+1))=kh a (L.take k)++(if L[k].a=a then [L[k].n] else []):=by unfold kh jF;rw [MK _ hk,dZ];by_cases h:L[k].a=a<;>simp [h]
theorem a1i(a:Int)(L:List Lg)(k:Nat):aA (kh a (L.take k))<=aA L:=by unfold kh jF;rw [iV];exact MI _ _ _
theorem aCp {a:Int} {L:List Lg}(h:∀x∈L,aL x.n):∀y∈kh a L,aL y:=by intro y hy;obtain⟨x,hx,rfl⟩:=df.1 hy;exact h x (jD.1 hx).1
theorem a5o(L:List Lg)(a:Int)(A:Option aj)(c:Nat)(w:aJ)(hs:aW w w.heap.size A (bA L))(hl:aA L<=100000)(hI:∀x∈L,aL x.n):
 aQ aM 165 #[aH A (aA L) c,ν a] w λe w'=>e=aT (bB #[ν (fU (sumI (kh a L))),ν (dC (sumI (kh a L)))])/\β w w':=by
 have HS:=η hs;have HI:=η (aCp (a:=a) hI);have aZ:Hid (β w w):=η (aX _ _);have mJ:Hid (w.ownsRow w.heap.size 2 1 (aH aB 0 0) (aA (kh a (L.take 0))) ((kh a (L.take 0)).map (aG aF))):=η (by rw [nQ];exact fh _ _ _ _);obtain⟨ic,yZ,sB,sD,sF⟩:=dJ NH;clear hs hI;go_enter func165,ntmps165
 go_wp2_with fail
 go_loopw [6,8,11] (λv _ i wr=>∃k:Nat,k<=aA L/\i=ν (k:Int)/\Hid (β w wr)/\Hid (wr.ownsRow w.heap.size 2 1 v (aA (kh a (L.take k))) ((kh a (L.take k)).map (aG aF)))) (λ_ _ i _=>aA L-(af i).toNat)
 case atStart=>exact⟨0,bK _,rfl,aZ,mJ⟩
 case round=>
  clear aZ mJ;obtain⟨k,hk,rfl,HB,HO⟩:=hrel;obtain⟨Ax,cx,pL⟩:=bL HO.o;subst pL;by_cases hlt:k<aA L
  ·obtain⟨be,oe,rfl,km,e0,e1,e2⟩:=oM ((HS.o.below HB.o).mono HB.o.size) hlt;have cG:=η (aCq a hlt);have gW:aA (kh a (L.take k))<=100000:=bz (a1i a L k) hl;have eY:(0:Int)<=(k:Int):=by omega
   have hkb:(k:Int)<(aA L:Int):=by omega
   generalize L[k]=x at*;generalize kh a (L.take k)=D at*;obtain⟨xm,xa,xn⟩:=x;simp only at e0 e1 e2 cG;by_cases hn:xa=a
   ·subst hn;have HD:Hid (kh xa (L.take (k+1))=D++ [xn]):=η (by rw [cG.o,ifP rfl]);have aV:Hid (β w ((wr.alloc (aK #[ν xm,ν xa,ν xn] 76)).alloc (aK #[ν xn] 2))):=η ((HB.o.alloc HB.o.size _).alloc (by have:=HB.o.size;simp;omega) _);have dE:=η ((HO.o.alloc (aK #[ν xm,ν xa,ν xn] 76)).alloc (aK #[ν xn] 2));have hzz:w.heap.size<=wr.heap.size:=HB.o.size;clear cG;go_wp2_with (at_builtin;refine wpList_append_lies _ rfl _ _ 53 rfl w.heap.size 2 ic _ 1 8 mP yZ sB sD sF rfl (by omega) _ _ _ rfl dE.o ⟨wr.heap.size+1,0,aB⟩ 1 1 [ν xn] rfl rfl (dK _ _ #[_] (by simp)) xh (by omega) (by simp only [bM];omega) (by omega) (by simp;omega) (wr.heap.size+1+1) (by simp) ?_)
    intro g3 tG w3 mS gN _ _;have ag:Hid (β w w3):=η (aV.o.grown gN (by simp;omega) (λj hj=>eF dE.o j hj));have cD:Hid (w3.ownsRow w.heap.size 2 1 (aH (aC ⟨g3,0,aB⟩) (aA D+1) tG) (aA (kh xa (L.take (k+1)))) ((kh xa (L.take (k+1))).map (aG aF))):=η (by rw [HD.o,cN,dZ];exact mS);clear mS gN dE aV HO HB;go_wp2_with fail
    go_roundw
    case rel=>exact⟨k+1,by omega,by go_num,ag,cD⟩
    case measure=>simp [af];omega
   have HD:Hid (kh a (L.take (k+1))=D):=η (by rw [cG.o,ifN hn];simp);have KE:(xa==a)=aP:=by simpa using hn
   have aV:Hid (β w (wr.alloc (aK #[ν xm,ν xa,ν xn] 76))):=η (HB.o.alloc HB.o.size _);have dE:Hid ((wr.alloc (aK #[ν xm,ν xa,ν xn] 76)).ownsRow w.heap.size 2 1 (aH Ax (aA D) cx) (aA (kh a (L.take (k+1)))) ((kh a (L.take (k+1))).map (aG aF))):=η (by rw [HD.o];exact HO.o.alloc _);clear hn cG;go_wp2_with fail
   go_roundw
   case rel=>exact⟨k+1,by omega,by go_num,aV,dE⟩
   case measure=>simp [af];omega
  obtain rfl:k=aA L:=by omega
  have cF:=HO.o;rw [cT] at cF ⊢;have rr:=a1i a L (aA L);rw [cT] at rr;have ji:=η (CF (kh a L) Ax cx wr HI.o (aW.cA cF) (by omega));clear cF HO rr;go_wp2_with (go_at_call 104;refine ji.o.mono ?_;rintro e w3 ⟨rfl,hb3⟩;have ag:Hid (β w w3):=τ HB hb3;clear hb3)
  go_ret2;exact⟨rfl,ag.o⟩
def jv(L:List Lg)(a:Int):Int:=sumI (kh a (lx (jF a L)))
def lY(L:List Lg)(a:Int):Int:=sumI (kh a (jH (jF a L)))
def yq(L:List Lg)(a:Int):Int:=if dC (jv L a)≠0 then dC (jv L a) else if tK (jF a L)≠0 then tK (jF a L) else dC (lY L a)
theorem aEt {L:List Lg}(h:∀x∈L,aL x.n):∀x∈lx L,aL x.n:=λx hx=>h x (jD.1 hx).1
theorem aCo {L:List Lg} {a:Int}(h:∀x∈L,aL x.n):∀x∈jF a L,aL x.n:=λx hx=>h x (jD.1 hx).1
theorem aDn {L:List Lg}(h:∀x∈L,aL x.n)(he:tK L=0):∀x∈jH L,aL x.n:=λx hx=>by
 obtain⟨y,hy,rfl⟩:=df.1 hx;have IQ:=jD.1 hy;have h1:=h y IQ.1;have h2:y.n≠fw:=λe=>by unfold tK at he;rw [ifP (kA.2 ⟨y,IQ.1,by simpa using e⟩)] at he;omega
 show aL (-y.n);unfold aL fw at*;omega
theorem aEu(L:List Lg):aA (lx L)<=aA L:=qg _ _
theorem a1h(a:Int)(L:List Lg):aA (jF a L)<=aA L:=qg _ _
theorem aDo(L:List Lg):aA (jH L)<=aA L:=by have:=a2J L (aA L);rwa [cT] at this
def Z1(L:List Lg)(a:Int)(w:aJ)(e:dU)(w':aJ):Prop:=
 e=aT (bB #[ν (if yq L a=0 then jv L a else 0),ν (if yq L a=0 then lY L a else 0),ν (yq L a)])/\β w w'
theorem aIP(L:List Lg)(a:Int)(A:Option aj)(c:Nat)(w:aJ)(hs:aW w w.heap.size A (bA L))(hl:aA L<=100000)(hI:∀x∈L,aL x.n):
 aQ aM 105 #[aH A (aA L) c,ν a] w (Z1 L a w):=by
 have HS:=η hs;have HI:=η (aCo (a:=a) hI);have aZ:Hid (β w w):=η (aX _ _);have mJ:Hid (w.ownsRow w.heap.size 76 3 (aH aB 0 0) (aA (jF a (L.take 0))) (bA (jF a (L.take 0)))):=η (by rw [nQ];exact fh _ _ _ _);obtain⟨ic,yZ,sB,sD,sF⟩:=dJ RL;have pA:Hid (yq L a=if dC (jv L a)≠0 then dC (jv L a) else if tK (jF a L)≠0 then tK (jF a L) else dC (lY L a)):=η rfl;have rQ:Hid (jv L a=sumI (kh a (lx (jF a L)))):=η rfl;have sZ:Hid (lY L a=sumI (kh a (jH (jF a L)))):=η rfl;have rr:aA (jF a L)<=100000:=bz (a1h a L) hl;clear hs hI;go_enter func105,ntmps105
 go_wp2_with fail
 go_loopw [7,9,13] (λv _ i wr=>∃k:Nat,k<=aA L/\i=ν (k:Int)/\Hid (β w wr)/\Hid (wr.ownsRow w.heap.size 76 3 v (aA (jF a (L.take k))) (bA (jF a (L.take k))))) (λ_ _ i _=>aA L-(af i).toNat)
 case atStart=>exact⟨0,bK _,rfl,aZ,mJ⟩
 case round=>
  clear aZ mJ;obtain⟨k,hk,rfl,HB,HO⟩:=hrel;obtain⟨Ax,cx,pL⟩:=bL HO.o;subst pL;by_cases hlt:k<aA L
  ·obtain⟨be,oe,rfl,km,e0,e1,e2⟩:=oM ((HS.o.below HB.o).mono HB.o.size) hlt;have cG:Hid (jF a (L.take (k+1))=jF a (L.take k)++(if (L[k].a==a) then [L[k]] else [])):=η (MK (λx:Lg=>x.a==a) hlt);have gW:aA (jF a (L.take k))<=100000:=bz (MI _ L k) hl;have eY:(0:Int)<=(k:Int):=by omega
   have hkb:(k:Int)<(aA L:Int):=by omega
   generalize L[k]=x at*;generalize jF a (L.take k)=D at*;obtain⟨xm,xa,xn⟩:=x;simp only at e0 e1 e2 cG;by_cases hn:xa=a
   ·subst hn;have HD:Hid (jF xa (L.take (k+1))=D++ [⟨xm,xa,xn⟩]):=η (by rw [cG.o,ifP (by simp)]);have aV:Hid (β w ((wr.alloc (aK #[ν xm,ν xa,ν xn] 76)).alloc (aK #[ν xm,ν xa,ν xn] 76))):=η ((HB.o.alloc HB.o.size _).alloc (by have:=HB.o.size;simp;omega) _);have dE:=η ((HO.o.alloc (aK #[ν xm,ν xa,ν xn] 76)).alloc (aK #[ν xm,ν xa,ν xn] 76));have hzz:w.heap.size<=wr.heap.size:=HB.o.size;clear cG;go_wp2_with (at_builtin;refine wpList_append_lies _ rfl _ _ 39 rfl w.heap.size 76 ic _ 3 24 tE yZ sB sD sF rfl (by omega) _ _ _ rfl dE.o ⟨wr.heap.size+1,0,aB⟩ 1 1 (Lg.cells ⟨xm,xa,xn⟩) rfl rfl (dK _ _ #[_,_,_] (by simp)) (RN _) (by omega) (by simp only [bM];omega) (by omega) (by simp;omega) (wr.heap.size+1+1) (by simp) ?_)
    intro g3 tG w3 mS gN _ _;have ag:Hid (β w w3):=η (aV.o.grown gN (by simp;omega) (λj hj=>eF dE.o j hj));have cD:Hid (w3.ownsRow w.heap.size 76 3 (aH (aC ⟨g3,0,aB⟩) (aA D+1) tG) (aA (jF xa (L.take (k+1)))) (bA (jF xa (L.take (k+1))))):=η (by rw [HD.o,cN,RM];exact mS);clear mS gN dE aV HO HB;go_wp2_with fail
    go_roundw
    case rel=>exact⟨k+1,by omega,by go_num,ag,cD⟩
    case measure=>simp [af];omega
   have HD:Hid (jF a (L.take (k+1))=D):=η (by rw [cG.o,ifN (by simpa using hn)];simp);have KE:(xa==a)=aP:=by simpa using hn
   have aV:Hid (β w (wr.alloc (aK #[ν xm,ν xa,ν xn] 76))):=η (HB.o.alloc HB.o.size _);have dE:Hid ((wr.alloc (aK #[ν xm,ν xa,ν xn] 76)).ownsRow w.heap.size 76 3 (aH Ax (aA D) cx) (aA (jF a (L.take (k+1)))) (bA (jF a (L.take (k+1))))):=η (by rw [HD.o];exact HO.o.alloc _);clear hn cG;go_wp2_with fail
   go_roundw
   case rel=>exact⟨k+1,by omega,by go_num,aV,dE⟩
   case measure=>simp [af];omega
  obtain rfl:k=aA L:=by omega
  have cF:=HO.o;rw [cT] at cF ⊢;have LJ:=η cF;clear cF HO rr;have ir:aA (jF a L)<=100000:=bz (a1h a L) hl;generalize jF a L=mine at*;have zA:=η (aID mine Ax cx wr (aW.cA LJ.o) ir);have yG:=η (λ(W:aJ) (A2:Option aj) (c2:Nat) (h2:W.ownsRow wr.heap.size 76 3 (aH A2 (aA (lx mine)) c2) (aA (lx mine)) (bA (lx mine)))=>a5o (lx mine) a A2 c2 W (aW.cA h2) (bz (aEu _) ir) (aEt HI.o));have JV:=η (λ(he:tK mine=0) (W:aJ) (B:Nat) (A2:Option aj) (c2:Nat) (h2:W.ownsRow B 76 3 (aH A2 (aA (jH mine)) c2) (aA (jH mine)) (bA (jH mine)))=>a5o (jH mine) a A2 c2 W (aW.cA h2) (bz (aDo _) ir) (aDn HI.o he));have nz:=η (λW (hW:β wr W)=>aIC mine Ax cx W (((aW.cA LJ.o).below hW).mono hW.size) ir HI.o);rw [<-rQ.o] at yG;rw [<-sZ.o] at JV;by_cases h1:dC (jv L a)=0
  ·rw [h1] at yG;by_cases h2:tK mine=0
   ·have Oi:=η (JV.o h2);by_cases h3:dC (lY L a)=0
    ·have HR:Hid (yq L a=0):=η (by rw [pA.o,ifN (by simpa using h1),ifN (by simpa using h2),h3]);have hO:fU (jv L a)=jv L a:=by
      by_cases q:aL (jv L a)
      ·exact(eA q).1
      rw [(gw q).2] at h1;omega
     have hC:fU (lY L a)=lY L a:=by
      by_cases q:aL (lY L a)
      ·exact(eA q).1
      rw [(gw q).2] at h3;omega
     rw [hO] at yG;rw [h3,hC] at Oi;have HZ:=η h2;clear h1 h2 h3 hO hC JV pA rQ sZ;go_wp2_with (first|(go_at_call 166;refine zA.o.mono ?_;rintro e w3 ⟨vd,rfl,uY,bP⟩;have wX:=η uY;obtain⟨A2,c2,hv2⟩:=bL uY;subst hv2;have ag:Hid (β wr w3):=η bP;clear uY bP)|(go_at_call 165;refine(yG.o _ _ _ wX.o).mono ?_;rintro e w4 ⟨rfl,hb4⟩;have ar:Hid (β wr w4):=τ ag hb4;clear hb4 yG)|(go_at_call 167;refine(nz.o _ ar.o).mono ?_;rintro e w5 ⟨cd,h5⟩;obtain⟨vc,rfl,Bf⟩:∃v,e=aT (bB #[v,ν 0])/\w5.ownsRow w4.heap.size 76 3 v (aA (jH mine)) (bA (jH mine)):=(h5.elim (λh=>h.2) (λh=>absurd (HZ.o.symm.trans h.1) (by decide)));have cV:Hid (β wr w5):=τ ar cd;have qV:=η Bf;obtain⟨A5,c5,N6⟩:=bL Bf;subst N6;clear cd h5 Bf)|(go_at_call 165;refine(Oi.o _ _ _ _ qV.o).mono ?_;rintro e w6 ⟨rfl,iM⟩;have gJ:Hid (β wr w6):=τ cV iM;clear iM))
     go_ret3;exact⟨by rw [HR.o];rfl,HB.o.trans (gJ.o.mono HB.o.size)⟩
    have HR:Hid (yq L a=2):=η (by
     rw [pA.o,ifN (by simpa using h1),ifN (by simpa using h2)];by_cases q:aL (lY L a)
     ·exact absurd (eA q).2 h3
     exact(gw q).2)
    have Hm:dC (lY L a)=2:=by rw [<-HR.o,pA.o,ifN (by simpa using h1),ifN (by simpa using h2)]
    rw [Hm] at Oi;have HZ:=η h2;generalize fU (lY L a)=vC at*;generalize fU (jv L a)=vO at*;clear h1 h2 h3 Hm JV pA rQ sZ;go_wp2_with (first|(go_at_call 166;refine zA.o.mono ?_;rintro e w3 ⟨vd,rfl,uY,bP⟩;have wX:=η uY;obtain⟨A2,c2,hv2⟩:=bL uY;subst hv2;have ag:Hid (β wr w3):=η bP;clear uY bP)|(go_at_call 165;refine(yG.o _ _ _ wX.o).mono ?_;rintro e w4 ⟨rfl,hb4⟩;have ar:Hid (β wr w4):=τ ag hb4;clear hb4 yG)|(go_at_call 167;refine(nz.o _ ar.o).mono ?_;rintro e w5 ⟨cd,h5⟩;obtain⟨vc,rfl,Bf⟩:∃v,e=aT (bB #[v,ν 0])/\w5.ownsRow w4.heap.size 76 3 v (aA (jH mine)) (bA (jH mine)):=(h5.elim (λh=>h.2) (λh=>absurd (HZ.o.symm.trans h.1) (by decide)));have cV:Hid (β wr w5):=τ ar cd;have qV:=η Bf;obtain⟨A5,c5,N6⟩:=bL Bf;subst N6;clear cd h5 Bf)|(go_at_call 165;refine(Oi.o _ _ _ _ qV.o).mono ?_;rintro e w6 ⟨rfl,iM⟩;have gJ:Hid (β wr w6):=τ cV iM;clear iM))
    go_ret3;exact⟨by rw [HR.o];rfl,HB.o.trans (gJ.o.mono HB.o.size)⟩
   have a4H:tK mine=2:=by unfold tK at*;split at h2<;>simp_all
   have HR:Hid (yq L a=2):=η (by rw [pA.o,ifN (by simpa using h1),ifP h2,a4H]);have HZ:=η h2;generalize fU (jv L a)=vO at*;clear h1 h2 a4H JV pA rQ sZ;go_wp2_with (first|(go_at_call 166;refine zA.o.mono ?_;rintro e w3 ⟨vd,rfl,uY,bP⟩;have wX:=η uY;obtain⟨A2,c2,hv2⟩:=bL uY;subst hv2;have ag:Hid (β wr w3):=η bP;clear uY bP)|(go_at_call 165;refine(yG.o _ _ _ wX.o).mono ?_;rintro e w4 ⟨rfl,hb4⟩;have ar:Hid (β wr w4):=τ ag hb4;clear hb4 yG)|(go_at_call 167;refine(nz.o _ ar.o).mono ?_;rintro e w5 ⟨cd,h5⟩;obtain rfl:e=aT (bB #[aH aB 0 0,ν 2]):=(h5.elim (λh=>absurd h.1 HZ.o) (λh=>h.2));have cV:Hid (β wr w5):=τ ar cd;clear cd h5))
   go_ret3;exact⟨by rw [HR.o];rfl,HB.o.trans (cV.o.mono HB.o.size)⟩
  have uW:dC (jv L a)=2:=by
   by_cases q:aL (jv L a)
   ·exact absurd (eA q).2 h1
   exact(gw q).2
  have HR:Hid (yq L a=2):=η (by rw [pA.o,ifP h1,uW]);rw [uW] at yG;generalize fU (jv L a)=vO at*;clear h1 uW JV pA rQ sZ;go_wp2_with (first|(go_at_call 166;refine zA.o.mono ?_;rintro e w3 ⟨vd,rfl,uY,bP⟩;have wX:=η uY;obtain⟨A2,c2,hv2⟩:=bL uY;subst hv2;have ag:Hid (β wr w3):=η bP;clear uY bP)|(go_at_call 165;refine(yG.o _ _ _ wX.o).mono ?_;rintro e w4 ⟨rfl,hb4⟩;have ar:Hid (β wr w4):=τ ag hb4;clear hb4 yG))
  go_ret3;exact⟨by rw [HR.o];rfl,HB.o.trans (ar.o.mono HB.o.size)⟩
end Go.Proofs.YtdokipdchlcmeaaGreat
