/-
  Several texts in one, for one claim (printed by pack.py).
-/
import Derived.Test.YtdokipdchlcmeaaGreatPe4
import Derived.Lib.SliceRun
import Derived.Laws.IdiomCopy
import Derived.StillTailTactics
import Derived.Maps.RangeWalk
import Derived.Maps.RangeRun
set_option linter.all false
set_option maxRecDepth 100000
set_option maxHeartbeats 12800000
open Array renaming getElem?_eq_some_iff→fY,replicate→l9
open Bool renaming true→aO,false→aP,and_eq_true→jX,and_false→IV
open Go renaming World→aJ,Value→aN,Calls→aQ,Addr→ai,cell_of_row→bG,maxLen→bK,TypeId→bX,heap_alloc_new→cT,info_parts→dK,Ending→di,rounds_succ→eA,wpList_append_own→iw,seen→tR,wp_loop_rounds→uY
open Go.Builtin renaming zeroCells→Dl,clear_→YK
open Go.Calls renaming quiet_of_same→IX
open Go.Ending renaming returned→aU
open Go.Instr renaming entry→a9D,next→a9F,range→a9G
open Go.IntKind renaming i64→aF
open Go.IntWalk renaming i64_in→sM
open Go.MapKept renaming run_getObj_map→B9
open Go.Obj renaming cells→aK
open Go.Proofs renaming intOf→ag
open Go.Proofs.Tryz renaming prog→aM,underlying53→mD,underlying39→sU,underlying46→yD,underlying185→Oz,func213→U4,ntmps213→UB,func147→a0G,func240→a0N,func243→a0O,func248→a0P,func50→a0R,ntmps147→a0Z,ntmps240→a0g,ntmps243→a0h,ntmps248→a0i,ntmps50→a0l,results147→a0n,func113→aA2,ntmps113→aAp,results113→aBY
open Go.Result renaming andThen→uE
open Go.RowKit renaming Below→aa
open Go.RowKit.Below renaming refl→aX,alloc→qj,setCell→Di
open Go.Value renaming int→aG,slice→aH,tuple→bB,pointer→bH,bool→bM,agg→bO,ownBlock→dx
open Go.World renaming ownsRow_nil→gC,frozen?→iU,ownsRow→jn,size_alloc→Cr
open Int renaming le_refl→dH
open List renaming length→aA,getElem_mem→cK,length_append→cL,take_length→cU,range→dQ,mem_map→dV,map_append→dY,mem_cons→fC,take_succ_eq_append_getElem→fF,mem_append→gJ,replicate→gN,getElem?_eq_getElem→iA,length_map→iK,mem_filter→j6,any_eq_true→kK,eq_nil_of_length_eq_zero→nG,mem_range→nH,take_zero→nJ,length_filter_le→qN,mem_iff_getElem→sR,length_cons→uB,length_take→ur,pairwise_iff_getElem→uu,flatMap_cons→wP,getElem_map→wQ,any_eq_false→zE,getElem?_eq_some_iff→zF,pairwise_map→B8,nil_append→Fs,all_eq_false→JE,getElem?_eq_none→LN,drop→Tk,take→Ts,getElem_set_self→Zn,take_append_of_le_length→Zq,take_take→a9Y
open List.Pairwise renaming imp_of_mem→OW
open Nat renaming le_refl→aZ,zero_le→bL,le_trans→cC,lt_of_lt_of_le→cR,lt_or_ge→rF,add_zero→Fx,mul_le_mul_right→Fz,lt_trans→LS
open Option renaming none→aB,some→aC
open Option.some renaming inj→od
open Or renaming inl→aS,inr→aT
namespace Go.Proofs.YtdokipdchlcmeaaGreat
open Go.Proofs.Tryz Go.RowKit
theorem aKx(vb:Nat)(p:Vp)(M A:Nat)(room:Int)(l:List Int)(h:List Hr)(nb:Nat)(nv:aN)(l':List Int)(xS:Int)(es:List En)(AA:Option ai)(c:Nat)(w:aJ)(H:iB w vb p M A room l h)(HN:fE w nb M A nv l' xS)(hs:aW w w.heap.size AA (qT es))(hI:∀x∈es,x.ok)(hl:aA h<=100000)(Q7:aA es<=100000):
 aQ aM 100 #[π vb,π nb,aH AA (aA es) c] w λe w'=>e=aU (bM (es.any (rZ M A l l' h)))/\β w w':=by
 have HV:=η H;have HK:=η HN;have HS:=η hs;have HI:=η hI;have WY:=H.lt;have aY:Hid (β w w):=η (aX _ _);have iP:Hid ((es.take 0).any (rZ M A l l' h)=aP):=η (by rw [nJ];rfl);go_enter func100,ntmps100
 go_wp2_with fail
 go_loopw [8,9,10,11,12,15] (λ_ _ _ _ _ i wr=>∃k:Nat,k<=aA es/\i=ν (k:Int)/\Hid (β w wr)/\Hid ((es.take k).any (rZ M A l l' h)=aP)) (λ_ _ _ _ _ i _=>aA es-(ag i).toNat)
 case atStart=>exact⟨0,bL _,rfl,aY,iP⟩
 case round=>
  obtain⟨k,hk,rfl,HB,HP⟩:=hrel;by_cases hlt:k<aA es
  ·obtain⟨be,oe,rfl,lO,e0,e1,e2,e3⟩:=Uz ((HS.o.below HB.o).mono HB.o.size) hlt;have dR:=HI.o _ (cK hlt);have cG:=η (zM (rZ M A l l' h) hlt);have Ah:=η (λ(q:rZ M A l l' h es[k]=aO)=>kK.2 ⟨_,cK hlt,q⟩);have eV:(0:Int)<=(k:Int):=by omega
   have hkb:(k:Int)<(aA es:Int):=by omega
   generalize es[k]=x at*;obtain⟨xk,xm,xa,xn⟩:=x;simp only at e0 e1 e2 e3;obtain⟨KE,KF,_,_⟩:=dR;simp only at KE KF;have aR:Hid (β w (wr.alloc (aK #[ν xk,ν xm,ν xa,ν xn] 103))):=η (HB.o.alloc HB.o.size _);have dC:Hid ((wr.alloc (aK #[ν xk,ν xm,ν xa,ν xn] 103)).heap[wr.heap.size]? =aC (aK #[ν xk,ν xm,ν xa,ν xn] 103 (0,0))):=η (cT wr _);have Ql:wr.heap.size<(wr.alloc (aK #[ν xk,ν xm,ν xa,ν xn] 103)).heap.size:=by simp
   have hvx:vb<(wr.alloc (aK #[ν xk,ν xm,ν xa,ν xn] 103)).heap.size:=cR WY aR.o.size;have Aj:Hid (rZ M A l l' h ⟨xk,xm,xa,xn⟩=(!uK xk&&decide (balA M A l' xk xm xa<balA M A l xk xm xa)&&decide (balA M A l' xk xm xa<iG h xk xm xa))):=η rfl;have xy:=η (HV.o.below aR.o);have c0:=xy.o.c0;have wB:=η (λW (hW:β w W)=>UZ M A p.bv l p.po xk xm xa p.bb W (HV.o.below hW).bk KE KF);have kE:=η (λW (hW:β w W)=>UZ M A nv l' xS xk xm xa nb W (HK.o.below hW) KE KF);have Ig:=η (λW (hW:β w W)=>a7l vb p M A room l h xk xm xa W (HV.o.below hW) hl);go_upto_region 4 with fail
   generalize (wr.alloc (aK #[ν xk,ν xm,ν xa,ν xn] 103))=w1 at*;generalize wr.heap.size=bx at*;obtain⟨x0,x1,x2⟩:=NP dC;generalize balA M A l xk xm xa=was at*;generalize balA M A l' xk xm xa=now at*;generalize nZ (plcA M A xk xm xa)=en at*;generalize iG h xk xm xa=hd at*;have yM:=λ(n:sA w1.heap.size w1) (b o:Nat) (hb:b<w1.heap.size)=>n.cells b o hb
   refine S9 w1.heap.size (by kernel_rfl) (by kernel_rfl) ?_;repeat (go_big_quiet_step ((go_at_call 92;exact Calls.Lk (aZ _) (wB.o _ (aR.o.trans ((sA.h _).mono aR.o.size))))))
   refine wpQuiet_nil ?_;intro _ hw';obtain⟨nq,hw''⟩:=hw';subst hw'';have hn:=nq.h;generalize nq.wd=w2 at*;have aV:Hid (β w w2):=τ aR hn;have y0:=(ez hn).1 bx 0 Ql;have y1:=(ez hn).1 bx 1 Ql;have y2:=(ez hn).1 bx 2 Ql;rw [x0] at y0;rw [x1] at y1;rw [x2] at y2;have hz2:bx<w2.heap.size:=cR Ql hn.size;cases hf:uK xk with
   |true=>
    rw [hf] at Aj;have nr:Hid ((es.take (k+1)).any (rZ M A l l' h)=aP):=η (by rw [cG.o,HP.o,Aj.o];rfl);have wE:Hid (∀W,aQ aM 112 #[bO #[ν xk,ν xm]] W λe w'=>e=aU (bM aO)/\β W w'):=η (λW=>by rw [<-hf];exact PK xk xm W);go_wp2_with (first|(go_at_call 92;refine(kE.o _ aV.o).mono ?_;rintro e w3 ⟨rfl,hb3⟩;have af:Hid (β w w3):=τ aV hb3;have iZ:Hid (β w2 w3):=η hb3;have z0:=(ez hb3).1 bx 0 hz2;have z1:=(ez hb3).1 bx 1 hz2;have z2:=(ez hb3).1 bx 2 hz2;rw [y0] at z0;rw [y1] at z1;rw [y2] at z2)|(go_at_call 112;refine(wE.o _).mono ?_;rintro e w4 ⟨rfl,hb4⟩;have ar:Hid (β w w4):=τ af hb4;have u0:=(ez hb4).1 bx 0 (cR hz2 iZ.o.size);have u1:=(ez hb4).1 bx 1 (cR hz2 iZ.o.size);have u2:=(ez hb4).1 bx 2 (cR hz2 iZ.o.size);rw [z0] at u0;rw [z1] at u1;rw [z2] at u2))
    go_roundw
    case rel=>exact⟨k+1,by omega,by go_num,ar,nr⟩
    case measure=>simp [ag];omega
   |false=>
    rw [hf] at Aj;have wE:Hid (∀W,aQ aM 112 #[bO #[ν xk,ν xm]] W λe w'=>e=aU (bM aP)/\β W w'):=η (λW=>by rw [<-hf];exact PK xk xm W);by_cases h1:now<was
    ·by_cases h2:now<hd
     ·have HE:Hid (es.any (rZ M A l l' h)=aO):=η (Ah.o (by rw [Aj.o];simp [h1,h2]));go_wp2_with (first|(go_at_call 92;refine(kE.o _ aV.o).mono ?_;rintro e w3 ⟨rfl,hb3⟩;have af:Hid (β w w3):=τ aV hb3;have iZ:Hid (β w2 w3):=η hb3;have z0:=(ez hb3).1 bx 0 hz2;have z1:=(ez hb3).1 bx 1 hz2;have z2:=(ez hb3).1 bx 2 hz2;rw [y0] at z0;rw [y1] at z1;rw [y2] at z2)|(go_at_call 112;refine(wE.o _).mono ?_;rintro e w4 ⟨rfl,hb4⟩;have ar:Hid (β w w4):=τ af hb4;have u0:=(ez hb4).1 bx 0 (cR hz2 iZ.o.size);have u1:=(ez hb4).1 bx 1 (cR hz2 iZ.o.size);have u2:=(ez hb4).1 bx 2 (cR hz2 iZ.o.size);rw [z0] at u0;rw [z1] at u1;rw [z2] at u2)|(go_at_call 160;refine(Ig.o _ ar.o).mono ?_;rintro e w5 ⟨rfl,dG⟩;have cz:Hid (β w w5):=τ ar dG))
      go_ret;exact⟨by rw [HE.o];rfl,cz.o⟩
     have nr:Hid ((es.take (k+1)).any (rZ M A l l' h)=aP):=η (by rw [cG.o,HP.o,Aj.o];simp [h2]);have uM:hd<=now:=by omega
     go_wp2_with (first|(go_at_call 92;refine(kE.o _ aV.o).mono ?_;rintro e w3 ⟨rfl,hb3⟩;have af:Hid (β w w3):=τ aV hb3;have iZ:Hid (β w2 w3):=η hb3;have z0:=(ez hb3).1 bx 0 hz2;have z1:=(ez hb3).1 bx 1 hz2;have z2:=(ez hb3).1 bx 2 hz2;rw [y0] at z0;rw [y1] at z1;rw [y2] at z2)|(go_at_call 112;refine(wE.o _).mono ?_;rintro e w4 ⟨rfl,hb4⟩;have ar:Hid (β w w4):=τ af hb4;have u0:=(ez hb4).1 bx 0 (cR hz2 iZ.o.size);have u1:=(ez hb4).1 bx 1 (cR hz2 iZ.o.size);have u2:=(ez hb4).1 bx 2 (cR hz2 iZ.o.size);rw [z0] at u0;rw [z1] at u1;rw [z2] at u2)|(go_at_call 160;refine(Ig.o _ ar.o).mono ?_;rintro e w5 ⟨rfl,dG⟩;have cz:Hid (β w w5):=τ ar dG))
     go_roundw
     case rel=>exact⟨k+1,by omega,by go_num,cz,nr⟩
     case measure=>simp [ag];omega
    have nr:Hid ((es.take (k+1)).any (rZ M A l l' h)=aP):=η (by rw [cG.o,HP.o,Aj.o];simp [h1]);have uL:was<=now:=by omega
    go_wp2_with (first|(go_at_call 92;refine(kE.o _ aV.o).mono ?_;rintro e w3 ⟨rfl,hb3⟩;have af:Hid (β w w3):=τ aV hb3;have iZ:Hid (β w2 w3):=η hb3;have z0:=(ez hb3).1 bx 0 hz2;have z1:=(ez hb3).1 bx 1 hz2;have z2:=(ez hb3).1 bx 2 hz2;rw [y0] at z0;rw [y1] at z1;rw [y2] at z2)|(go_at_call 112;refine(wE.o _).mono ?_;rintro e w4 ⟨rfl,hb4⟩;have ar:Hid (β w w4):=τ af hb4;have u0:=(ez hb4).1 bx 0 (cR hz2 iZ.o.size);have u1:=(ez hb4).1 bx 1 (cR hz2 iZ.o.size);have u2:=(ez hb4).1 bx 2 (cR hz2 iZ.o.size);rw [z0] at u0;rw [z1] at u1;rw [z2] at u2))
    go_roundw
    case rel=>exact⟨k+1,by omega,by go_num,ar,nr⟩
    case measure=>simp [ag];omega
  obtain rfl:k=aA es:=by omega
  rw [cU] at HP;go_wp2_with fail
  go_ret;exact⟨by rw [HP.o];rfl,HB.o⟩
def UH(vb:Nat)(p:Vp)(M A:Nat)(room:Int)(l:List Int)(h:List Hr)(es:List En)(w:aJ)(e:di)(w':aJ):Prop:=
 ∃p',e=aU (ν (lR M A l h es))/\iB w' vb p' M A room (if lR M A l h es=0 then jw M A l es else l) h/\bC (λk=>k=vb) w w'/\∀k,rG vb p' k->rG vb p k\/w.heap.size<=k
theorem iB.swap {w:aJ} {vb:Nat} {p:Vp} {M A:Nat} {room:Int} {l l':List Int} {h:List Hr}(H:iB w vb p M A room l h) {nb:Nat} {nv:aN} {po:Int}(hn:fE w nb M A nv l' po):iB (w.setCell ⟨vb,0,aB⟩ (bH (aC ⟨nb,0,aB⟩))) vb ⟨nb,nv,po,p.tb,p.tv⟩ M A room l' h:=by
 have mj:nb≠vb:=λe=>by have h1:=hn.blk;rw [e,H.blk] at h1;injection h1 with h1;injection h1 with h1 h2;exact absurd h2 (by decide)
 have Mo:p.tb≠vb:=λe=>by have h1:=H.tb.blk;rw [e,H.blk] at h1;injection h1 with h1;injection h1 with h1 h2;exact absurd h2 (by decide)
 have hu:bC (λk=>k=vb) w (w.setCell ⟨vb,0,aB⟩ (π nb)):=(bC.refl (λk=>k=vb) w).setCell (p:=⟨vb,0,aB⟩) (aS rfl) _;refine⟨(om H.blk 0 _).trans rfl,hn.upd hu mj (λk hk e=>gM hn.own H.blk (by decide) (e▸hk)),H.tb.upd hu Mo (λk hk e=>gM H.tb.own H.blk (by decide) (e▸hk))⟩
theorem Y7(vb:Nat)(p:Vp)(M A:Nat)(room:Int)(l:List Int)(h:List Hr)(es:List En)(AA:Option ai)(c:Nat)(w:aJ)(H:iB w vb p M A room l h)(hs:aW w w.heap.size AA (qT es))(hI:∀x∈es,x.ok)(vM:∀y∈l,aL y)(hl:aA h<=100000)(Q7:aA es<=100000):
 aQ aM 50 #[π vb,aH AA (aA es) c] w (UH vb p M A room l h es w):=by
 have HV:=η H;have HS:=η hs;have HI:=η hI;have Iq:=η vM;have c0:=H.c0;have Kf:=η (aCb M A p.bv l p.po p.bb w H.bk);by_cases h0:nM M A l es=0
 ·have HE:Hid (lR M A l h es=if es.any (rZ M A l (jw M A l es) h)=aO then 13 else 0):=η (by unfold lR;rw [ifN (by simpa using h0)]);have HP:Hid (∀(nb:Nat) (nv:aN) (W:aJ),fE W nb M A nv l p.po->β w W->aQ aM 99 #[π nb,aH AA (aA es) c] W λe w'=>∃xS,e=aU (ν 0)/\fE w' nb M A nv (jw M A l es) xS/\bC (λk=>k=nb\/nv.ownBlock=aC k) W w'):=η λnb nv W hk hW=>(a1V M A nv l p.po es AA c nb W hk ((HS.o.below hW).mono hW.size) HI.o Iq.o Q7).mono λe w' ⟨xS,he,hb,hu⟩=>⟨xS,by rw [he,h0],by unfold KL at hb;rw [ifP h0] at hb;exact hb,hu⟩
  have ew:=η (λ(nb:Nat) (nv:aN) (xS:Int) (W:aJ) (hk:fE W nb M A nv (jw M A l es) xS) (hW:β w W)=>aKx vb p M A room l h nb nv (jw M A l es) xS es AA c W (HV.o.below hW) hk ((HS.o.below hW).mono hW.size) HI.o hl Q7);by_cases h1:es.any (rZ M A l (jw M A l es) h)=aO
  ·rw [h1] at HE ew;have qp:Hid (lR M A l h es=13):=η (by rw [HE.o];rfl);go_enter a0R,a0l
   go_wp2_with (first|(go_at_call 98;refine Kf.o.mono ?_;rintro e w2 ⟨nb,nv,rfl,hk2,oF,pn,hb2⟩;have aV:=η hb2;have lT:=η hk2;have r8:Hid (w.heap.size<=nb/\∀k,nv.ownBlock=aC k->w.heap.size<=k):=η ⟨oF,pn⟩;have hz2:=hk2.lt)|(go_at_call 99;refine(HP.o nb nv _ lT.o aV.o).mono ?_;rintro e w3 ⟨NM,rfl,hk3,px⟩;have oO:=η hk3;have af:=η (aV.o.trans (px.toBelow aV.o.size (λk hk=>hk.elim (λe=>by rw [e];exact r8.o.1) (λe=>r8.o.2 k e)))))|(go_at_call 100;refine(ew.o nb nv NM _ oO.o af.o).mono ?_;rintro e w4 ⟨rfl,hb4⟩;have ar:=τ af hb4;have xl:=η (oO.o.below hb4)))
   go_ret;exact⟨p,by rw [qp.o];rfl,by rw [qp.o];exact HV.o.below ar.o,bC.bV _ ar.o,λk hk=>aS hk⟩
  have uL:es.any (rZ M A l (jw M A l es) h)=aP:=by simpa using h1
  rw [uL] at HE ew;have qp:Hid (lR M A l h es=0):=η (by rw [HE.o];rfl);go_enter a0R,a0l
  go_wp2_with (first|(go_at_call 98;refine Kf.o.mono ?_;rintro e w2 ⟨nb,nv,rfl,hk2,oF,pn,hb2⟩;have aV:=η hb2;have lT:=η hk2;have r8:Hid (w.heap.size<=nb/\∀k,nv.ownBlock=aC k->w.heap.size<=k):=η ⟨oF,pn⟩;have hz2:=hk2.lt)|(go_at_call 99;refine(HP.o nb nv _ lT.o aV.o).mono ?_;rintro e w3 ⟨NM,rfl,hk3,px⟩;have oO:=η hk3;have af:=η (aV.o.trans (px.toBelow aV.o.size (λk hk=>hk.elim (λe=>by rw [e];exact r8.o.1) (λe=>r8.o.2 k e)))))|(go_at_call 100;refine(ew.o nb nv NM _ oO.o af.o).mono ?_;rintro e w4 ⟨rfl,hb4⟩;have ar:=τ af hb4;have xl:=η (oO.o.below hb4);have z0:=(HV.o.below ar.o).c0;have mM:=(HV.o.below ar.o).lt;have zf:w4.frozen? ⟨vb,0,aB⟩=aP:=(by simp [iU,(HV.o.below ar.o).blk])))
  go_ret;refine⟨⟨nb,nv,NM,p.tb,p.tv⟩,by rw [qp.o];rfl,by rw [qp.o];exact(HV.o.below ar.o).swap xl.o,((bC.bV (λk=>k=vb) ar.o).setCell (p:=⟨vb,0,aB⟩) (aS rfl) _), ?_⟩;rintro k (hk|hk|hk|hk|hk)
  ·exact aS (aS hk)
  ·exact aT (by rw [hk];exact r8.o.1)
  ·exact aT (r8.o.2 k hk)
  ·exact aS (aT (aT (aT (aS hk))))
  exact aS (aT (aT (aT (aT hk))))
 have HE:Hid (lR M A l h es=nM M A l es):=η (by unfold lR;rw [ifP h0]);have oP:=η h0;have a3m:(nM M A l es !=0)=aO:=by simpa using h0
 have HP:Hid (∀(nb:Nat) (nv:aN) (W:aJ),fE W nb M A nv l p.po->β w W->aQ aM 99 #[π nb,aH AA (aA es) c] W λe w'=>∃xS,e=aU (ν (nM M A l es))/\fE w' nb M A nv (KL M A l es) xS/\bC (λk=>k=nb\/nv.ownBlock=aC k) W w'):=η λnb nv W hk hW=>a1V M A nv l p.po es AA c nb W hk ((HS.o.below hW).mono hW.size) HI.o Iq.o Q7
 generalize nM M A l es=E at*;go_enter a0R,a0l
 go_wp2_with (first|(go_at_call 98;refine Kf.o.mono ?_;rintro e w2 ⟨nb,nv,rfl,hk2,oF,pn,hb2⟩;have aV:=η hb2;have lT:=η hk2;have r8:Hid (w.heap.size<=nb/\∀k,nv.ownBlock=aC k->w.heap.size<=k):=η ⟨oF,pn⟩;have hz2:=hk2.lt)|(go_at_call 99;refine(HP.o nb nv _ lT.o aV.o).mono ?_;rintro e w3 ⟨NM,rfl,hk3,px⟩;have oO:=η hk3;have af:=η (aV.o.trans (px.toBelow aV.o.size (λk hk=>hk.elim (λe=>by rw [e];exact r8.o.1) (λe=>r8.o.2 k e))))))
 go_ret;exact⟨p,by rw [HE.o];rfl,by rw [ifN (by rw [HE.o];exact oP.o)];exact HV.o.below af.o,bC.bV _ af.o,λk hk=>aS hk⟩
def kp(fk fm tk tm a n:Int):List En:= [⟨fk,fm,a,-n⟩,⟨tk,tm,a,n⟩]
theorem aKz(vb:Nat)(p:Vp)(M A:Nat)(room:Int)(l:List Int)(h:List Hr)(fk fm tk tm a n:Int)(w:aJ)(H:iB w vb p M A room l h)(hf:aL fk/\aL fm)(ht:aL tk/\aL tm)(ha:aL a)(hn:aL n)(lf:0<=n)(vM:∀y∈l,aL y)(hl:aA h<=100000):
 aQ aM 87 #[π vb,bO #[ν fk,ν fm],bO #[ν tk,ν tm],ν a,ν n] w (UH vb p M A room l h (kp fk fm tk tm a n) w):=by
 have Ma: -n<=9223372036854775807/\-9223372036854775808<=-n:=by unfold aL at hn;omega
 have hIn:aL (-n):=by unfold aL;omega
 have af:Hid (β w (((w.alloc (aK #[ν fk,ν fm] 51)).alloc (aK #[ν tk,ν tm] 51)).alloc (aK #[ν fk,ν fm,ν a,ν (-n),ν tk,ν tm,ν a,ν n] 103))):=η ((σ.alloc (by simp) _).alloc (by simp;omega) _);have TY:=η (H.below af.o);have oX:Hid (aW (((w.alloc (aK #[ν fk,ν fm] 51)).alloc (aK #[ν tk,ν tm] 51)).alloc (aK #[ν fk,ν fm,ν a,ν (-n),ν tk,ν tm,ν a,ν n] 103)) (((w.alloc (aK #[ν fk,ν fm] 51)).alloc (aK #[ν tk,ν tm] 51)).alloc (aK #[ν fk,ν fm,ν a,ν (-n),ν tk,ν tm,ν a,ν n] 103)).heap.size (aC ⟨w.heap.size+2,0,aB⟩) (qT (kp fk fm tk tm a n))):=η (by
  have h1:=a6f ((w.alloc (aK #[ν fk,ν fm] 51)).alloc (aK #[ν tk,ν tm] 51)) 103 (qT (kp fk fm tk tm a n));have e:((w.alloc (aK #[ν fk,ν fm] 51)).alloc (aK #[ν tk,ν tm] 51)).heap.size=w.heap.size+2:=by simp
  rw [e] at h1;exact h1)
 have CS:=η (Y7 vb p M A room l h (kp fk fm tk tm a n) (aC ⟨w.heap.size+2,0,aB⟩) 2 _ TY.o oX.o (by
  intro x hx;simp only [kp,fC,List.not_mem_nil,or_false] at hx;rcases hx with rfl|rfl
  ·exact⟨hf.1,hf.2,ha,hIn⟩
  exact⟨ht.1,ht.2,ha,hn⟩) vM hl (by simp [kp]))
 have hwr:aF.wrap (-n)= -n:=sM _ (by omega);go_enter func87,ntmps87
 go_wp2_with (go_at_call 50;refine CS.o.mono ?_;rintro e w4 ⟨p',rfl,hv4,py,jv⟩;have HV4:=η hv4;have Fh:=η py;have kH:=η jv)
 go_ret;refine⟨p',rfl,HV4.o,(bC.bV _ af.o).trans Fh.o (λk hk=>aS hk),λk hk=>(kH.o k hk).imp id (λh=>cC af.o.size h)⟩
def qR(a b:Int):Int:=if a<b then-1 else if b<a then 1 else 0
theorem Wp(a:Int)(w:aJ):aQ aM 249 #[aG aF a] w λe w'=>e=aU (bM aP)/\w=w':=by
 go_enter func249,ntmps249
 go_wp2
 go_ret;exact⟨rfl,rfl⟩
theorem Uh(a b:Int)(w:aJ):aQ aM 213 #[aG aF a,aG aF b] w λe w'=>e=aU (aG aF (qR a b))/\w=w':=by
 unfold qR;by_cases h1:a<b
 ·rw [ifP h1];go_enter U4,UB
  go_wp2_with (go_at_call 249;refine(Wp _ _).mono ?_;rintro e w' ⟨rfl,rfl⟩)
  go_ret;exact⟨rfl,rfl⟩
 rw [ifN h1];have uL:b<=a:=by omega
 by_cases h2:b<a
 ·rw [ifP h2];go_enter U4,UB
  go_wp2_with (go_at_call 249;refine(Wp _ _).mono ?_;rintro e w' ⟨rfl,rfl⟩)
  go_ret;exact⟨rfl,rfl⟩
 rw [ifN h2];have uM:a<=b:=by omega
 go_enter U4,UB
 go_wp2_with (go_at_call 249;refine(Wp _ _).mono ?_;rintro e w' ⟨rfl,rfl⟩)
 go_ret;exact⟨rfl,rfl⟩
theorem a7X(r:Hr)(i:Int)(w:aJ):aQ aM 212 #[bO #[aG aF r.i,aG aF r.s,aG aF r.m,aG aF r.a,aG aF r.n],aG aF i] w λe w'=>e=aU (aG aF (qR r.i i))/\aa w.heap.size w w':=by
 have hx:(w.alloc (aK #[ν r.i,ν r.s,ν r.m,ν r.a,ν r.n] 188)).cell? ⟨w.heap.size,0,aB⟩=aC (ν r.i):=cM w _ _ 0 rfl;go_enter func212,ntmps212
 go_wp2_with (go_at_call 213;refine(Uh _ _ _).mono ?_;rintro e w' ⟨rfl,rfl⟩)
 go_ret;exact⟨rfl,(aX _ _).alloc (aZ _) _⟩
def pU(L:List Hr):Prop:=L.Pairwise (λx y=>x.i<y.i)
def Db(L:List Hr)(i:Int):Nat:=L.findIdx λr=>decide (i<=r.i)
def vX(L:List Hr)(i:Int):Bool:=L.any λr=>r.i==i
theorem XN {L:List Hr} {i:Int} {k:Nat}(hk:k<=aA L)(h1:∀j (hj:j<aA L),j<k->L[j].i<i)(h2:∀(hj:k<aA L),i<=L[k].i):Db L i=k:=by
 unfold Db;rcases rF k (aA L) with h|h
 ·rw [List.findIdx_eq h];exact⟨by simpa using h2 h,λj hj=>by simpa using h1 j (by omega) hj⟩
 have e:k=aA L:=by omega
 rw [e,List.findIdx_eq_length];intro x hx;obtain⟨j,hj,rfl⟩:=sR.1 hx;simpa using h1 j hj (by omega)
theorem a4M {L:List Hr} {i:Int}(hu:pU L) {k:Nat}(hk:k<=aA L)(h1:∀j (hj:j<aA L),j<k->L[j].i<i)(h2:∀(hj:k<aA L),i<=L[k].i):vX L i=(decide (k<aA L)&&(match L[k]? with|some r=>decide (r.i=i)|none=>aP)):=by
 unfold vX;rcases rF k (aA L) with h|h
 ·rw [iA h];simp only [h,decide_true,Bool.true_and];by_cases e:L[k].i=i
  ·simp only [e,decide_true];exact kK.2 ⟨_,cK h,by simpa using e⟩
  simp only [e,decide_false];rw [zE];intro x hx;obtain⟨j,hj,rfl⟩:=sR.1 hx;have h3:=h2 h;rcases Nat.lt_trichotomy j k with hjk|hjk|hjk
  ·have:=h1 j hj hjk;simp;omega
  ·subst hjk;simpa using e
  have:=uu.1 hu k j h hj hjk;simp;omega
 rw [LN h];simp only [IV];rw [zE];intro x hx;obtain⟨j,hj,rfl⟩:=sR.1 hx;have:=h1 j hj (by omega);simp;omega
theorem aCi(L:List Hr)(i:Int)(A:Option ai)(c:Nat)(w:aJ)(hs:aW w w.heap.size A (tJ L))(hl:aA L<=100000)(hu:pU L):
 aQ aM 211 #[aH A (aA L) c,ν i,.func (.func 212) #[] #[]] w λe w'=>e=aU (bB #[ν (Db L i:Int),bM (vX L i)])/\β w w':=by
 have HS:=η hs;have HU:=η hu;have aY:Hid (β w w):=η (aX _ _);have Ky:Hid (∀j (hj:j<aA L),j<0->L[j].i<i):=η (λj hj h=>absurd h (by omega));have Kn:Hid (∀j (hj:j<aA L),aA L<=j->i<=L[j].i):=η (λj hj h=>absurd h (by omega));clear hs hu;go_enter func211,ntmps211
 go_wp2_with fail
 go_loopw [9,10,11] (λa b _ wr=>∃lo hi:Nat,lo<=hi/\hi<=aA L/\a=ν (lo:Int)/\b=ν (hi:Int)/\Hid (∀j (hj:j<aA L),j<lo->L[j].i<i)/\Hid (∀j (hj:j<aA L),hi<=j->i<=L[j].i)/\Hid (β w wr)) (λa b _ _=>(ag b-ag a).toNat)
 case atStart=>exact⟨0,_,bL _,aZ _,rfl,rfl,Ky,Kn,aY⟩
 case round=>
  clear Ky Kn aY;obtain⟨lo,hi,hlh,Vh,rfl,rfl,Dy,oN,HB⟩:=hrel;by_cases hlt:lo<hi
  ·obtain⟨mid,WC⟩:∃mid:Nat,mid=(lo+hi)/2:=⟨_,rfl⟩;have tF:lo<=mid:=by omega
   have xF:mid<hi:=by omega
   have yv:Hid (((lo:Int)+(hi:Int))/2=(mid:Int)):=η (by omega);clear WC;go_upto_region 5 with fail
   rw [yv.o];have iW:mid<aA L:=by omega
   obtain⟨be,oe,rfl,lO,e0,e1,e2,e3,e4⟩:=Jw ((HS.o.below HB.o).mono HB.o.size) iW;have HF:=η (λW=>a7X L[mid] i W);have eV:(0:Int)<=(mid:Int):=by omega
   have hkb:(mid:Int)<(aA L:Int):=by omega
   by_cases hc:L[mid].i<i
   ·have a8l:Hid (∀j (hj:j<aA L),j<mid+1->L[j].i<i):=η (λj hj h=>by
     rcases rF j mid with h'|h'
     ·have:=uu.1 HU.o j mid hj iW h';omega
     obtain rfl:j=mid:=by omega
     exact hc)
    have hv:qR L[mid].i i= -1:=by unfold qR;rw [ifP hc]
    rw [hv] at HF;clear hv hc Dy;generalize L[mid]=r at*;obtain⟨ri,rs,rm,ra,rn⟩:=r;simp only at e0 e1 e2 e3 e4 HF;go_wp2_with (go_at_call 212;refine(HF.o _).mono ?_;rintro e w2 ⟨rfl,hb2⟩;have aV:Hid (β w w2):=τ HB hb2;clear hb2)
    go_roundw
    case rel=>exact⟨mid+1,hi,by omega,by omega,by go_num,rfl,a8l,oN,aV⟩
    case measure=>simp [ag];omega
   have a8g:Hid (∀j (hj:j<aA L),mid<=j->i<=L[j].i):=η (λj hj h=>by
    rcases rF mid j with h'|h'
    ·have:=uu.1 HU.o mid j iW hj h';omega
    obtain rfl:j=mid:=by omega
    omega)
   have hv:0<=qR L[mid].i i:=by unfold qR;rw [ifN hc];split<;>omega
   clear hc oN;generalize qR L[mid].i i=cv at*;generalize L[mid]=r at*;obtain⟨ri,rs,rm,ra,rn⟩:=r;simp only at e0 e1 e2 e3 e4 HF;go_wp2_with (go_at_call 212;refine(HF.o _).mono ?_;rintro e w2 ⟨rfl,hb2⟩;have aV:Hid (β w w2):=τ HB hb2;clear hb2)
   go_roundw
   case rel=>exact⟨lo,mid,by omega,by omega,rfl,rfl,Dy,a8g,aV⟩
   case measure=>simp [ag];omega
  obtain rfl:lo=hi:=by omega
  have hp:=XN Vh Dy.o (λhj=>oN.o _ hj (aZ _));have pj:=a4M HU.o Vh Dy.o (λhj=>oN.o _ hj (aZ _));have HP:=η hp;have HIS:=η pj;clear hp pj;by_cases rS:lo<aA L
  ·obtain⟨be,oe,rfl,lO,e0,e1,e2,e3,e4⟩:=Jw ((HS.o.below HB.o).mono HB.o.size) rS;have HF:=η (λW=>a7X L[lo] i W);have eV:(0:Int)<=(lo:Int):=by omega
   have hkb:(lo:Int)<(aA L:Int):=by omega
   have zh:=oN.o _ rS (aZ _);have gT:Hid (vX L i=decide (L[lo].i=i)):=η (by rw [HIS.o,iA rS];simp [rS]);have Yg:Hid ((qR L[lo].i i==0)=decide (L[lo].i=i)):=η (by
    unfold qR;rw [ifN (by omega)];split
    ·rename_i h;have:L[lo].i≠i:=by omega
     simp [this]
    rename_i h;have:L[lo].i=i:=by omega
    simp [this])
   have HR:Hid (vX L i=(qR L[lo].i i==0)):=η (by rw [gT.o,Yg.o]);generalize qR L[lo].i i=cv at*;clear gT Yg HIS oN Dy zh;generalize L[lo]=r at*;obtain⟨ri,rs,rm,ra,rn⟩:=r;simp only at e0 e1 e2 e3 e4 HF;go_wp2_with (go_at_call 212;refine(HF.o _).mono ?_;rintro e w2 ⟨rfl,hb2⟩;have aV:Hid (β w w2):=τ HB hb2;clear hb2)
   go_ret2;exact⟨by rw [HP.o,HR.o];rfl,aV.o⟩
  have pA:decide ((lo:Int)<(aA L:Int))=aP:=decide_eq_false (by omega);have aGI:decide (lo<aA L)=aP:=decide_eq_false rS;have gT:Hid (vX L i=aP):=η (by rw [HIS.o,aGI];rfl);go_wp2_with fail
  go_ret2;exact⟨by rw [HP.o,gT.o];rfl,HB.o⟩
theorem Rt(room:Int)(v:aN)(L:List Hr)(i:Int)(tb:Nat)(w:aJ)(h:jM w tb room v L)(hl:aA L<=100000)(hu:pU L):
 aQ aM 172 #[π tb,ν i] w λe w'=>e=aU (bB #[ν (Db L i:Int),bM (vX L i)])/\β w w':=by
 have c1:=h.c1;obtain⟨A,c,hv⟩:=bJ h.own;subst hv;have HC:=η (aCi L i A c w (aW.cA h.own) hl hu);go_enter func172,ntmps172
 go_wp2_with (go_at_call 211;refine lu HC.o λw2 aV=> ?_)
 go_ret2;exact⟨rfl,aV⟩
def a8W(v:aN)(n:Nat)(xs:List aN)(w:aJ)(e:di)(w':aJ):Prop:=
 ∃g cap,e=aU (aH (aC ⟨g,0,aB⟩) (n+1) cap)/\w'.ownsRow 0 188 5 (aH (aC ⟨g,0,aB⟩) (n+1) cap) (n+1) xs/\w.grownBy w' v.ownBlock/\(v.ownBlock=aC g\/w.heap.size<=g)
theorem aGk(n:Nat)(xs:List aN)(A:Option ai)(c nb:Nat)(news:List aN)(w:aJ)(hown:w.ownsRow 0 188 5 (aH A n c) n xs)(hl:n<=100000)(pA:aA news=5)(hn:∀j u,news[j]? =aC u->w.cell? ((⟨nb,0,aB⟩:ai).add j)=aC u)(h1:∀u∈news,u.oneCell'=aO):
 aQ aM 173 #[aH A n c,ν (n:Int),aH (aC ⟨nb,0,aB⟩) 1 1] w (a8W (aH A n c) n (xs++news) w):=by
 have xG:n<=c/\c<=bK:=by
  rcases hown.2 with⟨hv,h0⟩|⟨g,cap,cur,hv,_,hb,h3,h4,_⟩
  ·injection hv with e1 e2 e3;rw [e2,e3];simp [bK]
  injection hv with e1 e2 e3;rw [e3];exact⟨h3,h4⟩
 have hAn:A=aB->c=n:=by
  rintro rfl;rcases hown.2 with⟨hv,h0⟩|⟨g,cap,cur,hv,_⟩
  ·injection hv with e1 e2 e3;omega
  injection hv with e1 e2 e3;cases e1
 have aML:(n:Int)<=(c:Int):=by omega
 have aMM:=xG.1;have lf:(0:Int)<=(n:Int):=by omega
 have HO:=η hown;have HN:=η hn;have H1:=η h1;have r8:=η pA;obtain⟨ih,QD,a4B,Wk,a4C⟩:=dK Wn;have CV:Hid (∃u,∀W:aJ,(Instr.slice 185 (aH A n c) (aC (ν (n:Int))) aB aB).run aM W= .ok u W):=η (by
  by_cases e:c=n
  ·subst e;refine⟨aH A 0 0,λW=> ?_⟩;cases A<;>go_simp
  cases A with
  |none=>
   exact absurd (hAn rfl) e
  |some a=>exact⟨aH (aC (a.add (n*5))) 0 (c-n),λW=>by go_simp⟩)
 obtain⟨u,hu⟩:=CV.o;go_enter func173,ntmps173
 go_wp2_with (at_builtin;refine wpList_append_lies _ rfl _ _ 185 rfl 0 188 ih _ 5 40 Oz QD a4B Wk a4C rfl (by omega) (aH A n c) n xs rfl HO.o ⟨nb,0,aB⟩ 1 1 news rfl r8.o HN.o H1.o (by omega) (by simp only [bK];omega) (by omega) (bL _) w.heap.size rfl ?_)
 intro g cap w' hown' hgr hat _;have HO':=η hown';have HG:=η hgr;have HA:=η hat;go_wp2
 go_ret;exact⟨g,cap,rfl,HO'.o,HG.o,HA.o.imp id (λe=>by rw [e];exact aZ _)⟩
def a0A(tb:Nat)(room:Int)(v:aN)(L:List Hr)(w:aJ)(e:di)(w':aJ):Prop:=
 ∃v',e=aU (ν 0)/\jM w' tb room v' L/\bC (λk=>k=tb\/v.ownBlock=aC k) w w'/\∀k,v'.ownBlock=aC k->v.ownBlock=aC k\/w.heap.size<=k
theorem aGL(L:List Hr)(x:Hr):tJ (L++ [x])=tJ L++x.cells:=by simp [tJ]
theorem aGM(x:Hr):∀u∈x.cells,u.oneCell'=aO:=by intro u hu;simp [Hr.cells] at hu;rcases hu with rfl|rfl|rfl|rfl|rfl<;>rfl
theorem jM.ne {w:aJ} {tb:Nat} {room:Int} {v:aN} {L:List Hr}(h:jM w tb room v L):v.ownBlock≠aC tb:=gM h.own h.blk (by decide)
theorem aKs(room:Int)(v:aN)(L:List Hr)(x:Hr)(tb:Nat)(w:aJ)(h:jM w tb room v L)(hl:aA L<=99999)(hu:pU L)(hp:Db L x.i=aA L)(hi:vX L x.i=aP)(hr:(aA L:Int)<room):
 aQ aM 115 #[π tb,ν x.i,bO #[ν x.s,ν x.m,ν x.a,ν x.n]] w (a0A tb room v (L++ [x]) w):=by
 obtain⟨xi,xs,xm,xa,xn⟩:=x;simp only at hp hi;have aY:Hid (β w (w.alloc (aK #[ν xs,ν xm,ν xa,ν xn] 113))):=η σ;have HF:=η (Rt room v L xi tb _ (h.below aY.o) (by omega) hu);rw [hp,hi] at HF;have HT:=η (h.below aY.o);have hz0:w.heap.size<(w.alloc (aK #[ν xs,ν xm,ν xa,ν xn] 113)).heap.size:=by simp
 have HX:Hid ((w.alloc (aK #[ν xs,ν xm,ν xa,ν xn] 113)).heap[w.heap.size]? =aC (aK #[ν xs,ν xm,ν xa,ν xn] 113 (0,0))):=η (cT w _);have F2:=h.lt;have wN:Hid (∀k,v.ownBlock=aC k->k<w.heap.size):=η (λk hk=>(h.own.lt k hk).2);clear h hu hp hi;have zh:decide (room<=(aA L:Int))=aP:=decide_eq_false (by omega);go_enter func115,ntmps115
 go_wp2_with (go_at_call 172;refine HF.o.mono ?_;rintro e w2 ⟨rfl,hb2⟩;have aV:=η hb2;clear hb2)
 generalize w.alloc (aK #[ν xs,ν xm,ν xa,ν xn] 113)=w1 at*;obtain⟨bx,bQ⟩:∃bx,bx=w.heap.size:=⟨_,rfl⟩;have dN:=η bQ;rw [<-bQ] at HX hz0 ⊢;have htx:tb<bx:=by omega
 clear bQ;have qK:=η (HT.o.below aV.o);have c0:=qK.o.c0;have c1:=qK.o.c1;obtain⟨A,c,hv⟩:=bJ qK.o.own;subst hv;go_quiet (fail)
 have af:Hid (β w1 (w2.drewN nq)):=η (below_drewN aV.o nq);have zC:Hid (jM (w2.drewN nq) tb room (aH A (aA L) c) L):=η ⟨qK.o.blk,qK.o.own⟩;clear aV qK c0 c1;generalize w2.drewN nq=w3 at*;go_upto_region 8 with fail
 have hz3:bx<w3.heap.size:=cR hz0 af.o.size;have nu:Hid (w3.heap[bx]? =aC (aK #[ν xs,ν xm,ν xa,ν xn] 113 (0,0))):=η ((af.o.block bx hz0).trans HX.o);have d0:w3.drew.cell? ⟨tb,1,aB⟩=aC (aH A (aA L) c):=zC.o.c1;obtain⟨d1,d2,d3,d4⟩:=RO nu;have rB:Hid (jM w3.drew tb room (aH A (aA L) c) L):=η ⟨zC.o.blk,zC.o.own⟩;have ar:Hid (β w1 w3.drew):=η af.o.drew;have a3v:tb<w3.drew.heap.size:=zC.o.lt;have Pz:bx<w3.drew.heap.size:=hz3;have th:Hid (aC tb≠(aH A (aA L) c).ownBlock):=η (λe=>zC.o.ne e.symm);have bP:Hid (aC bx≠(aH A (aA L) c).ownBlock):=η (λe=>by have:=wN.o bx e.symm;rw [dN.o] at this;omega);obtain⟨r,hr⟩:∃r,r=(aH A (aA L) c).ownBlock:=⟨_,rfl⟩;rw [<-hr] at th bP;have HR:=η hr;clear hr zC nu af;refine IQ (S:=λW=>W.cell? ⟨tb,1,aB⟩=aC (aH A (aA L) c)/\W.cell? ⟨bx,0,aB⟩=aC (ν xs)/\W.cell? ⟨bx,1,aB⟩=aC (ν xm)/\W.cell? ⟨bx,2,aB⟩=aC (ν xa)/\W.cell? ⟨bx,3,aB⟩=aC (ν xn)) 13 (by kernel_rfl) ⟨d0,d1,d2,d3,d4⟩ (λhHeld=> ?_);have bW:Hid (∀W,w3.drew.grownBy W r->W.cell? ⟨tb,1,aB⟩=aC (aH A (aA L) c)/\W.cell? ⟨bx,0,aB⟩=aC (ν xs)/\W.cell? ⟨bx,1,aB⟩=aC (ν xm)/\W.cell? ⟨bx,2,aB⟩=aC (ν xa)/\W.cell? ⟨bx,3,aB⟩=aC (ν xn)):=η λW hg=>⟨(hg.cell_far ⟨tb,1,aB⟩ a3v th.o).trans d0,(hg.cell_far ⟨bx,0,aB⟩ Pz bP.o).trans d1,(hg.cell_far ⟨bx,1,aB⟩ Pz bP.o).trans d2,(hg.cell_far ⟨bx,2,aB⟩ Pz bP.o).trans d3,(hg.cell_far ⟨bx,3,aB⟩ Pz bP.o).trans d4⟩
 clear d0 d1 d2 d3 d4;generalize w3.drew=w4 at*;have Aa:Hid (w4.grownBy w4 r):=η (Gp (aX _ _) r);refine eB (i:=0) (v:=π tb) rfl (by kernel_rfl) (by kernel_rfl) (by kernel_rfl) (by kernel_rfl) (by kernel_rfl) (λ_ _ _ h=>h) (aS ⟨by rfl,λw' hSw=>by obtain⟨s0,s1,s2,s3,s4⟩:=hSw;go_simp⟩) hHeld ?_;refine eB (i:=1) (v:=π tb) rfl (by kernel_rfl) (by kernel_rfl) (by kernel_rfl) (by kernel_rfl) (by kernel_rfl) (λ_ _ _ h=>h) (aS ⟨by rfl,λw' hSw=>by obtain⟨s0,s1,s2,s3,s4⟩:=hSw;go_simp⟩) hHeld ?_;refine eB (i:=2) (v:=π tb) rfl (by kernel_rfl) (by kernel_rfl) (by kernel_rfl) (by kernel_rfl) (by kernel_rfl) (λ_ _ _ h=>h) (aS ⟨by rfl,λw' hSw=>by obtain⟨s0,s1,s2,s3,s4⟩:=hSw;go_simp⟩) hHeld ?_;refine eB (i:=3) (v:=bH (aC ⟨tb,1,aB⟩)) rfl (by kernel_rfl) (by kernel_rfl) (by kernel_rfl) (by kernel_rfl) (by kernel_rfl) (λ_ _ _ h=>h) (aS ⟨by rfl,λw' hSw=>by obtain⟨s0,s1,s2,s3,s4⟩:=hSw;go_simp⟩) hHeld ?_;refine eB (i:=4) (v:=aH A (aA L) c) rfl (by kernel_rfl) (by kernel_rfl) (by kernel_rfl) (by kernel_rfl) (by kernel_rfl) (λ_ _ _ h=>h) (aS ⟨by rfl,λw' hSw=>by obtain⟨s0,s1,s2,s3,s4⟩:=hSw;go_simp⟩) hHeld ?_;refine eB (i:=5) (v:=ν (aA L:Int)) rfl (by kernel_rfl) (by kernel_rfl) (by kernel_rfl) (by kernel_rfl) (by kernel_rfl) (λ_ _ _ h=>h) (aS ⟨by rfl,λw' hSw=>by obtain⟨s0,s1,s2,s3,s4⟩:=hSw;go_simp⟩) hHeld ?_;refine eB (i:=6) (v:=ν xi) rfl (by kernel_rfl) (by kernel_rfl) (by kernel_rfl) (by kernel_rfl) (by kernel_rfl) (λ_ _ _ h=>h) (aS ⟨by rfl,λw' hSw=>by obtain⟨s0,s1,s2,s3,s4⟩:=hSw;go_simp⟩) hHeld ?_;refine eB (i:=7) (v:=bO #[ν xs,ν xm,ν xa,ν xn]) rfl (by kernel_rfl) (by kernel_rfl) (by kernel_rfl) (by kernel_rfl) (by kernel_rfl) (λ_ _ _ h=>h) (aS ⟨by rfl,λw' hSw=>by obtain⟨s0,s1,s2,s3,s4⟩:=hSw;go_simp⟩) hHeld ?_;refine eB (i:=8) (v:=bO #[ν xi,ν xs,ν xm,ν xa,ν xn]) rfl (by kernel_rfl) (by kernel_rfl) (by kernel_rfl) (by kernel_rfl) (by kernel_rfl) (λ_ _ _ h=>h) (aS ⟨by rfl,λw' hSw=>by obtain⟨s0,s1,s2,s3,s4⟩:=hSw;go_simp⟩) hHeld ?_;clear hHeld;refine nj (rs:= [9]) (by kernel_rfl) (by simp) ?_;refine eX.cons rfl (λK hK=> ?_) eX.nil;go_simp
 have Ab:Hid (w4.grownBy (w4.alloc (aK #[ν xi,ν xs,ν xm,ν xa,ν xn] 188)) r):=η (Po Aa.o _);have fK:=η (rB.o.own.alloc (aK #[ν xi,ν xs,ν xm,ν xa,ν xn] 188));have qz:=η (dM w4 188 #[ν xi,ν xs,ν xm,ν xa,ν xn] rfl);refine hK.o _ _ (λ_=>bW.o _ Ab.o) (λ_=> ?_);clear hK K;have Ah:=η (aGk (aA L) (tJ L) A c w4.heap.size [ν xi,ν xs,ν xm,ν xa,ν xn] _ fK.o (by omega) rfl qz.o (aGM ⟨xi,xs,xm,xa,xn⟩));generalize (w4.alloc (aK #[ν xi,ν xs,ν xm,ν xa,ν xn] 188))=w5 at*;refine nj (rs:= [10]) (by kernel_rfl) (by simp) ?_;refine eX.cons rfl (λK hK=> ?_) eX.nil;go_simp
 go_at_call 173
 refine Ah.o.mono ?_;rintro e w6 ⟨g,cap,rfl,tH,xE,ha6⟩;have lV:=η tH;have Ad:Hid (w4.grownBy w6 r):=η (EU Ab.o xE (aS HR.o.symm));have YZ:Hid ((aH A (aA L) c).ownBlock=aC g\/w4.heap.size<=g):=η (ha6.imp id (λe=>cC Ab.o.size e));clear tH xE ha6;go_wp2_with fail
 refine hK.o _ _ (λ_=>bW.o _ Ad.o) (λ_=> ?_);clear hK K;refine eB (i:=11) (v:=π tb) rfl (by kernel_rfl) (by kernel_rfl) (by kernel_rfl) (by kernel_rfl) (by kernel_rfl) (λ_ _ _ h=>h) (aS ⟨by rfl,λw' hSw=>by obtain⟨s0,s1,s2,s3,s4⟩:=hSw;go_simp⟩) (bW.o _ Ad.o) ?_;refine eB (i:=12) (v:=bH (aC ⟨tb,1,aB⟩)) rfl (by kernel_rfl) (by kernel_rfl) (by kernel_rfl) (by kernel_rfl) (by kernel_rfl) (λ_ _ _ h=>h) (aS ⟨by rfl,λw' hSw=>by obtain⟨s0,s1,s2,s3,s4⟩:=hSw;go_simp⟩) (bW.o _ Ad.o) ?_;refine nj (rs:= [13]) (by kernel_rfl) (by simp) ?_;refine eX.cons rfl (λK hK=> ?_) eX.nil;have c1:=(bW.o _ Ad.o).1;have iL:=(Ad.o.block tb a3v th.o).trans rB.o.blk;have hf6:w6.frozen? ⟨tb,1,aB⟩=aP:=by simp [iU,iL]
 have ew:=η iL;clear iL;go_simp
 refine hK.o _ _ (λh=>absurd rfl h) (λ_=> ?_);clear hK K;refine IP (by kernel_rfl) ?_ _;go_wp2_with fail
 go_ret;have Ha:g≠tb:=by
  rintro rfl;rcases YZ.o with e|e
  ·exact th.o (by rw [HR.o,e])
  omega
 refine⟨aH (aC ⟨g,0,aB⟩) (aA L+1) cap,rfl,⟨(om ew.o 1 _).trans rfl, ?_⟩, ?_, ?_⟩
 ·rw [cL,aGL];exact jz lV.o (λe=>Ha (by simpa [dx] using e)) _
 ·have h1:bC (λk=>k=tb\/(aH A (aA L) c).ownBlock=aC k) w w4:=bC.bV _ (aY.o.trans (ar.o.mono aY.o.size));have h2:bC (λk=>k=tb\/(aH A (aA L) c).ownBlock=aC k) w4 w6:=bC.I4 Ad.o (λk hk=>aS (aT (by rw [<-HR.o];exact hk)));exact(h1.trans h2 (λk hk=>aS hk)).setCell (p:=⟨tb,1,aB⟩) (aS (aS rfl)) _
 intro k hk;have e:k=g:=by simpa [dx] using hk.symm
 subst e;rcases YZ.o with e|e
 ·exact aS e
 exact aT (cC (cC aY.o.size ar.o.size) e)
theorem aJx(xs us:List aN)(u:aN)(j:Nat)(hj:j<aA xs):(xs.set j u).take (j+1)++us++(xs.set j u).drop (j+1+aA us)=xs.take j++(u::us)++xs.drop (j+(aA us+1)):=by
 have e1:(xs.set j u).take (j+1)=xs.take j++ [u]:=by rw [fF (by simpa using hj),Zn,List.take_set_of_le (aZ _)]
 have e2:(xs.set j u).drop (j+1+aA us)=xs.drop (j+(aA us+1)):=by rw [List.drop_set_of_lt (by omega)];congr 1;omega
 rw [e1,e2];simp
theorem XG {base:Nat} {e:bX} {size g n cap:Nat}:∀(us:List aN) (j:Nat) (w:aJ) (xs:List aN),w.ownsRow base e size (aH (aC ⟨g,0,aB⟩) n cap) n xs->j+aA us<=aA xs->
 (w.setCells g j us).ownsRow base e size (aH (aC ⟨g,0,aB⟩) n cap) n (xs.take j++us++xs.drop (j+aA us))/\w.grownBy (w.setCells g j us) (aC g)
 | [],j,w,xs,h,_=>by simpa [World.setCells] using ⟨h,Gp (aX _ _) (aC g)⟩
 |u::us,j,w,xs,h,hj=>by
  have hj':j<aA xs:=by simp at hj;omega
  obtain⟨h1,h2⟩:=h.stored j u;obtain⟨h3,h4⟩:=XG us (j+1) _ _ h1 (by simp at hj ⊢;omega);rw [aJx xs us u j hj'] at h3;exact⟨h3,EU h2 h4 (aS rfl)⟩
theorem aIa {w:aJ} {base:Nat} {e:bX} {size g n cap:Nat} {xs:List aN}(h:w.ownsRow base e size (aH (aC ⟨g,0,aB⟩) (n+1) cap) (n+1) xs):w.ownsRow base e size (aH (aC ⟨g,0,aB⟩) n cap) n (xs.take (n*size)):=by
 rcases h.2 with⟨hv,h0⟩|⟨g',cap',cur,hv,hb,h2,h3,h4,h5,h6⟩
 ·cases hv
 refine⟨?_,aT ⟨g',cap',cur, ?_,hb,h2,by omega,h4,h5, ?_⟩⟩
 ·rw [ur,h.1];have:n*size<=(n+1)*size:=Fz _ (by omega);omega
 ·injection hv with e1 e2 e3;rw [e1,e3]
 rw [<-h6,a9Y];congr 1;have:n*size<=(n+1)*size:=Fz _ (by omega);omega
def Z5:List aN:= [aG aF 0,aG aF 0,aG aF 0,aG aF 0,aG aF 0]
theorem aDM(w:aJ)(ty:bX)(b o c:Nat)(hc:∀j,j<5->(w.cell? ⟨b,o+j,aB⟩).isSome=aO)(hf:∀j,j<5->w.frozen? ⟨b,o+j,aB⟩=aP):
 (YK #[185] ty #[aH (aC ⟨b,o,aB⟩) 1 c]).run aM w= .ok (bB #[]) (w.setCells b o Z5):=by
 have hzc:(Dl (Value.agg #[ν 0,ν 0,ν 0,ν 0,ν 0]).cells 1).toList=Z5:=by kernel_rfl
 have hst:=run_storeCells_cells (P:=aM) b o Z5 0 w (by simpa [Z5] using hc) (by simpa [Z5] using hf) (by intro v hv;simp [Z5] at hv;subst hv;rfl);simp only [Fx] at hst;simp [YK,run_underlying Oz,hzc,hst]
def YO(g n cap:Nat)(xs:List aN)(w:aJ)(e:di)(w':aJ):Prop:=
 e=aU (aH (aC ⟨g,0,aB⟩) n cap)/\w'.ownsRow 0 188 5 (aH (aC ⟨g,0,aB⟩) n cap) n xs/\w.grownBy w' (aC g)
theorem aEQ(n g cap:Nat)(x xs:List aN)(w:aJ)(hx:aA x=5)(h1:∀u∈xs,u.oneCell'=aO)(hown:w.ownsRow 0 188 5 (aH (aC ⟨g,0,aB⟩) (n+1) cap) (n+1) (x++xs))(hl:n<=100000):
 aQ aM 182 #[aH (aC ⟨g,0,aB⟩) (n+1) cap,ν 0,ν 1] w (YO g n cap xs w):=by
 have mq:aA xs=n*5:=by have:=hown.1;rw [cL,hx] at this;omega
 have Ee:n+1<=cap/\cap<=bK:=by
  rcases hown.2 with⟨hv,h0⟩|⟨g',cap',cur,hv,_,hb,h3,h4,_⟩
  ·cases hv
  injection hv with e1 e2 e3;rw [e3];exact⟨h3,h4⟩
 have hcm:(cap:Int)<=9223372036854775807:=by have:=Ee.2;unfold bK at this;omega
 have hc1:(n:Int)+1<=(cap:Int):=by omega
 have Mh:w.drew.ownsRow 0 188 5 (aH (aC ⟨g,0,aB⟩) (n+1) cap) (n+1) (x++xs):=hown.drew;obtain⟨A,hA,a8x⟩:∃A:ai,(if cap=1 then aC (⟨g,0,aB⟩:ai) else aC ⟨g,5,aB⟩)=aC A/\Hid (∀t u,xs[t]? =aC u->w.drew.cell? (A.add t)=aC u):=by
  by_cases h:cap=1
  ·refine⟨⟨g,0,aB⟩,by simp [h],λt u hu=> ?_⟩;have h0:xs= []:=nG (by omega);rw [h0] at hu;simp at hu
  refine⟨⟨g,5,aB⟩,by simp [h],λt u hu=> ?_⟩;have ht:t<aA xs:=(zF.1 hu).1;have ea:(⟨g,5,aB⟩:ai).add t=⟨g,5+t,aB⟩:=by unfold Addr.add;split<;>simp_all
  rw [ea,Mh.cellAt (5+t) (by omega),List.getElem?_append_right (by omega),hx,Nat.add_sub_cancel_left];exact hu
 obtain⟨o1,g1⟩:=XG xs 0 w.drew (x++xs) Mh (by rw [cL];omega);have oD:aA (Ts 0 (x++xs)++xs++Tk (0+aA xs) (x++xs))=n*5+5:=by simp only [nJ,Fs,cL,List.length_drop,hx,mq];omega
 obtain⟨o2,g2⟩:=XG Z5 (n*5) _ _ o1 (by rw [oD];simp [Z5]);have kE:Hid (((w.drew.setCells g 0 xs).setCells g (n*5) Z5).ownsRow 0 188 5 (aH (aC ⟨g,0,aB⟩) n cap) n xs):=η (by
  have h2:=aIa o2;have e:(Ts (n*5) (Ts 0 (x++xs)++xs++Tk (0+aA xs) (x++xs))++Z5++Tk (n*5+aA Z5) (Ts 0 (x++xs)++xs++Tk (0+aA xs) (x++xs))).take (n*5)=xs:=by simp only [nJ,Fs];rw [List.append_assoc,Zq (by rw [ur,cL];omega),a9Y,Nat.min_self,Zq (by omega),List.take_of_length_le (by omega)]
  rw [e] at h2;exact h2)
 have Yt:Hid (w.grownBy ((w.drew.setCells g 0 xs).setCells g (n*5) Z5) (aC g)):=η (EU (EU (Gp (aX _ _).drew (aC g)) g1 (aS rfl)) g2 (aS rfl));have hsp:Hid (∀j,j<aA xs->(w.drew.cell? ⟨g,0+0*5+j,aB⟩).isSome=aO/\w.drew.frozen? ⟨g,0+0*5+j,aB⟩=aP):=η (λj hj=>by
  have e0:0+0*5+j=j:=by omega
  rw [e0];exact⟨by rw [Mh.cellAt j (by omega),iA (by rw [cL];omega)];rfl,Mh.frozenAt j⟩)
 obtain⟨W1,hW1⟩:=xq (w.drew.setCells g 0 xs);rw [<-hW1] at kE Yt o1
 have jt:∀ty,(YK #[185] ty #[aH (aC ⟨g,n*5,aB⟩) 1 (cap-n)]).run aM W1= .ok (bB #[]) (W1.setCells g (n*5) Z5):=λty=>aDM W1 ty g (n*5) _
  (λj hj=>by rw [o1.cellAt (n*5+j) (by omega),iA (by rw [oD];omega)];rfl) (λj _=>o1.frozenAt _)
 have HW:Hid (W1=w.drew.setCells g (0+0*5) xs):=η hW1;have Tb:=η mq;have H1:=η h1;obtain⟨ih,QD,a4B,Wk,a4C⟩:=dK Wn;have h11:(1:Int)<=(n:Int)+1:=by omega
 clear hown Mh o1 o2 g1 g2 oD hW1 mq h1 hx;go_enter func182,ntmps182
 go_wp2
 go_region_law (refine step_append_room rfl (.tmp 22) (.tmp 25) 185 rfl 188 ih 5 Oz QD Wk g 0 0 cap (by simp [Act.eval,Act.put]) A n (cap-1) xs (by simp [Act.eval,Act.put]) Tb.o a8x.o H1.o (by omega) hsp.o ?_;rw [<-HW.o])
 have ju:(0:Int)<=(n:Int):=by omega
 go_wp2
 go_ret;exact⟨rfl,kE.o,Yt.o⟩
theorem aKl(room:Int)(v:aN)(L:List Hr)(i:Int)(tb:Nat)(w:aJ)(h:jM w tb room v L)(hl:aA L<=100000)(hu:pU L)(hi:vX L i=aP):
 aQ aM 113 #[π tb,ν i] w λe w'=>e=aU (bB #[bO #[ν 0,ν 0,ν 0,ν 0],ν 8])/\β w w':=by
 have aY:Hid (β w (w.alloc (aK #[ν 0,ν 0,ν 0,ν 0] 113))):=η σ;have HF:=η (Rt room v L i tb _ (h.below aY.o) hl hu);rw [hi] at HF;have HX:Hid ((w.alloc (aK #[ν 0,ν 0,ν 0,ν 0] 113)).heap[w.heap.size]? =aC (aK #[ν 0,ν 0,ν 0,ν 0] 113 (0,0))):=η (cT w _);have hz0:w.heap.size<(w.alloc (aK #[ν 0,ν 0,ν 0,ν 0] 113)).heap.size:=by simp
 go_enter aA2,aAp
 go_wp2_with (go_at_call 172;refine HF.o.mono ?_;rintro e w2 ⟨rfl,hb2⟩;have aV:=η hb2;have hx2:=(hb2.block w.heap.size hz0).trans HX.o;have c0:w2.cell? ⟨w.heap.size,0,aB⟩=aC (ν 0):=ρ hx2;have c1:w2.cell? ⟨w.heap.size,1,aB⟩=aC (ν 0):=ρ hx2;have c2:w2.cell? ⟨w.heap.size,2,aB⟩=aC (ν 0):=ρ hx2;have c3:w2.cell? ⟨w.heap.size,3,aB⟩=aC (ν 0):=ρ hx2;have fz:∀j,w2.frozen? ⟨w.heap.size,j,aB⟩=aP:=(λj=>by simp [iU,hx2]);have hz2:w.heap.size<w2.heap.size:=cR hz0 hb2.size)
 have vz:=η (aY.o.trans (aV.o.mono aY.o.size));refine bodyPost_ret (v:=bB #[bO #[ν 0,ν 0,ν 0,ν 0],ν 8]) (by simp [results,aBY,go_sem,c0,c1,c2,c3,hz2]) rfl ⟨rfl, ?_⟩;repeat (first|exact vz.o|refine Di ?_ (by simp) _|refine qj ?_ (by simp;omega) _)
theorem aKk(room:Int)(v:aN)(L:List Hr)(k:Nat)(hk:k<aA L)(tb:Nat)(w:aJ)(h:jM w tb room v L)(hl:aA L<=100000)(hu:pU L):
 aQ aM 113 #[π tb,ν L[k].i] w λe w'=>e=aU (bB #[bO #[ν L[k].s,ν L[k].m,ν L[k].a,ν L[k].n],ν 0])/\β w w':=by
 have h1:∀j (hj:j<aA L),j<k->L[j].i<L[k].i:=λj hj hjk=>uu.1 hu j k hj hk hjk
 have aY:Hid (β w (w.alloc (aK #[ν 0,ν 0,ν 0,ν 0] 113))):=η σ;have HF:=η (Rt room v L L[k].i tb _ (h.below aY.o) hl hu);have hp:=XN (by omega) h1 (λ_=>dH _);have hi:=a4M hu (by omega) h1 (λ_=>dH _);rw [iA hk] at hi;simp only [hk,decide_true,Bool.and_self] at hi;rw [hp,hi] at HF;have HT:=η (h.below aY.o);have HX:Hid ((w.alloc (aK #[ν 0,ν 0,ν 0,ν 0] 113)).heap[w.heap.size]? =aC (aK #[ν 0,ν 0,ν 0,ν 0] 113 (0,0))):=η (cT w _);have hz0:w.heap.size<(w.alloc (aK #[ν 0,ν 0,ν 0,ν 0] 113)).heap.size:=by simp
 obtain⟨A,c,hv⟩:=bJ h.own;subst hv;obtain⟨be,oe,rfl,lO,_,_,_,_,_⟩:=Jw (aW.cA h.own) hk;have hkb:(k:Int)<(aA L:Int):=by omega
 have eV:(0:Int)<=(k:Int):=by omega
 go_enter aA2,aAp
 go_wp2_with (go_at_call 172;refine HF.o.mono ?_;rintro e w2 ⟨rfl,hb2⟩;have aV:=η hb2;have hx2:=(hb2.block w.heap.size hz0).trans HX.o;have c0:w2.cell? ⟨w.heap.size,0,aB⟩=aC (ν 0):=ρ hx2;have c1:w2.cell? ⟨w.heap.size,1,aB⟩=aC (ν 0):=ρ hx2;have c2:w2.cell? ⟨w.heap.size,2,aB⟩=aC (ν 0):=ρ hx2;have c3:w2.cell? ⟨w.heap.size,3,aB⟩=aC (ν 0):=ρ hx2;have fz:∀j,w2.frozen? ⟨w.heap.size,j,aB⟩=aP:=(λj=>by simp [iU,hx2]);have hz2:w.heap.size<w2.heap.size:=cR hz0 hb2.size;have ct:=(HT.o.below hb2).c1;obtain⟨b',o',hA',aM0,_,e1,e2,e3,e4⟩:=Jw (aW.cA (HT.o.below hb2).own) hk;injection hA' with hA';injection hA' with MB VD;subst MB VD)
 have vz:=η (aY.o.trans (aV.o.mono aY.o.size));refine bodyPost_ret (v:=bB #[bO #[ν L[k].s,ν L[k].m,ν L[k].a,ν L[k].n],ν 0]) (by simp [results,aBY,go_sem,c0,c1,c2,c3]) rfl ⟨rfl, ?_⟩;repeat (first|exact vz.o|refine Di ?_ (by simp) _|refine qj ?_ (by simp;omega) _)
theorem aJ6(x:Hr)(L:List Hr):Db (x::L) x.i=0:=by unfold Db;rw [List.findIdx_cons];simp
theorem aGm(x:Hr)(L:List Hr):vX (x::L) x.i=aO:=by unfold vX;simp
def a9z(tb:Nat)(room:Int)(v:aN)(L:List Hr)(w:aJ)(w':aJ):Prop:=
 ∃v',jM w' tb room v' L/\bC (λk=>k=tb\/v.ownBlock=aC k) w w'/\∀k,v'.ownBlock=aC k->v.ownBlock=aC k\/w.heap.size<=k
theorem aKj(room:Int)(v:aN)(x:Hr)(L:List Hr)(tb:Nat)(w:aJ)(h:jM w tb room v (x::L))(hl:aA L<=99999)(hu:pU (x::L)):
 aQ aM 126 #[π tb,ν x.i] w λe w'=>e=aU (bB #[bO #[ν x.s,ν x.m,ν x.a,ν x.n],ν 0])/\a9z tb room v L w w':=by
 have HU:=η hu;have aY:Hid (β w (w.alloc (aK #[ν 0,ν 0,ν 0,ν 0] 113))):=η σ;have HT:=η (h.below aY.o);have F2:=h.lt;have O8:=η h.ne;have HG:=η (aKk room v (x::L) 0 (by simp) tb _ HT.o (by simp;omega) hu);rw [List.getElem_cons_zero] at HG;have QN:0<aA (x::L):=by simp
 obtain⟨g,cap,hv,hg0,jQ⟩:=h.own.form QN;subst hv;have HX:Hid ((w.alloc (aK #[ν 0,ν 0,ν 0,ν 0] 113)).heap[w.heap.size]? =aC (aK #[ν 0,ν 0,ν 0,ν 0] 113 (0,0))):=η (cT w _);have hz0:w.heap.size<(w.alloc (aK #[ν 0,ν 0,ν 0,ν 0] 113)).heap.size:=by simp
 have Ha:g≠tb:=λe=>O8.o (by rw [e];rfl)
 go_enter func126,ntmps126
 have Il:Hid (∀W,jM W tb room (aH (aC ⟨g,0,aB⟩) (aA (x::L)) cap) (x::L)->aQ aM 172 #[π tb,ν x.i] W λe w'=>e=aU (bB #[ν 0,bM aO])/\β W w'):=η λW hW=>by have h1:=Rt room _ (x::L) x.i tb W hW (by simp;omega) HU.o;rw [aJ6,aGm] at h1;exact h1
 have FV:Hid (∀W,jM W tb room (aH (aC ⟨g,0,aB⟩) (aA (x::L)) cap) (x::L)->aQ aM 182 #[aH (aC ⟨g,0,aB⟩) (aA L+1) cap,ν 0,ν 1] W (YO g (aA L) cap (tJ L) W)):=η λW hW=>by
  refine aEQ (aA L) g cap x.cells (tJ L) W rfl (a3q L) ?_ (by omega);have h2:=hW.own;have e:tJ (x::L)=x.cells++tJ L:=by simp [tJ]
  rw [e,uB] at h2;exact h2
 have hsx:w.heap.size≠tb:=by omega
 go_wp2_with (first|(go_at_call 113;refine HG.o.mono ?_;rintro e w2 ⟨rfl,hb2⟩;have aV:=η hb2;have qK:=η (HT.o.below hb2);have zC:=η (qK.o.below ((aX _ _).alloc (aZ _) (aK #[ν x.s,ν x.m,ν x.a,ν x.n] 113)));have HY:=η (cT w2 (aK #[ν x.s,ν x.m,ν x.a,ν x.n] 113));have af:=η (qj hb2 hb2.size (aK #[ν x.s,ν x.m,ν x.a,ν x.n] 113));have hzy:w2.heap.size<(w2.alloc (aK #[ν x.s,ν x.m,ν x.a,ν x.n] 113)).heap.size:=(by simp);have hz2:w.heap.size<w2.heap.size:=cR hz0 hb2.size)|(go_at_call 172;refine(Il.o _ zC.o).mono ?_;rintro e w4 ⟨rfl,hb4⟩;have ar:=η hb4;have rB:=η (zC.o.below hb4);have ct:=rB.o.c1)|(go_at_call 182;refine(FV.o _ rB.o).mono ?_;rintro e w5 ⟨rfl,jA,eZ⟩;have fK:=η jA;have Ab:=η eZ;have dG:=(eZ.block tb rB.o.lt (by simp;omega)).trans rB.o.blk;have a8Y:=η dG;have ct5:w5.cell? ⟨tb,1,aB⟩=aC (aH (aC ⟨g,0,aB⟩) (aA L+1) cap):=ρ dG;have cf5:w5.frozen? ⟨tb,1,aB⟩=aP:=(by simp [iU,dG]);have aMS:tb<w5.heap.size:=(fY.1 dG).1;have hy4:=(ar.o.block w2.heap.size hzy).trans HY.o;have Qe:=(eZ.block w2.heap.size (cR hzy ar.o.size) (by simp;omega)).trans hy4;have hx2:=(af.o.block w.heap.size hz0).trans HX.o;have Wd:=(ar.o.block w.heap.size (cR hz0 af.o.size)).trans hx2;have Ms:=(eZ.block w.heap.size (cR (cR hz0 af.o.size) ar.o.size) (by simp;omega)).trans Wd;have y0:w5.cell? ⟨w2.heap.size,0,aB⟩=aC (ν x.s):=ρ Qe;have y1:w5.cell? ⟨w2.heap.size,1,aB⟩=aC (ν x.m):=ρ Qe;have y2:w5.cell? ⟨w2.heap.size,2,aB⟩=aC (ν x.a):=ρ Qe;have y3:w5.cell? ⟨w2.heap.size,3,aB⟩=aC (ν x.n):=ρ Qe;have x0:w5.cell? ⟨w.heap.size,0,aB⟩=aC (ν 0):=ρ Ms;have x1:w5.cell? ⟨w.heap.size,1,aB⟩=aC (ν 0):=ρ Ms;have x2:w5.cell? ⟨w.heap.size,2,aB⟩=aC (ν 0):=ρ Ms;have x3:w5.cell? ⟨w.heap.size,3,aB⟩=aC (ν 0):=ρ Ms;have fx:∀j,w5.frozen? ⟨w.heap.size,j,aB⟩=aP:=(λj=>by simp [iU,Ms]);have ju:¬w2.heap.size=tb:=(by omega);have oF:¬w.heap.size=tb:=(by omega);have pn:¬w.heap.size=w2.heap.size:=(by omega)))
 have cE:Hid (β w w4):=η ((aY.o.trans (af.o.mono aY.o.size)).trans (ar.o.mono (cC aY.o.size af.o.size)));have TR:Hid (jM (w5.setCell ⟨tb,1,aB⟩ (aH (aC ⟨g,0,aB⟩) (aA L) cap)) tb room (aH (aC ⟨g,0,aB⟩) (aA L) cap) L):=η ⟨(om a8Y.o 1 _).trans rfl,jz fK.o (λe=>Ha (by simpa [dx] using e)) _⟩
 have HU6:Hid (bC (λk=>k=tb\/(aH (aC ⟨g,0,aB⟩) (aA L+1) cap).ownBlock=aC k) w (w5.setCell ⟨tb,1,aB⟩ (aH (aC ⟨g,0,aB⟩) (aA L) cap))):=η
  (((bC.bV _ cE.o).trans (S':=λk=>k=tb\/(aH (aC ⟨g,0,aB⟩) (aA L+1) cap).ownBlock=aC k) (bC.I4 Ab.o (λk hk=>aS (aT hk))) (λk hk=>aS hk)).setCell (p:=⟨tb,1,aB⟩) (aS (aS rfl)) _)
 have hgx:g≠w.heap.size:=by omega
 refine bodyPost_ret (v:=bB #[bO #[ν x.s,ν x.m,ν x.a,ν x.n],ν 0]) (by simp [results,results126,go_sem,x0,x1,x2,x3]) rfl ⟨rfl,aH (aC ⟨g,0,aB⟩) (aA L) cap, ?_, ?_,λk hk=>aS hk⟩
 ·refine TR.o.upd (S:=λk=>k=w.heap.size) ?_ (λe=>oF e.symm) (λk hk e=>hgx ((show g=k by simpa [dx] using hk).trans e));exact((((bC.refl (λk=>k=w.heap.size) _).setCell (p:=⟨w.heap.size,0,aB⟩) (aS rfl) _).setCell (p:=⟨w.heap.size,1,aB⟩) (aS rfl) _).setCell (p:=⟨w.heap.size,2,aB⟩) (aS rfl) _).setCell (p:=⟨w.heap.size,3,aB⟩) (aS rfl) _
 exact(((HU6.o.setCell (p:=⟨w.heap.size,0,aB⟩) (aT (aZ _)) _).setCell (p:=⟨w.heap.size,1,aB⟩) (aT (aZ _)) _).setCell (p:=⟨w.heap.size,2,aB⟩) (aT (aZ _)) _).setCell (p:=⟨w.heap.size,3,aB⟩) (aT (aZ _)) _
def Ld(vb:Nat)(p:Vp)(M A:Nat)(room:Int)(l:List Int)(h:List Hr)(w:aJ)(e:di)(w':aJ):Prop:=
 ∃tv,e=aU (ν 0)/\iB w' vb {p with tv:=tv} M A room l h/\bC (rG vb p) w w'/\∀k,tv.ownBlock=aC k->p.tv.ownBlock=aC k\/w.heap.size<=k
theorem a1d {w:aJ} {a b:Nat} {c1 c2:Array aN} {t1 t2:bX}(h1:w.heap[a]? =aC (aK c1 t1 (0,0)))(h2:w.heap[b]? =aC (aK c2 t2 (0,0)))(ht:t1≠t2):a≠b:=by rintro rfl;rw [h1] at h2;injection h2 with h2;injection h2 with _ h2;exact ht h2
theorem iB.holds {w w1:aJ} {vb:Nat} {p:Vp} {M A:Nat} {room:Int} {l:List Int} {h h':List Hr} {tv:aN}(H:iB w vb p M A room l h)(ht:jM w1 p.tb room tv h')(hu:bC (λk=>k=p.tb\/p.tv.ownBlock=aC k) w w1):iB w1 vb {p with tv:=tv} M A room l h':=by
 have n1:=a1d H.blk H.tb.blk (by decide);have n2:=a1d H.bk.blk H.tb.blk (by decide);have n3:=gM H.tb.own H.blk (by decide);have n4:=gM H.tb.own H.bk.blk (by decide);have n5:=gM H.bk.own H.tb.blk (by decide);have n6:=Bn H.bk.own H.tb.own (by decide);refine⟨(hu.keep vb H.lt (λe=>e.elim n1 n3)).trans H.blk,H.bk.upd hu (λe=>e.elim n2 n4) (λk hk e=>e.elim (λe=>n5 (e▸hk)) (λe=> ?_)),ht⟩;rcases n6 with n6|n6
 ·rw [hk] at n6;cases n6
 exact n6 (hk.trans e.symm)
theorem rG.a5R {vb:Nat} {p:Vp} {k:Nat}(h:k=p.tb\/p.tv.ownBlock=aC k):rG vb p k:=h.elim (λe=>aT (aT (aT (aS e)))) (λe=>aT (aT (aT (aT e))))
theorem aL1(vb:Nat)(p:Vp)(M A:Nat)(room:Int)(l:List Int)(h:List Hr)(x:Hr)(w:aJ)(H:iB w vb p M A room l h)(vM:∀y∈l,aL y)(hl:aA h<=99999)(hu:pU h)(hp:Db h x.i=aA h)(hi:vX h x.i=aP)(hr:(aA h:Int)<room/\room<=1000000000)
 (hk:aL x.s) (hm:aL x.m) (hf:uK x.s=aP) (lf:0<=x.n) (hpl:plcA M A x.s x.m x.a≠aB) (hI:aL (balA M A l x.s x.m x.a-iG h x.s x.m x.a)) (hn:x.n<=balA M A l x.s x.m x.a-iG h x.s x.m x.a):
 aQ aM 57 #[π vb,ν x.i,bO #[ν x.s,ν x.m,ν x.a,ν x.n]] w (Ld vb p M A room l (h++ [x]) w):=by
 obtain⟨xi,xs,xm,xa,xn⟩:=x;simp only at hp hi hk hm hf lf hpl hI hn;have aY:Hid (β w (w.alloc (aK #[ν xs,ν xm,ν xa,ν xn] 113))):=η σ;have HV:=η (H.below aY.o);have HX:Hid ((w.alloc (aK #[ν xs,ν xm,ν xa,ν xn] 113)).heap[w.heap.size]? =aC (aK #[ν xs,ν xm,ν xa,ν xn] 113 (0,0))):=η (cT w _);have hz0:w.heap.size<(w.alloc (aK #[ν xs,ν xm,ν xa,ν xn] 113)).heap.size:=by simp
 have WY:=H.lt;have TU:Hid (∀W,aa (w.alloc (aK #[ν xs,ν xm,ν xa,ν xn] 113)).heap.size (w.alloc (aK #[ν xs,ν xm,ν xa,ν xn] 113)) W->aQ aM 111 #[π vb,bO #[ν xs,ν xm],ν xa] W λe w'=>e=aU (bB #[ν (balA M A l xs xm xa-iG h xs xm xa),ν 0])/\β W w'):=η λW hW=>by have h1:=a7m vb p M A room l h xs xm xa W (HV.o.below hW) hk hm vM (by omega);rw [ifN hpl,ifN hpl,(dy hI).1,(dy hI).2] at h1;exact h1
 have Im:Hid (∀W,aa (w.alloc (aK #[ν xs,ν xm,ν xa,ν xn] 113)).heap.size (w.alloc (aK #[ν xs,ν xm,ν xa,ν xn] 113)) W->aQ aM 113 #[π p.tb,ν xi] W λe w'=>e=aU (bB #[bO #[ν 0,ν 0,ν 0,ν 0],ν 8])/\β W w'):=η λW hW=>aKl room p.tv h xi p.tb W (HV.o.below hW).tb (by omega) hu hi
 have Dx:Hid (∀W,aa (w.alloc (aK #[ν xs,ν xm,ν xa,ν xn] 113)).heap.size (w.alloc (aK #[ν xs,ν xm,ν xa,ν xn] 113)) W->aQ aM 114 #[π p.tb] W λe w'=>e=aU (ν (room-(aA h:Int)))/\β W w'):=η λW hW=>aKo room p.tv h p.tb W (HV.o.below hW).tb (by omega) (by omega)
 have HPU:Hid (∀W,aa (w.alloc (aK #[ν xs,ν xm,ν xa,ν xn] 113)).heap.size (w.alloc (aK #[ν xs,ν xm,ν xa,ν xn] 113)) W->aQ aM 115 #[π p.tb,ν xi,bO #[ν xs,ν xm,ν xa,ν xn]] W (a0A p.tb room p.tv (h++ [⟨xi,xs,xm,xa,xn⟩]) W)):=η λW hW=>aKs room p.tv h ⟨xi,xs,xm,xa,xn⟩ p.tb W (HV.o.below hW).tb hl hu hp hi hr.1
 have wE:Hid (∀W,aQ aM 112 #[bO #[ν xs,ν xm]] W λe w'=>e=aU (bM aP)/\β W w'):=η λW=>by rw [<-hf];exact PK xs xm W
 have hrm:(room-(aA h:Int)==0)=aP:=by simp;omega
 generalize hFR:balA M A l xs xm xa-iG h xs xm xa=fr at*;clear hFR H vM hu hp hi hk hm hf hpl hI;go_enter func57,ntmps57
 go_upto_region 3 with fail
 generalize (w.alloc (aK #[ν xs,ν xm,ν xa,ν xn] 113))=w1 at*;obtain⟨bx,bQ⟩:∃bx,bx=w.heap.size:=⟨_,rfl⟩;rw [<-bQ] at HX hz0 ⊢;have hvx:vb<bx:=by omega
 clear bQ;have j5:Hid (∀W,β w1 W->W.cell? ⟨bx,0,aB⟩=aC (ν xs)/\W.cell? ⟨bx,1,aB⟩=aC (ν xm)/\W.cell? ⟨bx,2,aB⟩=aC (ν xa)/\W.cell? ⟨bx,3,aB⟩=aC (ν xn)/\W.cell? ⟨vb,1,aB⟩=aC (π p.tb)):=η λW hW=>⟨((ez hW).1 _ _ hz0).trans (ρ HX.o),((ez hW).1 _ _ hz0).trans (ρ HX.o),((ez hW).1 _ _ hz0).trans (ρ HX.o),((ez hW).1 _ _ hz0).trans (ρ HX.o),(HV.o.below hW).c1⟩
 obtain⟨x0,x1,x2,x3,x4⟩:=j5.o _ (aX _ _);have hlv:vb<w1.heap.size:=by omega
 go_wp2_with (first|(go_at_call 112;refine(wE.o _).mono ?_;rintro e w2 ⟨rfl,hb2⟩;have qF:Hid (β w1 w2):=η hb2;clear x0 x1 x2 x3 x4 hb2;obtain⟨x0,x1,x2,x3,x4⟩:=j5.o _ qF.o)|(go_at_call 111;refine(TU.o _ qF.o).mono ?_;rintro e w3 ⟨rfl,hb3⟩;have iZ:Hid (β w1 w3):=τ qF hb3;clear x0 x1 x2 x3 x4 hb3;obtain⟨x0,x1,x2,x3,x4⟩:=j5.o _ iZ.o;have aMG:vb<w3.heap.size:=cR hlv iZ.o.size)|(go_at_call 113;refine(Im.o _ iZ.o).mono ?_;rintro e w4 ⟨rfl,hb4⟩;have gZ:Hid (β w1 w4):=τ iZ hb4;have qz:Hid (β w1 (w4.alloc (aK #[ν 0,ν 0,ν 0,ν 0] 113))):=η (gZ.o.alloc gZ.o.size _);clear x0 x1 x2 x3 x4 hb4;obtain⟨x0,x1,x2,x3,x4⟩:=j5.o _ gZ.o;have aMH:vb<w4.heap.size:=cR hlv gZ.o.size)|(go_at_call 114;refine(Dx.o _ qz.o).mono ?_;rintro e w6 ⟨rfl,iL⟩;have wH:Hid (β w1 w6):=τ qz iL;clear x0 x1 x2 x3 x4 iL;obtain⟨x0,x1,x2,x3,x4⟩:=j5.o _ wH.o;have aMI:vb<w6.heap.size:=cR hlv wH.o.size))
 go_still_tail 6,(by kernel_rfl)
 change wpList _ _ _ _ _ w6.drew;have E2:Hid (β w1 w6.drew):=η wH.o.drew;generalize w6.drew=w7 at*;clear x0 x1 x2 x3 x4;obtain⟨x0,x1,x2,x3,x4⟩:=j5.o _ E2.o;go_wp2_with (go_at_call 115;refine(HPU.o _ E2.o).mono ?_;rintro e w8 ⟨tv,rfl,ht8,hu8,BZ⟩;have HT8:=η ht8;have ZV:=η hu8;have B1:=η BZ;clear ht8 hu8 BZ)
 go_ret;have eH:β w w7:=aY.o.trans (E2.o.mono aY.o.size);exact⟨tv,rfl,(HV.o.below E2.o).holds HT8.o ZV.o,(bC.bV (rG vb p) eH).trans ZV.o (λk hk=>aS (rG.a5R hk)),λk hk=>(B1.o k hk).imp id (λe=>cC eH.size e)⟩
theorem aL4(vb:Nat)(p:Vp)(M A:Nat)(room:Int)(l:List Int)(x:Hr)(h:List Hr)(w:aJ)(H:iB w vb p M A room l (x::h))(hl:aA h<=99999)(hu:pU (x::h)):
 aQ aM 64 #[π vb,ν x.i] w (Ld vb p M A room l h w):=by
 have HV:=η H;have c1:=H.c1;have HD:=η (aKj room p.tv x h p.tb w H.tb hl hu);go_enter func64,ntmps64
 go_wp2_with (go_at_call 126;refine HD.o.mono ?_;rintro e w2 ⟨rfl,tv,ht2,vS,hs2⟩;have qK:=η ht2;have B4:=η vS;have cP:=η hs2)
 go_ret;exact⟨tv,rfl,((HV.o.holds qK B4).below σ),(((bC.refl (rG vb p) w).trans B4 (λk hk=>aS (rG.a5R hk))).alloc _),cP⟩
theorem aKy(vb:Nat)(p:Vp)(M A:Nat)(room:Int)(l:List Int)(h:List Hr)(w:aJ)(H:iB w vb p M A room l h)(hl:aA h<=100000):
 aQ aM 63 #[π vb] w (nC 2 1 (aA h) ((h.map (·.i)).map (aG aF)) w):=by
 have c1:=H.c1;have LD:=η (a7e room p.tv h p.tb w H.tb hl);clear H;go_enter func63,ntmps63
 go_wp2_with (go_at_call 125;refine LD.o.mono ?_)
 rintro e w2 ⟨v2,rfl,fN,hb2⟩;have HO:=η fN;have HB:Hid (β w w2):=η hb2;obtain⟨Ar,cr,hv⟩:=bJ fN;subst hv;obtain⟨ids,Vk⟩:∃ids:List aN,ids=(h.map (·.i)).map (aG aF):=⟨_,rfl⟩;have Yy:=η Vk;have td:Hid (aA ids=aA h):=η (by rw [Vk,iK,iK]);have ly:Hid (w2.ownsRow w2.heap.size 2 1 (aH aB 0 0) 0 (ids.take 0)):=η (by rw [nJ];exact gC _ _ _ _);have sF:Hid (β w2 w2):=η (aX _ _);obtain⟨i0,bj,hz0',fh,xK⟩:=dK Mz;clear fN hb2 LD c1 Vk;go_wp2_with fail
 go_loopw [3,5,14] (λv _ i wr=>∃j:Nat,j<=aA h/\i=ν (j:Int)/\Hid (β w2 wr)/\Hid (wr.ownsRow w2.heap.size 2 1 v j (ids.take j))) (λ_ _ i _=>aA h-(ag i).toNat)
 case atStart=>exact⟨0,bL _,rfl,sF,ly⟩
 case round=>
  clear sF ly;obtain⟨j,hj,rfl,HR,HOW⟩:=hrel;obtain⟨Ax,cx,oz⟩:=bJ HOW.o;subst oz;by_cases hlt:j<aA h
  ·obtain⟨be,oe,rfl,lO,e0,e1,e2,e3,e4⟩:=Jw (((aW.cA HO.o).below HR.o).mono HR.o.size) hlt;have lM:Hid (ids.take (j+1)=ids.take j++ [ν h[j].i]):=η (by rw [fF (by rw [td.o];exact hlt)];simp [Yy.o]);have zk:(0:Int)<=(j:Int):=by omega
   have hjb:(j:Int)<(aA h:Int):=by omega
   generalize h[j]=r at*;obtain⟨ri,rs,rm,ra,rn⟩:=r;simp only at e0 e1 e2 e3 e4 lM;have af:Hid (β w2 ((wr.alloc (aK #[ν ri,ν rs,ν rm,ν ra,ν rn] 188)).alloc (aK #[ν ri] 2))):=η ((HR.o.alloc HR.o.size _).alloc (by have:=HR.o.size;simp;omega) _);have cB:=η ((HOW.o.alloc (aK #[ν ri,ν rs,ν rm,ν ra,ν rn] 188)).alloc (aK #[ν ri] 2));have hzz:w2.heap.size<=wr.heap.size:=HR.o.size;go_wp2_with (at_builtin;refine wpList_append_lies _ rfl _ _ 53 rfl w2.heap.size 2 i0 _ 1 8 mD bj hz0' fh xK rfl (by decide) _ j _ rfl cB.o ⟨wr.heap.size+1,0,aB⟩ 1 1 [ν ri] rfl rfl (dM _ _ #[_] (by simp)) xQ (by omega) (by simp only [bK];omega) (by omega) (by simp;omega) (wr.heap.size+1+1) (by simp) ?_)
   intro g4 Lp w4 pB iH _ _;have ar:Hid (β w2 w4):=η (af.o.grown iH (by simp;omega) (λk hk=>ei cB.o k hk));have dU:Hid (w4.ownsRow w2.heap.size 2 1 (aH (aC ⟨g4,0,aB⟩) (j+1) Lp) (j+1) (ids.take (j+1))):=η (by rw [lM.o];exact pB);clear pB iH af cB HOW HR;go_wp2_with fail
   go_roundw
   case rel=>exact⟨j+1,by omega,by go_num,ar,dU⟩
   case measure=>simp [ag];omega
  obtain rfl:j=aA h:=by omega
  have fK:Hid (wr.ownsRow w.heap.size 2 1 (aH Ax (aA h) cx) (aA h) ((h.map (·.i)).map (aG aF))):=η (by have h2:=HOW.o;rw [List.take_of_length_le (by rw [td.o];exact aZ _),Yy.o] at h2;exact jT h2 HB.o.size);go_wp2_with fail
  go_ret;exact⟨_,rfl,fK.o,HB.o.trans (HR.o.mono HB.o.size)⟩
theorem aL0(M A r:Nat)(hM:M<=16)(MB:1<=A)(hA:A<=9)(w:aJ):
 aQ aM 31 #[ν (M:Int),ν (A:Int),ν (r:Int)] w λe w'=>∃nb p,e=aU (bB #[π nb,ν 0])/\iB w' nb p M A (r:Int) (gN (A*(6+3*M)) 0) []/\(∀k,rG nb p k->w.heap.size<=k)/\β w w':=by
 have bP:=η (aCh M A hM MB hA w);have th:=η (λW=>aKp (r:Int) W (by omega));go_enter func31,ntmps31
 go_wp2_with (first|(go_at_call 80;refine(th.o _).mono ?_;rintro e w3 ⟨nt,tv,rfl,hk3,pn,hv3,hb3⟩;have oO:=η hk3;have iZ:Hid (w2.heap.size<=nt/\∀k,tv.ownBlock=aC k->w2.heap.size<=k):=η ⟨pn,hv3⟩;have af:=η hb3)|(go_at_call 79;refine bP.o.mono ?_;rintro e w2 ⟨nb,nv,rfl,hk2,oF,hv2,hb2⟩;have lT:=η hk2;have qF:Hid (w.heap.size<=nb/\∀k,nv.ownBlock=aC k->w.heap.size<=k):=η ⟨oF,hv2⟩;have aV:=η hb2))
 go_ret2;have eH:=aV.o.trans (af.o.mono aV.o.size);refine⟨w3.heap.size,⟨nb,nv,0,nt,tv⟩,rfl,⟨cT w3 _,(lT.o.below af.o).below σ,oO.o.below σ⟩, ?_,eH.alloc eH.size _⟩;rintro k (e|e|e|e|e)
 ·rw [e];exact eH.size
 ·rw [e];exact qF.o.1
 ·exact qF.o.2 k e
 ·rw [e];exact cC aV.o.size iZ.o.1
 exact cC aV.o.size (iZ.o.2 k e)
def bZ(n least most:Int):Bool:=decide (least<=n)&&decide (n<=most)
theorem yf(n a b:Int)(w:aJ):aQ aM 240 #[aG aF n,aG aF a,aG aF b] w λe w'=>e=aU (bM (bZ n a b))/\w=w':=by
 have HB:=η (show bZ n a b=(decide (a<=n)&&decide (n<=b)) from rfl);by_cases h1:a<=n
 ·by_cases h2:n<=b
  ·go_enter a0N,a0g
   go_wp2
   go_ret;exact⟨fP (by rw [HB.o];simp [h1,h2]),rfl⟩
  go_enter a0N,a0g
  go_wp2
  go_ret;exact⟨fP (by rw [HB.o,decide_eq_false (show¬n<=b by omega)];simp),rfl⟩
 go_enter a0N,a0g
 go_wp2
 go_ret;exact⟨fP (by rw [HB.o,decide_eq_false (show¬a<=n by omega)];simp),rfl⟩
theorem Hz(n a b:Int)(w:aJ):aQ aM 243 #[aG aF n,aG aF a,aG aF b] w λe w'=>e=aU (bM (bZ n a b))/\w=w':=by
 have HB:=η (show bZ n a b=(decide (a<=n)&&decide (n<=b)) from rfl);by_cases h1:a<=n
 ·by_cases h2:n<=b
  ·go_enter a0O,a0h
   go_wp2
   go_ret;exact⟨fP (by rw [HB.o];simp [h1,h2]),rfl⟩
  go_enter a0O,a0h
  go_wp2
  go_ret;exact⟨fP (by rw [HB.o,decide_eq_false (show¬n<=b by omega)];simp),rfl⟩
 go_enter a0O,a0h
 go_wp2
 go_ret;exact⟨fP (by rw [HB.o,decide_eq_false (show¬a<=n by omega)];simp),rfl⟩
def uT(x:Pr):Bool:=bZ x.a 0 1099511627776&&bZ x.b 0 1099511627776
def uW(x:Pr):Bool:=bZ x.a 1 1048576&&bZ x.b x.a 1048576
def kP(l:List Pr):Bool:=l.all uT&&bZ (aA l) 2 16
def l7(l:List Pr):Bool:=l.all uW&&bZ (aA l) 1 8
theorem P9 {α:Type}(p:α->Bool) {l:List α} {k:Nat}(hk:k<aA l):(l.take (k+1)).all p=((l.take k).all p&&p l[k]):=by rw [fF hk,List.all_append];simp
theorem aHU(l:List Pr)(A:Option ai)(c:Nat)(w:aJ)(hs:aW w w.heap.size A (jU l))(hl:aA l<=1000000):
 aQ aM 234 #[aH A (aA l) c] w λe w'=>e=aU (bM (kP l))/\β w w':=by
 have HS:=η hs;have HA:=η (show kP l=(l.all uT&&bZ (aA l) 2 16) from rfl);go_enter func234,ntmps234
 go_wp2_with fail
 go_loopw [4,7] (λ_ i wr=>∃k:Nat,k<=aA l/\i=ν k/\Hid ((l.take k).all uT=aO)/\Hid (β w wr)) (λ_ i _=>aA l-(ag i).toNat)
 case atStart=>exact⟨0,bL _,rfl,rfl,aX _ _⟩
 case round=>
  obtain⟨k,hk,rfl,HK,HB⟩:=hrel;have hsz:=HB.o.size;by_cases hlt:k<aA l
  ·obtain⟨b,o,rfl,hb,d0,d1⟩:=FB (HS.o.below HB.o) hlt;have cG:=η (P9 uT hlt);have HP:=η (show uT l[k]=(bZ l[k].a 0 1099511627776&&bZ l[k].b 0 1099511627776) from rfl);cases h1:bZ l[k].a 0 1099511627776
   ·have HF:Hid (aP=kP l):=by
     show _=_;rw [HA.o,show l.all uT=aP from JE.2 ⟨l[k],cK hlt,by rw [HP.o,h1];simp⟩];rfl
    go_wp2_with fail
    refine(yf _ _ _ _).mono ?_;rintro e w1 ⟨rfl,rfl⟩;rw [h1];go_wp2_with fail
    go_ret;exact⟨fP HF.o,HB.o.alloc hsz _⟩
   cases h2:bZ l[k].b 0 1099511627776
   ·have HF:Hid (aP=kP l):=by
     show _=_;rw [HA.o,show l.all uT=aP from JE.2 ⟨l[k],cK hlt,by rw [HP.o,h1,h2];simp⟩];rfl
    go_wp2_with fail
    refine(yf _ _ _ _).mono ?_;rintro e w1 ⟨rfl,rfl⟩;rw [h1];go_wp2_with fail
    refine(yf _ _ _ _).mono ?_;rintro e w1 ⟨rfl,rfl⟩;rw [h2];go_wp2_with fail
    go_ret;exact⟨fP HF.o,HB.o.alloc hsz _⟩
   have HX:Hid ((l.take (k+1)).all uT=aO):=by show _=_;rw [cG.o,HK.o,HP.o,h1,h2];rfl
   go_wp2_with fail
   refine(yf _ _ _ _).mono ?_;rintro e w1 ⟨rfl,rfl⟩;rw [h1];go_wp2_with fail
   refine(yf _ _ _ _).mono ?_;rintro e w1 ⟨rfl,rfl⟩;rw [h2];go_wp2_with fail
   go_roundw
   case rel=>exact⟨k+1,by omega,by go_num,HX,HB.o.alloc hsz _⟩
   case measure=>simp [ag];omega
  obtain rfl:k=aA l:=by omega
  have hK:=HK.o;rw [cU] at hK;have HF:Hid (bZ (aA l) 2 16=kP l):=by show _=_;rw [HA.o,hK];rfl
  go_wp2_with fail
  refine(Hz _ _ _ _).mono ?_;rintro e w1 ⟨rfl,rfl⟩;go_wp2_with fail
  go_ret;exact⟨fP HF.o,HB.o⟩
theorem aJp(l:List Pr)(A:Option ai)(c:Nat)(w:aJ)(hs:aW w w.heap.size A (jU l))(hl:aA l<=1000000):
 aQ aM 236 #[aH A (aA l) c] w λe w'=>e=aU (bM (l7 l))/\β w w':=by
 have HS:=η hs;have HA:=η (show l7 l=(l.all uW&&bZ (aA l) 1 8) from rfl);go_enter func236,ntmps236
 go_wp2_with fail
 go_loopw [4,7] (λ_ i wr=>∃k:Nat,k<=aA l/\i=ν k/\Hid ((l.take k).all uW=aO)/\Hid (β w wr)) (λ_ i _=>aA l-(ag i).toNat)
 case atStart=>exact⟨0,bL _,rfl,rfl,aX _ _⟩
 case round=>
  obtain⟨k,hk,rfl,HK,HB⟩:=hrel;have hsz:=HB.o.size;by_cases hlt:k<aA l
  ·obtain⟨b,o,rfl,hb,d0,d1⟩:=FB (HS.o.below HB.o) hlt;have cG:=η (P9 uW hlt);have HP:=η (show uW l[k]=(bZ l[k].a 1 1048576&&bZ l[k].b l[k].a 1048576) from rfl);cases h1:bZ l[k].a 1 1048576
   ·have HF:Hid (aP=l7 l):=by
     show _=_;rw [HA.o,show l.all uW=aP from JE.2 ⟨l[k],cK hlt,by rw [HP.o,h1];simp⟩];rfl
    go_wp2_with fail
    refine(yf _ _ _ _).mono ?_;rintro e w1 ⟨rfl,rfl⟩;rw [h1];go_wp2_with fail
    go_ret;exact⟨fP HF.o,HB.o.alloc hsz _⟩
   cases h2:bZ l[k].b l[k].a 1048576
   ·have HF:Hid (aP=l7 l):=by
     show _=_;rw [HA.o,show l.all uW=aP from JE.2 ⟨l[k],cK hlt,by rw [HP.o,h1,h2];simp⟩];rfl
    go_wp2_with fail
    refine(yf _ _ _ _).mono ?_;rintro e w1 ⟨rfl,rfl⟩;rw [h1];go_wp2_with fail
    refine(yf _ _ _ _).mono ?_;rintro e w1 ⟨rfl,rfl⟩;rw [h2];go_wp2_with fail
    go_ret;exact⟨fP HF.o,HB.o.alloc hsz _⟩
   have HX:Hid ((l.take (k+1)).all uW=aO):=by show _=_;rw [cG.o,HK.o,HP.o,h1,h2];rfl
   go_wp2_with fail
   refine(yf _ _ _ _).mono ?_;rintro e w1 ⟨rfl,rfl⟩;rw [h1];go_wp2_with fail
   refine(yf _ _ _ _).mono ?_;rintro e w1 ⟨rfl,rfl⟩;rw [h2];go_wp2_with fail
   go_roundw
   case rel=>exact⟨k+1,by omega,by go_num,HX,HB.o.alloc hsz _⟩
   case measure=>simp [ag];omega
  obtain rfl:k=aA l:=by omega
  have hK:=HK.o;rw [cU] at hK;have HF:Hid (bZ (aA l) 1 8=l7 l):=by show _=_;rw [HA.o,hK];rfl
  go_wp2_with fail
  refine(Hz _ _ _ _).mono ?_;rintro e w1 ⟨rfl,rfl⟩;go_wp2_with fail
  go_ret;exact⟨fP HF.o,HB.o⟩
def iD(l:List Cy):List Int:=l.flatMap λx=> [x.a,x.b,x.c,x.d]
theorem a7a {l:List Cy} {k:Nat}(hk:k<aA l):iD (l.take (k+1))=iD (l.take k)++ [l[k].a,l[k].b,l[k].c,l[k].d]:=by unfold iD;rw [fF hk,List.flatMap_append];simp
theorem a7Z(l:List Cy):aA (iD l)=4*aA l:=by
 induction l with
 |nil=>rfl
 |cons a l ih=>unfold iD at*;rw [wP,cL,ih];simp;omega
theorem aKm(x:ak)(w:aJ)(h:lS w x)(hl:aA x.cy<=100000):
 aQ aM 263 #[x.val] w (YX w (iD x.cy)):=by
 have dP:=η (h.below (mE w x));have aY:=η (mE w x);have c2:=(zS w x).c2;obtain⟨i0,bj,hz0,fh,hz2⟩:=dK Qp;unfold ak.val;clear h;obtain⟨ms,Am,cm,ss,As,cs,cy,Ac,cc,line,bu,lead,tr,bY⟩:=x;obtain⟨_,_,hc⟩:=dP.o;have HC:=η hc;clear hc dP;simp only at*;go_enter func263,ntmps263
 go_wp2_with fail
 generalize w.alloc (aK #[aH Am (aA ms) cm,aH As (aA ss) cs,aH Ac (aA cy) cc,ν line,ν bu,ν lead,ν tr,ν bY] 26)=W0 at*;go_loopw [3,5,9] (λu _ i wr=>∃k:Nat,k<=aA cy/\i=ν k/\Hid (wr.ownsRow W0.heap.size 3 1 u (aA (iD (cy.take k))) ((iD (cy.take k)).map (aG aF)))/\Hid (β W0 wr)) (λ_ _ i _=>aA cy-(ag i).toNat)
 case atStart=>exact⟨0,bL _,rfl,⟨by simp [iD],aS ⟨rfl,rfl⟩⟩,aX _ _⟩
 case round=>
  obtain⟨k,hk,rfl,HO,HB⟩:=hrel;have hsz:=HB.o.size;have F2:=a7Z (cy.take k);have Ba:aA (iD (cy.take k))<=400000:=by rw [F2,ur];omega
  clear F2;by_cases hlt:k<aA cy
  ·obtain⟨b,o,rfl,hb,d0,d1,d2,d3⟩:=a1t (HC.o.below HB.o) hlt;have jH:=η (a7a hlt);generalize iD (cy.take k)=ys at*;go_wp2_with (at_builtin;refine iw _ rfl _ _ 46 rfl W0.heap.size 3 i0 _ 1 8 yD bj hz0 fh hz2 rfl (by decide) _ (aA ys) (ys.map (aG aF)) rfl ((HO.o.alloc _).alloc _) ⟨wr.heap.size+1,0,aB⟩ 4 4 [ν cy[k].a,ν cy[k].b,ν cy[k].c,ν cy[k].d] rfl rfl (dM _ _ #[_,_,_,_] (by simp)) a2m (by simp only [bK];omega) (by omega) (by simp;omega) ?_)
   intro v' w4 hown1 dE _;have dU:Hid (w4.ownsRow W0.heap.size 3 1 v' (aA (iD (cy.take (k+1)))) ((iD (cy.take (k+1))).map (aG aF))):=by show jn _ _ _ _ _ _ _;rw [jH.o,dY,cL];exact hown1
   have pP:Hid (β W0 w4):=((HB.o.alloc hsz _).alloc (by simp;omega) _).grown dE (by simp;omega) (λj hj=>ei HO.o j hj);clear hown1 dE;go_wp2_with fail
   go_roundw
   case rel=>exact⟨k+1,by omega,by go_num,dU,pP⟩
   case measure=>simp [ag];omega
  obtain rfl:k=aA cy:=by omega
  have hO:=HO.o;rw [cU] at hO;obtain⟨A2,c2',rfl⟩:=bJ hO;have cP:=η (aW.cA hO);clear hO;go_wp2_with fail
  go_ret;exact⟨A2,c2',rfl,cP.o,aY.o.trans (HB.o.mono aY.o.size)⟩
def risesB:Int->List Int->Bool
 |_,[]=>aO
 |p,t::r=>decide (p<t)&&risesB t r
def jR:Int->List Int->Int
 |p,[]=>p
 |_,t::r=>jR t r
theorem a6N(t:Int):∀(l:List Int) (p:Int),risesB p (l++ [t])=(risesB p l&&decide (jR p l<t))
 | [],p=>by show (decide (p<t)&&aO)=(aO&&decide (p<t));rw [Bool.and_true,Bool.true_and]
 |a::l,p=>by rw [List.cons_append];unfold risesB jR;rw [a6N t l a,Bool.and_assoc]
theorem a4e(t:Int):∀(l:List Int) (p:Int),jR p (l++ [t])=t
 | [],_=>rfl
 |a::l,_=>by rw [List.cons_append];unfold jR;exact a4e t l a
theorem a6M:∀(l r:List Int) (p:Int),risesB p l=aP->risesB p (l++r)=aP
 | [],_,_,h=>by simp [risesB] at h
 |a::l,r,p,h=>by
  rw [List.cons_append];unfold risesB at*;rcases Bool.and_eq_false_iff.1 h with h1|h1
  ·rw [h1];rfl
  rw [a6M l r a h1,IV]
def lN(l:List Cy):Bool:=risesB 0 (iD l)&&(bZ (aA l) 1 4&&decide (jR 0 (iD l)<=1000))
theorem aE7(x:ak)(w:aJ)(h:lS w x)(hl:aA x.cy<=100000):
 aQ aM 238 #[x.val] w λe w'=>e=aU (bM (lN x.cy))/\β w w':=by
 have HT:=η (aKm x _ (h.below (mE w x)) hl);have aY:=η (mE w x);have HX:=η (zS w x);have HA:=η (show lN x.cy=(risesB 0 (iD x.cy)&&(bZ (aA x.cy) 1 4&&decide (jR 0 (iD x.cy)<=1000))) from rfl);have F2:aA (iD x.cy)<=400000:=by rw [a7Z];omega
 have hb0:=(mE w x).size;obtain⟨c0,c1,c2,c3,c4,c5,c6,c7,kM⟩:=HX.o;unfold ak.val at*;generalize hcv:lN x.cy=cv at*;go_enter func238,ntmps238
 go_wp2_with fail
 generalize w.alloc (aK #[aH x.Am (aA x.ms) x.cm,aH x.As (aA x.ss) x.cs,aH x.Ac (aA x.cy) x.cc,ν x.line,ν x.bu,ν x.lead,ν x.tr,ν x.bY] 26)=W0 at*;refine HT.o.mono ?_;rintro e w1 ⟨A1,k1,rfl,hs1,hb1⟩;generalize iD x.cy=zs at*;have cW:=η hs1;have aR:=η hb1;have qL:=η (HX.o.below hb1);have d2:=(HX.o.below hb1).c2;go_wp2_with fail
 go_loop [3,5,9] (λp _ i=>∃k:Nat,k<=aA zs/\i=ν k/\p=ν (jR 0 (zs.take k))/\Hid (risesB 0 (zs.take k)=aO)) (λ_ _ i=>aA zs-(ag i).toNat)
 case atStart=>exact⟨0,bL _,rfl,rfl,rfl⟩
 case round=>
  obtain⟨k,hk,rfl,rfl,HK⟩:=hrel;by_cases hlt:k<aA zs
  ·obtain⟨b,o,rfl,hb,e0⟩:=tK cW.o hlt;have HR:=η (a6N zs[k] (zs.take k) 0);have HL:=η (a4e zs[k] (zs.take k) 0);have lM:=η (fF hlt);by_cases hp:zs[k]<=jR 0 (zs.take k)
   ·have HF:Hid (aP=cv):=by
     show _=_;have h1:risesB 0 (zs.take (k+1))=aP:=by rw [lM.o,HR.o,decide_eq_false (by omega),IV]
     have h2:risesB 0 zs=aP:=by have:=a6M (zs.take (k+1)) (zs.drop (k+1)) 0 h1;rw [List.take_append_drop] at this;exact this
     rw [HA.o,h2];rfl
    go_wp2_with fail
    go_ret;exact⟨fP HF.o,aY.o.trans (aR.o.mono hb0)⟩
   have kJ:Hid (risesB 0 (zs.take (k+1))=aO):=by show _=_;rw [lM.o,HR.o,HK.o,decide_eq_true (by omega)];rfl
   have nu:Hid (jR 0 (zs.take (k+1))=zs[k]):=by show _=_;rw [lM.o,HL.o]
   go_wp2_with fail
   go_round
   case rel=>exact⟨k+1,by omega,by go_num,by rw [nu.o],kJ⟩
   case measure=>simp [ag];omega
  obtain rfl:k=aA zs:=by omega
  have hK:=HK.o;rw [cU] at hK ⊢;have HF:Hid (cv=(bZ (aA x.cy) 1 4&&decide (jR 0 zs<=1000))):=by show _=_;rw [HA.o,hK];rfl
  cases hi:bZ (aA x.cy) 1 4
  ·go_wp2_with fail
   refine(Hz _ _ _ _).mono ?_;rintro e w2 ⟨rfl,rfl⟩;rw [hi];go_wp2_with fail
   go_ret;exact⟨fP (by rw [HF.o,hi];rfl),aY.o.trans (aR.o.mono hb0)⟩
  generalize jR 0 zs=la at*;go_wp2_with fail
  refine(Hz _ _ _ _).mono ?_;rintro e w2 ⟨rfl,rfl⟩;rw [hi];go_wp2_with fail
  go_ret;exact⟨fP (by rw [HF.o,hi];simp),aY.o.trans (aR.o.mono hb0)⟩
theorem aCy(x:ak)(bx:Nat)(w:aJ)(h:pL w bx x)(hk:lS w x)(hl:aA x.ms<=100000):
 aQ aM 233 #[π bx] w λe w'=>e=aU (bM (!kP x.ms))/\β w w':=by
 obtain⟨c0,c1,c2,c3,c4,c5,c6,c7,kM⟩:=h;have HC:=η (aHU x.ms x.Am x.cm w hk.m (by omega));generalize kP x.ms=bv at*;go_enter func233,ntmps233
 go_wp2_with fail
 refine HC.o.mono ?_;rintro e w1 ⟨rfl,hb1⟩;have aR:=η hb1;go_wp2_with fail
 go_ret;exact⟨rfl,aR.o⟩
theorem aCz(x:ak)(bx:Nat)(w:aJ)(h:pL w bx x)(hk:lS w x)(hl:aA x.ss<=100000):
 aQ aM 235 #[π bx] w λe w'=>e=aU (bM (!l7 x.ss))/\β w w':=by
 obtain⟨c0,c1,c2,c3,c4,c5,c6,c7,kM⟩:=h;have HC:=η (aJp x.ss x.As x.cs w hk.s (by omega));generalize l7 x.ss=bv at*;go_enter func235,ntmps235
 go_wp2_with fail
 refine HC.o.mono ?_;rintro e w1 ⟨rfl,hb1⟩;have aR:=η hb1;go_wp2_with fail
 go_ret;exact⟨rfl,aR.o⟩
theorem aD0(x:ak)(bx:Nat)(w:aJ)(h:pL w bx x)(hk:lS w x)(hl:aA x.cy<=100000):
 aQ aM 237 #[π bx] w λe w'=>e=aU (bM (!lN x.cy))/\β w w':=by
 obtain⟨c0,c1,c2,c3,c4,c5,c6,c7,kM⟩:=h;have HC:=η (aE7 x w hk hl);generalize lN x.cy=bv at*;go_enter func237,ntmps237
 go_wp2_with fail
 refine HC.o.mono ?_;rintro e w1 ⟨rfl,hb1⟩;have aR:=η hb1;go_wp2_with fail
 go_ret;exact⟨rfl,aR.o⟩
theorem aD1(x:ak)(bx:Nat)(w:aJ)(h:pL w bx x):
 aQ aM 239 #[π bx] w λe w'=>e=aU (bM (!bZ x.line 0 1099511627776))/\β w w':=by
 obtain⟨c0,c1,c2,c3,c4,c5,c6,c7,kM⟩:=h;have HC:=η (yf x.line 0 1099511627776 w);generalize bZ x.line 0 1099511627776=bv at*;go_enter func239,ntmps239
 go_wp2_with fail
 refine HC.o.mono ?_;rintro e w1 ⟨rfl,rfl⟩;go_wp2_with fail
 go_ret;exact⟨rfl,aX _ _⟩
theorem aD2(x:ak)(bx:Nat)(w:aJ)(h:pL w bx x):
 aQ aM 241 #[π bx] w λe w'=>e=aU (bM (!bZ x.bu 0 1099511627776))/\β w w':=by
 obtain⟨c0,c1,c2,c3,c4,c5,c6,c7,kM⟩:=h;have HC:=η (yf x.bu 0 1099511627776 w);generalize bZ x.bu 0 1099511627776=bv at*;go_enter func241,ntmps241
 go_wp2_with fail
 refine HC.o.mono ?_;rintro e w1 ⟨rfl,rfl⟩;go_wp2_with fail
 go_ret;exact⟨rfl,aX _ _⟩
theorem aD3(x:ak)(bx:Nat)(w:aJ)(h:pL w bx x):
 aQ aM 242 #[π bx] w λe w'=>e=aU (bM (!bZ x.lead 0 1000))/\β w w':=by
 obtain⟨c0,c1,c2,c3,c4,c5,c6,c7,kM⟩:=h;have HC:=η (Hz x.lead 0 1000 w);generalize bZ x.lead 0 1000=bv at*;go_enter func242,ntmps242
 go_wp2_with fail
 refine HC.o.mono ?_;rintro e w1 ⟨rfl,rfl⟩;go_wp2_with fail
 go_ret;exact⟨rfl,aX _ _⟩
theorem aD4(x:ak)(bx:Nat)(w:aJ)(h:pL w bx x):
 aQ aM 244 #[π bx] w λe w'=>e=aU (bM (!bZ x.tr 1 64))/\β w w':=by
 obtain⟨c0,c1,c2,c3,c4,c5,c6,c7,kM⟩:=h;have HC:=η (Hz x.tr 1 64 w);generalize bZ x.tr 1 64=bv at*;go_enter func244,ntmps244
 go_wp2_with fail
 refine HC.o.mono ?_;rintro e w1 ⟨rfl,rfl⟩;go_wp2_with fail
 go_ret;exact⟨rfl,aX _ _⟩
theorem aD5(x:ak)(bx:Nat)(w:aJ)(h:pL w bx x):
 aQ aM 245 #[π bx] w λe w'=>e=aU (bM (!bZ x.bY 1 32))/\β w w':=by
 obtain⟨c0,c1,c2,c3,c4,c5,c6,c7,kM⟩:=h;have HC:=η (Hz x.bY 1 32 w);generalize bZ x.bY 1 32=bv at*;go_enter func245,ntmps245
 go_wp2_with fail
 refine HC.o.mono ?_;rintro e w1 ⟨rfl,rfl⟩;go_wp2_with fail
 go_ret;exact⟨rfl,aX _ _⟩
def JV(b:Nat):Array aN:= #[.string ⟨#[109,101,109,98,101,114,115]⟩,.func (.func 233) #[] #[bH (aC ⟨b,0,aB⟩)],.string ⟨#[115,101,99,115]⟩,.func (.func 235) #[] #[bH (aC ⟨b,0,aB⟩)],.string ⟨#[99,121,99,108,101,115]⟩,.func (.func 237) #[] #[bH (aC ⟨b,0,aB⟩)],.string ⟨#[108,105,110,101]⟩,.func (.func 239) #[] #[bH (aC ⟨b,0,aB⟩)],.string ⟨#[99,97,112,105,116,97,108]⟩,.func (.func 241) #[] #[bH (aC ⟨b,0,aB⟩)],.string ⟨#[108,101,97,100]⟩,.func (.func 242) #[] #[bH (aC ⟨b,0,aB⟩)],.string ⟨#[116,114,97,100,101,115]⟩,.func (.func 244) #[] #[bH (aC ⟨b,0,aB⟩)],.string ⟨#[98,105,100,115]⟩,.func (.func 245) #[] #[bH (aC ⟨b,0,aB⟩)]]
theorem aD6(x:ak)(w:aJ):aQ aM 202 #[x.val] w λe w'=>e=aU (aH (aC ⟨w.heap.size+1,0,aB⟩) 8 8)/\(w.alloc (aK #[aH x.Am (aA x.ms) x.cm,aH x.As (aA x.ss) x.cs,aH x.Ac (aA x.cy) x.cc,aG aF x.line,aG aF x.bu,aG aF x.lead,aG aF x.tr,aG aF x.bY] 26)).alloc (aK (JV w.heap.size) 279)=w':=by
 unfold ak.val JV;go_enter func202,ntmps202
 go_wp2
 go_ret;exact⟨rfl,rfl⟩
def iJ(x:ak):ByteArray:=if kP x.ms=aP then⟨#[109,101,109,98,101,114,115]⟩ else if l7 x.ss=aP then⟨#[115,101,99,115]⟩ else if lN x.cy=aP then⟨#[99,121,99,108,101,115]⟩ else if bZ x.line 0 1099511627776=aP then⟨#[108,105,110,101]⟩ else if bZ x.bu 0 1099511627776=aP then⟨#[99,97,112,105,116,97,108]⟩ else if bZ x.lead 0 1000=aP then⟨#[108,101,97,100]⟩ else if bZ x.tr 1 64=aP then⟨#[116,114,97,100,101,115]⟩ else if bZ x.bY 1 32=aP then⟨#[98,105,100,115]⟩ else⟨#[]⟩
def okB(x:ak):Bool:=kP x.ms&&l7 x.ss&&lN x.cy&&bZ x.line 0 1099511627776&&bZ x.bu 0 1099511627776&&bZ x.lead 0 1000&&bZ x.tr 1 64&&bZ x.bY 1 32
def Oq(w:aJ)(g b:Nat):Prop:=∀j u,(JV b)[j]? =aC u->w.cell? ⟨g,j,aB⟩=aC u
theorem Oq.below {w w':aJ} {g b:Nat}(h:Oq w g b)(hg:g<w.heap.size)(hb:aa w.heap.size w w'):Oq w' g b:=λj u hu=>(hb.cell (p:=⟨g,j,aB⟩) hg).trans (h j u hu)
structure Ng(w:aJ)(g b:Nat)(x:ak):Prop where
 tab:Oq w g b
 lt:g<w.heap.size
 cf:pL w b x
 ok:lS w x
theorem Ng.below {w w':aJ} {g b:Nat} {x:ak}(h:Ng w g b x)(hb:aa w.heap.size w w'):Ng w' g b x:=⟨h.tab.below h.lt hb,cR h.lt hb.size,h.cf.below hb,h.ok.below hb⟩
theorem aDu(w:aJ)(x:ak)(h:lS w x):Ng ((w.alloc (aK #[aH x.Am (aA x.ms) x.cm,aH x.As (aA x.ss) x.cs,aH x.Ac (aA x.cy) x.cc,aG aF x.line,aG aF x.bu,aG aF x.lead,aG aF x.tr,aG aF x.bY] 26)).alloc (aK (JV w.heap.size) 279)) (w.heap.size+1) w.heap.size x:=by have hb:aa (w.alloc (aK #[aH x.Am (aA x.ms) x.cm,aH x.As (aA x.ss) x.cs,aH x.Ac (aA x.cy) x.cc,ν x.line,ν x.bu,ν x.lead,ν x.tr,ν x.bY] 26)).heap.size (w.alloc (aK #[aH x.Am (aA x.ms) x.cm,aH x.As (aA x.ss) x.cs,aH x.Ac (aA x.cy) x.cc,ν x.line,ν x.bu,ν x.lead,ν x.tr,ν x.bY] 26)) ((w.alloc (aK #[aH x.Am (aA x.ms) x.cm,aH x.As (aA x.ss) x.cs,aH x.Ac (aA x.cy) x.cc,ν x.line,ν x.bu,ν x.lead,ν x.tr,ν x.bY] 26)).alloc (aK (JV w.heap.size) 279)):=(aX _ _).alloc (aZ _) _;refine⟨λj u hu=> ?_,by simp,(zS w x).below hb,(h.below (mE w x)).below hb⟩;rw [cM _ _ _ _ (by simp)];exact hu
theorem aDv(x:ak)(w:aJ)(h:lS w x)(hm:aA x.ms<=100000)(hs:aA x.ss<=100000)(hc:aA x.cy<=100000):
 aQ aM 145 #[x.val] w λe w'=>e=aU (.string (iJ x))/\β w w':=by
 have HC:=η (aD6 x (w.alloc (aK #[aH x.Am (aA x.ms) x.cm,aH x.As (aA x.ss) x.cs,aH x.Ac (aA x.cy) x.cc,ν x.line,ν x.bu,ν x.lead,ν x.tr,ν x.bY] 26)));have HN:=η (aDu (w.alloc (aK #[aH x.Am (aA x.ms) x.cm,aH x.As (aA x.ss) x.cs,aH x.Ac (aA x.cy) x.cc,ν x.line,ν x.bu,ν x.lead,ν x.tr,ν x.bY] 26)) x (h.below (mE w x)));have aY:=η (mE w x);have aR:Hid (β w (((w.alloc (aK #[aH x.Am (aA x.ms) x.cm,aH x.As (aA x.ss) x.cs,aH x.Ac (aA x.cy) x.cc,ν x.line,ν x.bu,ν x.lead,ν x.tr,ν x.bY] 26)).alloc (aK #[aH x.Am (aA x.ms) x.cm,aH x.As (aA x.ss) x.cs,aH x.Ac (aA x.cy) x.cc,ν x.line,ν x.bu,ν x.lead,ν x.tr,ν x.bY] 26)).alloc (aK (JV (w.alloc (aK #[aH x.Am (aA x.ms) x.cm,aH x.As (aA x.ss) x.cs,aH x.Ac (aA x.cy) x.cc,ν x.line,ν x.bu,ν x.lead,ν x.tr,ν x.bY] 26)).heap.size) 279))):=(((mE w x).alloc (by simp) _).alloc (by simp;omega) _);have rC:=η (show iJ x=if kP x.ms=aP then⟨#[109,101,109,98,101,114,115]⟩ else if l7 x.ss=aP then⟨#[115,101,99,115]⟩ else if lN x.cy=aP then⟨#[99,121,99,108,101,115]⟩ else if bZ x.line 0 1099511627776=aP then⟨#[108,105,110,101]⟩ else if bZ x.bu 0 1099511627776=aP then⟨#[99,97,112,105,116,97,108]⟩ else if bZ x.lead 0 1000=aP then⟨#[108,101,97,100]⟩ else if bZ x.tr 1 64=aP then⟨#[116,114,97,100,101,115]⟩ else if bZ x.bY 1 32=aP then⟨#[98,105,100,115]⟩ else⟨#[]⟩ from rfl);generalize iJ x=ws at*;unfold ak.val at*;go_enter func145,ntmps145
 go_wp2_with fail
 refine HC.o.mono ?_;rintro e w2 ⟨rfl,hw2⟩;rw [hw2] at HN aR;generalize (w.alloc (aK #[aH x.Am (aA x.ms) x.cm,aH x.As (aA x.ss) x.cs,aH x.Ac (aA x.cy) x.cc,ν x.line,ν x.bu,ν x.lead,ν x.tr,ν x.bY] 26)).heap.size=b at*;go_wp2_with fail
 refine uY 9 ?_;rw [eA];have t0:w2.cell? ⟨b+1,0,aB⟩=aC (.string ⟨#[109,101,109,98,101,114,115]⟩):=HN.o.tab 0 _ rfl;have t1:w2.cell? ⟨b+1,1,aB⟩=aC (.func (.func 233) #[] #[π b]):=HN.o.tab 1 _ rfl;have hlt:=HN.o.lt;have bP:=η (HN.o.below ((aX _ _).alloc (aZ _) (aK #[.string ⟨#[109,101,109,98,101,114,115]⟩,.func (.func 233) #[] #[π b]] 279)));have hsz:=aR.o.size;go_wp2_with fail
 refine(aCy x b _ bP.o.cf bP.o.ok hm).mono ?_;rintro e w3 ⟨rfl,hb⟩;have fB:Hid (β w w3):=(aR.o.alloc hsz _).trans (hb.mono (by simp;omega));have ja:=η (bP.o.below hb);have q0:w3.cell? ⟨w2.heap.size,0,aB⟩=aC (.string ⟨#[109,101,109,98,101,114,115]⟩):=(hb.cell (p:=⟨w2.heap.size,0,aB⟩) (by simp)).trans (cM _ _ _ 0 rfl);cases gW:kP x.ms
 ·have HF:Hid (⟨#[109,101,109,98,101,114,115]⟩=ws):=by show _=_;rw [rC.o];simp [gW]
  go_wp2_with fail
  go_ret;exact⟨congrArg (λz=>aU (.string z)) HF.o,fB.o⟩
 have HN:=ja;have aR:=fB;go_wp2_with fail
 rw [eA];have t0:w3.cell? ⟨b+1,2,aB⟩=aC (.string ⟨#[115,101,99,115]⟩):=HN.o.tab 2 _ rfl;have t1:w3.cell? ⟨b+1,3,aB⟩=aC (.func (.func 235) #[] #[π b]):=HN.o.tab 3 _ rfl;have hlt:=HN.o.lt;have bP:=η (HN.o.below ((aX _ _).alloc (aZ _) (aK #[.string ⟨#[115,101,99,115]⟩,.func (.func 235) #[] #[π b]] 279)));have hsz:=aR.o.size;go_wp2_with fail
 refine(aCz x b _ bP.o.cf bP.o.ok hs).mono ?_;rintro e w4 ⟨rfl,hb⟩;have fB:Hid (β w w4):=(aR.o.alloc hsz _).trans (hb.mono (by simp;omega));have ja:=η (bP.o.below hb);have q0:w4.cell? ⟨w3.heap.size,0,aB⟩=aC (.string ⟨#[115,101,99,115]⟩):=(hb.cell (p:=⟨w3.heap.size,0,aB⟩) (by simp)).trans (cM _ _ _ 0 rfl);cases mK:l7 x.ss
 ·have HF:Hid (⟨#[115,101,99,115]⟩=ws):=by show _=_;rw [rC.o];simp [gW,mK]
  go_wp2_with fail
  go_ret;exact⟨congrArg (λz=>aU (.string z)) HF.o,fB.o⟩
 have HN:=ja;have aR:=fB;go_wp2_with fail
 rw [eA];have t0:w4.cell? ⟨b+1,4,aB⟩=aC (.string ⟨#[99,121,99,108,101,115]⟩):=HN.o.tab 4 _ rfl;have t1:w4.cell? ⟨b+1,5,aB⟩=aC (.func (.func 237) #[] #[π b]):=HN.o.tab 5 _ rfl;have hlt:=HN.o.lt;have bP:=η (HN.o.below ((aX _ _).alloc (aZ _) (aK #[.string ⟨#[99,121,99,108,101,115]⟩,.func (.func 237) #[] #[π b]] 279)));have hsz:=aR.o.size;go_wp2_with fail
 refine(aD0 x b _ bP.o.cf bP.o.ok hc).mono ?_;rintro e w5 ⟨rfl,hb⟩;have fB:Hid (β w w5):=(aR.o.alloc hsz _).trans (hb.mono (by simp;omega));have ja:=η (bP.o.below hb);have q0:w5.cell? ⟨w4.heap.size,0,aB⟩=aC (.string ⟨#[99,121,99,108,101,115]⟩):=(hb.cell (p:=⟨w4.heap.size,0,aB⟩) (by simp)).trans (cM _ _ _ 0 rfl);cases nV:lN x.cy
 ·have HF:Hid (⟨#[99,121,99,108,101,115]⟩=ws):=by show _=_;rw [rC.o];simp [gW,mK,nV]
  go_wp2_with fail
  go_ret;exact⟨congrArg (λz=>aU (.string z)) HF.o,fB.o⟩
 have HN:=ja;have aR:=fB;go_wp2_with fail
 rw [eA];have t0:w5.cell? ⟨b+1,6,aB⟩=aC (.string ⟨#[108,105,110,101]⟩):=HN.o.tab 6 _ rfl;have t1:w5.cell? ⟨b+1,7,aB⟩=aC (.func (.func 239) #[] #[π b]):=HN.o.tab 7 _ rfl;have hlt:=HN.o.lt;have bP:=η (HN.o.below ((aX _ _).alloc (aZ _) (aK #[.string ⟨#[108,105,110,101]⟩,.func (.func 239) #[] #[π b]] 279)));have hsz:=aR.o.size;go_wp2_with fail
 refine(aD1 x b _ bP.o.cf).mono ?_;rintro e w6 ⟨rfl,hb⟩;have fB:Hid (β w w6):=(aR.o.alloc hsz _).trans (hb.mono (by simp;omega));have ja:=η (bP.o.below hb);have q0:w6.cell? ⟨w5.heap.size,0,aB⟩=aC (.string ⟨#[108,105,110,101]⟩):=(hb.cell (p:=⟨w5.heap.size,0,aB⟩) (by simp)).trans (cM _ _ _ 0 rfl);cases uO:bZ x.line 0 1099511627776
 ·have HF:Hid (⟨#[108,105,110,101]⟩=ws):=by show _=_;rw [rC.o];simp [gW,mK,nV,uO]
  go_wp2_with fail
  go_ret;exact⟨congrArg (λz=>aU (.string z)) HF.o,fB.o⟩
 have HN:=ja;have aR:=fB;go_wp2_with fail
 rw [eA];have t0:w6.cell? ⟨b+1,8,aB⟩=aC (.string ⟨#[99,97,112,105,116,97,108]⟩):=HN.o.tab 8 _ rfl;have t1:w6.cell? ⟨b+1,9,aB⟩=aC (.func (.func 241) #[] #[π b]):=HN.o.tab 9 _ rfl;have hlt:=HN.o.lt;have bP:=η (HN.o.below ((aX _ _).alloc (aZ _) (aK #[.string ⟨#[99,97,112,105,116,97,108]⟩,.func (.func 241) #[] #[π b]] 279)));have hsz:=aR.o.size;go_wp2_with fail
 refine(aD2 x b _ bP.o.cf).mono ?_;rintro e w7 ⟨rfl,hb⟩;have fB:Hid (β w w7):=(aR.o.alloc hsz _).trans (hb.mono (by simp;omega));have ja:=η (bP.o.below hb);have q0:w7.cell? ⟨w6.heap.size,0,aB⟩=aC (.string ⟨#[99,97,112,105,116,97,108]⟩):=(hb.cell (p:=⟨w6.heap.size,0,aB⟩) (by simp)).trans (cM _ _ _ 0 rfl);cases xJ:bZ x.bu 0 1099511627776
 ·have HF:Hid (⟨#[99,97,112,105,116,97,108]⟩=ws):=by show _=_;rw [rC.o];simp [gW,mK,nV,uO,xJ]
  go_wp2_with fail
  go_ret;exact⟨congrArg (λz=>aU (.string z)) HF.o,fB.o⟩
 have HN:=ja;have aR:=fB;go_wp2_with fail
 rw [eA];have t0:w7.cell? ⟨b+1,10,aB⟩=aC (.string ⟨#[108,101,97,100]⟩):=HN.o.tab 10 _ rfl;have t1:w7.cell? ⟨b+1,11,aB⟩=aC (.func (.func 242) #[] #[π b]):=HN.o.tab 11 _ rfl;have hlt:=HN.o.lt;have bP:=η (HN.o.below ((aX _ _).alloc (aZ _) (aK #[.string ⟨#[108,101,97,100]⟩,.func (.func 242) #[] #[π b]] 279)));have hsz:=aR.o.size;go_wp2_with fail
 refine(aD3 x b _ bP.o.cf).mono ?_;rintro e w8 ⟨rfl,hb⟩;have fB:Hid (β w w8):=(aR.o.alloc hsz _).trans (hb.mono (by simp;omega));have ja:=η (bP.o.below hb);have q0:w8.cell? ⟨w7.heap.size,0,aB⟩=aC (.string ⟨#[108,101,97,100]⟩):=(hb.cell (p:=⟨w7.heap.size,0,aB⟩) (by simp)).trans (cM _ _ _ 0 rfl);cases QL:bZ x.lead 0 1000
 ·have HF:Hid (⟨#[108,101,97,100]⟩=ws):=by show _=_;rw [rC.o];simp [gW,mK,nV,uO,xJ,QL]
  go_wp2_with fail
  go_ret;exact⟨congrArg (λz=>aU (.string z)) HF.o,fB.o⟩
 have HN:=ja;have aR:=fB;go_wp2_with fail
 rw [eA];have t0:w8.cell? ⟨b+1,12,aB⟩=aC (.string ⟨#[116,114,97,100,101,115]⟩):=HN.o.tab 12 _ rfl;have t1:w8.cell? ⟨b+1,13,aB⟩=aC (.func (.func 244) #[] #[π b]):=HN.o.tab 13 _ rfl;have hlt:=HN.o.lt;have bP:=η (HN.o.below ((aX _ _).alloc (aZ _) (aK #[.string ⟨#[116,114,97,100,101,115]⟩,.func (.func 244) #[] #[π b]] 279)));have hsz:=aR.o.size;go_wp2_with fail
 refine(aD4 x b _ bP.o.cf).mono ?_;rintro e w9 ⟨rfl,hb⟩;have fB:Hid (β w w9):=(aR.o.alloc hsz _).trans (hb.mono (by simp;omega));have ja:=η (bP.o.below hb);have q0:w9.cell? ⟨w8.heap.size,0,aB⟩=aC (.string ⟨#[116,114,97,100,101,115]⟩):=(hb.cell (p:=⟨w8.heap.size,0,aB⟩) (by simp)).trans (cM _ _ _ 0 rfl);cases WL:bZ x.tr 1 64
 ·have HF:Hid (⟨#[116,114,97,100,101,115]⟩=ws):=by show _=_;rw [rC.o];simp [gW,mK,nV,uO,xJ,QL,WL]
  go_wp2_with fail
  go_ret;exact⟨congrArg (λz=>aU (.string z)) HF.o,fB.o⟩
 have HN:=ja;have aR:=fB;go_wp2_with fail
 rw [eA];have t0:w9.cell? ⟨b+1,14,aB⟩=aC (.string ⟨#[98,105,100,115]⟩):=HN.o.tab 14 _ rfl;have t1:w9.cell? ⟨b+1,15,aB⟩=aC (.func (.func 245) #[] #[π b]):=HN.o.tab 15 _ rfl;have hlt:=HN.o.lt;have bP:=η (HN.o.below ((aX _ _).alloc (aZ _) (aK #[.string ⟨#[98,105,100,115]⟩,.func (.func 245) #[] #[π b]] 279)));have hsz:=aR.o.size;go_wp2_with fail
 refine(aD5 x b _ bP.o.cf).mono ?_;rintro e s8 ⟨rfl,hb⟩;have fB:Hid (β w s8):=(aR.o.alloc hsz _).trans (hb.mono (by simp;omega));have ja:=η (bP.o.below hb);have q0:s8.cell? ⟨w9.heap.size,0,aB⟩=aC (.string ⟨#[98,105,100,115]⟩):=(hb.cell (p:=⟨w9.heap.size,0,aB⟩) (by simp)).trans (cM _ _ _ 0 rfl);cases hp7:bZ x.bY 1 32
 ·have HF:Hid (⟨#[98,105,100,115]⟩=ws):=by show _=_;rw [rC.o];simp [gW,mK,nV,uO,xJ,QL,WL,hp7]
  go_wp2_with fail
  go_ret;exact⟨congrArg (λz=>aU (.string z)) HF.o,fB.o⟩
 have HN:=ja;have aR:=fB;go_wp2_with fail
 rw [eA];have HF:Hid (⟨#[]⟩=ws):=by show _=_;rw [rC.o];simp [gW,mK,nV,uO,xJ,QL,WL,hp7]
 go_wp2_with fail
 go_ret;exact⟨congrArg (λz=>aU (.string z)) HF.o,aR.o⟩
theorem a7u {x:ak}(h:okB x=aO):iJ x=⟨#[]⟩:=by unfold okB at h;simp only [jX] at h;obtain⟨⟨⟨⟨⟨⟨⟨h0,h1⟩,h2⟩,h3⟩,h4⟩,h5⟩,h6⟩,h7⟩:=h;unfold iJ;simp [h0,h1,h2,h3,h4,h5,h6,h7]
theorem a7t {x:ak}(h:okB x=aP):iJ x=⟨#[109,101,109,98,101,114,115]⟩\/iJ x=⟨#[115,101,99,115]⟩\/iJ x=⟨#[99,121,99,108,101,115]⟩\/iJ x=⟨#[108,105,110,101]⟩\/iJ x=⟨#[99,97,112,105,116,97,108]⟩\/iJ x=⟨#[108,101,97,100]⟩\/iJ x=⟨#[116,114,97,100,101,115]⟩\/iJ x=⟨#[98,105,100,115]⟩:=by
 unfold okB at h;unfold iJ;cases h0:kP x.ms
 ·simp
 cases h1:l7 x.ss
 ·simp
 cases h2:lN x.cy
 ·simp
 cases h3:bZ x.line 0 1099511627776
 ·simp
 cases h4:bZ x.bu 0 1099511627776
 ·simp
 cases h5:bZ x.lead 0 1000
 ·simp
 cases h6:bZ x.tr 1 64
 ·simp
 cases h7:bZ x.bY 1 32
 ·simp
 simp [h0,h1,h2,h3,h4,h5,h6,h7] at h
def zT(x:ak):Int:=if okB x=aO then 0 else 1
theorem aDt(x:ak)(w:aJ)(h:lS w x)(hm:aA x.ms<=100000)(hs:aA x.ss<=100000)(hc:aA x.cy<=100000):
 aQ aM 78 #[x.val] w λe w'=>e=aU (ν (zT x))/\β w w':=by
 have aY:=η (mE w x);have HW:=η (aDv x (w.alloc (aK #[aH x.Am (aA x.ms) x.cm,aH x.As (aA x.ss) x.cs,aH x.Ac (aA x.cy) x.cc,ν x.line,ν x.bu,ν x.lead,ν x.tr,ν x.bY] 26)) (h.below (mE w x)) hm hs hc);have HG:=η (@a7u x);have HX:=η (@a7t x);have HC:Hid (zT x=if okB x=aO then 0 else 1):=rfl;generalize iJ x=ws at*;generalize zT x=ci at*;generalize okB x=ok at*;unfold ak.val at*;go_enter func78,ntmps78
 go_wp2_with fail
 refine HW.o.mono ?_;rintro e w2 ⟨rfl,hb⟩;have HB:Hid (β w w2):=aY.o.trans (hb.mono (by simp));cases ok
 ·have HF:Hid (ci=1):=by show _=_;rw [HC.o];rfl
  rcases HX.o rfl with rfl|rfl|rfl|rfl|rfl|rfl|rfl|rfl
  all_goals
   go_wp2_with fail
   go_ret;exact⟨congrArg (λz=>aU (ν z)) HF.o.symm,HB.o⟩
 have HF:Hid (ci=0):=by show _=_;rw [HC.o];rfl
 obtain rfl:=HG.o rfl;go_wp2_with fail
 go_ret;exact⟨congrArg (λz=>aU (ν z)) HF.o.symm,HB.o⟩
structure vw(w:aJ)(base:Nat)(x:ak):Prop where
 m:w.ownsRow base 67 2 (aH x.Am (aA x.ms) x.cm) (aA x.ms) (jU x.ms)
 s:w.ownsRow base 69 2 (aH x.As (aA x.ss) x.cs) (aA x.ss) (jU x.ss)
 c:w.ownsRow base 71 4 (aH x.Ac (aA x.cy) x.cc) (aA x.cy) (uI x.cy)
theorem vw.below {w w':aJ} {b:Nat} {x:ak}(h:vw w b x)(hb:aa w.heap.size w w'):vw w' b x:=⟨iI h.m hb,iI h.s hb,iI h.c hb⟩
theorem a5v(L:List Pr):aA (jU L)=aA L*2:=by
 induction L with
 |nil=>rfl
 |cons x l ih=>simp only [jU,wP,cL,uB] at*;rw [ih];simp [Pr.cells];omega
theorem aE5(L:List Cy):aA (uI L)=aA L*4:=by
 induction L with
 |nil=>rfl
 |cons x l ih=>simp only [uI,wP,cL,uB] at*;rw [ih];simp [Cy.cells];omega
theorem a5w(L:List Pr):∀u∈jU L,u.oneCell'=aO:=by intro u hu;obtain⟨x,_,hx⟩:=List.mem_flatMap.1 hu;simp [Pr.cells] at hx;rcases hx with rfl|rfl<;>rfl
theorem aE6(L:List Cy):∀u∈uI L,u.oneCell'=aO:=by intro u hu;obtain⟨x,_,hx⟩:=List.mem_flatMap.1 hu;simp [Cy.cells] at hx;rcases hx with rfl|rfl|rfl|rfl<;>rfl
structure uZ(w:aJ)(x:ak):Prop where
 ok:lS w x
 nm:x.Am=aB->aA x.ms=0
 ns:x.As=aB->aA x.ss=0
 nc:x.Ac=aB->aA x.cy=0
theorem uZ.below {w w':aJ} {x:ak}(h:uZ w x)(hb:aa w.heap.size w w'):uZ w' x:=⟨h.ok.below hb,h.nm,h.ns,h.nc⟩
theorem vw.src {w:aJ} {base:Nat} {x:ak}(h:vw w base x):uZ w x:=⟨⟨aW.cA h.m,aW.cA h.s,aW.cA h.c⟩,AE h.m,AE h.s,AE h.c⟩
theorem a1q(x:ak)(w:aJ)(h:uZ w x)(hm:aA x.ms<=100000)(hs:aA x.ss<=100000)(hc:aA x.cy<=100000):
 aQ aM 32 #[x.val] w λe w'=>∃Am cm As cs Ac cc,e=aU ({x with Am:=Am,cm:=cm,As:=As,cs:=cs,Ac:=Ac,cc:=cc}:ak).val/\vw w' w.heap.size {x with Am:=Am,cm:=cm,As:=As,cs:=cs,Ac:=Ac,cc:=cc}/\β w w':=by
 have H:=η h;clear h;have HM:=η (λW hW=>aDc (aA x.ms) (jU x.ms) x.Am x.cm W (H.o.ok.below hW).m (a5v _) H.o.nm (a5w _) hm);have HS:=η (λW hW=>aDd (aA x.ss) (jU x.ss) x.As x.cs W (H.o.ok.below hW).s (a5v _) H.o.ns (a5w _) hs);have HC:=η (λW hW=>aDX (aA x.cy) (uI x.cy) x.Ac x.cc W (H.o.ok.below hW).c (aE5 _) H.o.nc (aE6 _) hc);have aY:Hid (β w ((w.alloc (aK #[aH x.Am (aA x.ms) x.cm,aH x.As (aA x.ss) x.cs,aH x.Ac (aA x.cy) x.cc,ν x.line,ν x.bu,ν x.lead,ν x.tr,ν x.bY] 26)).alloc (aK #[aH aB 0 0,aH aB 0 0,aH aB 0 0,ν 0,ν 0,ν 0,ν 0,ν 0] 26))):=η (σ.alloc (by simp) _);have HX:Hid (((w.alloc (aK #[aH x.Am (aA x.ms) x.cm,aH x.As (aA x.ss) x.cs,aH x.Ac (aA x.cy) x.cc,ν x.line,ν x.bu,ν x.lead,ν x.tr,ν x.bY] 26)).alloc (aK #[aH aB 0 0,aH aB 0 0,aH aB 0 0,ν 0,ν 0,ν 0,ν 0,ν 0] 26)).heap[w.heap.size]? =aC (aK x.vals 26 (0,0))):=η ((fG _ _ (by simp)).trans (cT w _));have HY:Hid (((w.alloc (aK #[aH x.Am (aA x.ms) x.cm,aH x.As (aA x.ss) x.cs,aH x.Ac (aA x.cy) x.cc,ν x.line,ν x.bu,ν x.lead,ν x.tr,ν x.bY] 26)).alloc (aK #[aH aB 0 0,aH aB 0 0,aH aB 0 0,ν 0,ν 0,ν 0,ν 0,ν 0] 26)).heap[w.heap.size+1]? =aC (aK #[aH aB 0 0,aH aB 0 0,aH aB 0 0,ν 0,ν 0,ν 0,ν 0,ν 0] 26 (0,0))):=η (by have h1:=cT (w.alloc (aK #[aH x.Am (aA x.ms) x.cm,aH x.As (aA x.ss) x.cs,aH x.Ac (aA x.cy) x.cc,ν x.line,ν x.bu,ν x.lead,ν x.tr,ν x.bY] 26)) (aK #[aH aB 0 0,aH aB 0 0,aH aB 0 0,ν 0,ν 0,ν 0,ν 0,ν 0] 26);rw [Cr] at h1;exact h1);have hz0:w.heap.size+1<((w.alloc (aK #[aH x.Am (aA x.ms) x.cm,aH x.As (aA x.ss) x.cs,aH x.Ac (aA x.cy) x.cc,ν x.line,ν x.bu,ν x.lead,ν x.tr,ν x.bY] 26)).alloc (aK #[aH aB 0 0,aH aB 0 0,aH aB 0 0,ν 0,ν 0,ν 0,ν 0,ν 0] 26)).heap.size:=by simp
 unfold ak.val;clear hm hs hc H;go_enter func32,ntmps32
 go_upto_region 1 with fail
 generalize ((w.alloc (aK #[aH x.Am (aA x.ms) x.cm,aH x.As (aA x.ss) x.cs,aH x.Ac (aA x.cy) x.cc,ν x.line,ν x.bu,ν x.lead,ν x.tr,ν x.bY] 26)).alloc (aK #[aH aB 0 0,aH aB 0 0,aH aB 0 0,ν 0,ν 0,ν 0,ν 0,ν 0] 26))=w1 at*;obtain⟨bx,bQ⟩:∃bx,bx=w.heap.size:=⟨_,rfl⟩;have dN:=η bQ;rw [<-bQ] at HX HY hz0 ⊢;clear bQ;obtain⟨d0,d1,d2⟩:=NP HX;have iV:bx<w1.drew.heap.size:=by have:w1.drew.heap.size=w1.heap.size:=rfl;omega
 have aR:Hid (β w w1.drew):=η aY.o.drew;have qL:Hid (w1.drew.heap[bx]? =aC (aK x.vals 26 (0,0))):=η HX.o;have E9:Hid (w1.drew.heap[bx+1]? =aC (aK #[aH aB 0 0,aH aB 0 0,aH aB 0 0,ν 0,ν 0,ν 0,ν 0,ν 0] 26 (0,0))):=η HY.o;have Mu:bx+1<w1.drew.heap.size:=hz0;clear HX HY aY hz0;refine aLJ (S:=λW=>W.cell? ⟨bx,0,aB⟩=aC (aH x.Am (aA x.ms) x.cm)/\W.cell? ⟨bx,1,aB⟩=aC (aH x.As (aA x.ss) x.cs)/\W.cell? ⟨bx,2,aB⟩=aC (aH x.Ac (aA x.cy) x.cc)) [9,10,11,12,13,14] (by kernel_rfl) ⟨d0,d1,d2⟩ (λhHeld=> ?_);have bW:Hid (∀W,aa w1.drew.heap.size w1.drew W->W.cell? ⟨bx,0,aB⟩=aC (aH x.Am (aA x.ms) x.cm)/\W.cell? ⟨bx,1,aB⟩=aC (aH x.As (aA x.ss) x.cs)/\W.cell? ⟨bx,2,aB⟩=aC (aH x.Ac (aA x.cy) x.cc)):=η λW hW=>⟨((ez hW).1 _ _ iV).trans d0,((ez hW).1 _ _ iV).trans d1,((ez hW).1 _ _ iV).trans d2⟩
 clear d0 d1 d2;generalize w1.drew=w2 at*;refine KU (i:=0) (v:=π bx) rfl (by kernel_rfl) (by kernel_rfl) (by kernel_rfl) (by kernel_rfl) (by kernel_rfl) (by kernel_rfl) (λ_ _ _ h=>h) (aS ⟨by rfl,λw' hSw=>by obtain⟨s0,s1,s2⟩:=hSw;go_simp⟩) hHeld ?_;refine KU (i:=1) (v:=aH x.Am (aA x.ms) x.cm) rfl (by kernel_rfl) (by kernel_rfl) (by kernel_rfl) (by kernel_rfl) (by kernel_rfl) (by kernel_rfl) (λ_ _ _ h=>h) (aS ⟨by rfl,λw' hSw=>by obtain⟨s0,s1,s2⟩:=hSw;go_simp⟩) hHeld ?_;refine KU (i:=3) (v:=bH (aC ⟨bx,1,aB⟩)) rfl (by kernel_rfl) (by kernel_rfl) (by kernel_rfl) (by kernel_rfl) (by kernel_rfl) (by kernel_rfl) (λ_ _ _ h=>h) (aS ⟨by rfl,λw' hSw=>by obtain⟨s0,s1,s2⟩:=hSw;go_simp⟩) hHeld ?_;refine KU (i:=4) (v:=aH x.As (aA x.ss) x.cs) rfl (by kernel_rfl) (by kernel_rfl) (by kernel_rfl) (by kernel_rfl) (by kernel_rfl) (by kernel_rfl) (λ_ _ _ h=>h) (aS ⟨by rfl,λw' hSw=>by obtain⟨s0,s1,s2⟩:=hSw;go_simp⟩) hHeld ?_;refine KU (i:=6) (v:=bH (aC ⟨bx,2,aB⟩)) rfl (by kernel_rfl) (by kernel_rfl) (by kernel_rfl) (by kernel_rfl) (by kernel_rfl) (by kernel_rfl) (λ_ _ _ h=>h) (aS ⟨by rfl,λw' hSw=>by obtain⟨s0,s1,s2⟩:=hSw;go_simp⟩) hHeld ?_;refine KU (i:=7) (v:=aH x.Ac (aA x.cy) x.cc) rfl (by kernel_rfl) (by kernel_rfl) (by kernel_rfl) (by kernel_rfl) (by kernel_rfl) (by kernel_rfl) (λ_ _ _ h=>h) (aS ⟨by rfl,λw' hSw=>by obtain⟨s0,s1,s2⟩:=hSw;go_simp⟩) hHeld ?_;clear hHeld;refine KT (rs:= [2]) (by kernel_rfl) (by simp) ?_;refine qD.cons rfl (λK hK=> ?_) qD.nil;go_simp
 go_at_call 81
 refine(HM.o _ aR.o).mono ?_;rintro e w3 ⟨vm,rfl,QK,VS⟩;have aV:Hid (β w2 w3):=η VS;have tW:Hid (β w w3):=τ aR VS;have L0:=η (jT QK aR.o.size);clear QK VS;go_wp2_with fail
 refine hK.o _ _ (λ_=>bW.o _ aV.o) (λ_=> ?_);clear hK K;refine YC (i:=9) (v:=π bx) rfl (by kernel_rfl) (by kernel_rfl) (by kernel_rfl) (by kernel_rfl) (λ_ _ _ h=>h) (aS ⟨by rfl,λw' _=>by go_simp⟩) ?_;refine KT (rs:= [5]) (by kernel_rfl) (by simp) ?_;refine qD.cons rfl (λK hK=> ?_) qD.nil;go_simp
 go_at_call 82
 refine(HS.o _ tW.o).mono ?_;rintro e w4 ⟨vs,rfl,WJ,Ed⟩;have af:Hid (β w2 w4):=τ aV Ed;have Ic:Hid (β w w4):=τ tW Ed;have ZJ:=η (iI L0.o Ed);have Fa:=η (jT WJ tW.o.size);clear WJ Ed L0;go_wp2_with fail
 refine hK.o _ _ (λ_=>bW.o _ af.o) (λ_=> ?_);clear hK K;refine KT (rs:= [8]) (by kernel_rfl) (by simp) ?_;refine qD.cons rfl (λK hK=> ?_) qD.nil;go_simp
 go_at_call 83
 refine(HC.o _ Ic.o).mono ?_;rintro e w5 ⟨vc,rfl,BW,gG⟩;have ar:Hid (β w2 w5):=τ af gG;have a8Z:Hid (β w w5):=τ Ic gG;have T9:=η (iI ZJ.o gG);have TB:=η (iI Fa.o gG);have qH:=η (jT BW Ic.o.size);clear BW gG ZJ Fa;go_wp2_with fail
 refine hK.o _ _ (λ_=>bW.o _ ar.o) (λ_=> ?_);clear hK K;refine KT (rs:= [10]) (by kernel_rfl) (by simp) ?_;refine qD.cons rfl (λK hK=> ?_) qD.nil;have PE:=(ar.o.block bx iV).trans qL.o;have c0:=bG _ bx 0 _ _ (0,0) PE;have f0:∀j,w5.frozen? ⟨bx,j,aB⟩=aP:=λj=>by simp [iU,PE]
 have AW:=η PE;obtain⟨Am,cm,hvm⟩:=bJ T9.o;obtain⟨As,cs,hvs⟩:=bJ TB.o;obtain⟨Ac,cc,hvc⟩:=bJ qH.o;subst hvm hvs hvc;have aM4:bx+1<w5.heap.size:=cR Mu ar.o.size;clear PE;unfold ak.vals at c0;go_simp
 refine hK.o _ _ (λh=>absurd h (by decide)) (λ_=> ?_);clear hK K;refine YC (i:=11) (v:=bH (aC ⟨bx,1,aB⟩)) rfl (by kernel_rfl) (by kernel_rfl) (by kernel_rfl) (by kernel_rfl) (λ_ _ _ h=>h) (aS ⟨by rfl,λw' _=>by go_simp⟩) ?_;refine KT (rs:= [12]) (by kernel_rfl) (by simp) ?_;refine qD.cons rfl (λK hK=> ?_) qD.nil;go_simp
 refine hK.o _ _ (λh=>absurd h (by decide)) (λ_=> ?_);clear hK K;refine YC (i:=13) (v:=bH (aC ⟨bx,2,aB⟩)) rfl (by kernel_rfl) (by kernel_rfl) (by kernel_rfl) (by kernel_rfl) (λ_ _ _ h=>h) (aS ⟨by rfl,λw' _=>by go_simp⟩) ?_;refine KT (rs:= [14]) (by kernel_rfl) (by simp) ?_;refine qD.cons rfl (λK hK=> ?_) qD.nil;go_simp
 refine hK.o _ _ (λh=>absurd h (by decide)) (λ_=> ?_);clear hK K;refine aLD (by kernel_rfl) ?_ _;have q3:=bG _ bx 3 _ _ (0,0) AW.o;have q4:=bG _ bx 4 _ _ (0,0) AW.o;have q5:=bG _ bx 5 _ _ (0,0) AW.o;have q6:=bG _ bx 6 _ _ (0,0) AW.o;have q7:=bG _ bx 7 _ _ (0,0) AW.o;have hy:=(ar.o.block (bx+1) Mu).trans E9.o;have y0:=bG _ (bx+1) 0 _ _ (0,0) hy;have y1:=bG _ (bx+1) 1 _ _ (0,0) hy;have y2:=bG _ (bx+1) 2 _ _ (0,0) hy;have y3:=bG _ (bx+1) 3 _ _ (0,0) hy;have y4:=bG _ (bx+1) 4 _ _ (0,0) hy;have y5:=bG _ (bx+1) 5 _ _ (0,0) hy;have y6:=bG _ (bx+1) 6 _ _ (0,0) hy;have y7:=bG _ (bx+1) 7 _ _ (0,0) hy;have fy:∀j,w5.frozen? ⟨bx+1,j,aB⟩=aP:=λj=>by simp [iU,hy]
 unfold ak.vals at q3 q4 q5 q6 q7;clear hy;go_wp2_with fail
 refine bodyPost_ret (v:=({x with Am:=Am,cm:=cm,As:=As,cs:=cs,Ac:=Ac,cc:=cc}:ak).val) (by simp [results,results32,go_sem,y0,y1,y2,y3,y4,y5,y6,y7,ak.val]) rfl ?_;have eH:w.heap.size<=bx:=by rw [dN.o];exact aZ _
 have aM3:w.heap.size<=bx+1:=Nat.le_succ_of_le eH;have b1:=AW.o;have b2:=(ar.o.block (bx+1) Mu).trans E9.o;have hne:∀ {e:bX} {s n:Nat} {v:aN} {xs:List aN},w5.ownsRow w.heap.size e s v n xs->e≠26->∀k,v.ownBlock=aC k->¬(k=bx\/k=bx+1):=λho he k hk hh=>by
  rcases hh with rfl|rfl
  ·exact gM ho b1 (Ne.symm he) hk
  exact gM ho b2 (Ne.symm he) hk
 refine⟨Am,cm,As,cs,Ac,cc,rfl, ?_, ?_⟩
 ·refine⟨bC.own (S:=λk=>k=bx\/k=bx+1) ?_ T9.o (hne T9.o (by decide)),bC.own (S:=λk=>k=bx\/k=bx+1) ?_ TB.o (hne TB.o (by decide)),bC.own (S:=λk=>k=bx\/k=bx+1) ?_ qH.o (hne qH.o (by decide))⟩
  all_goals
   repeat (refine bC.setCell ?_ (by first|exact aS (aS rfl)|exact aS (aT rfl)) _)
   exact bC.refl _ _
 repeat (refine Di ?_ (by assumption) _)
 exact a8Z.o
def F7(x:ak)(i:Int):Prop:=1<=i/\i<=aA x.ms
instance(x:ak)(i:Int):Decidable (F7 x i):=inferInstanceAs (Decidable (_/\_))
def uS(x:ak)(i:Int):Pr:=if F7 x i then x.ms.getD (i-1).toNat ⟨0,0⟩ else⟨0,0⟩
def jS(x:ak)(i:Int):Int:=if F7 x i then 0 else 9
theorem a4z {x:ak} {i:Int}(h:¬F7 x i):uS x i=⟨0,0⟩/\jS x i=9:=by unfold uS jS;rw [ifN h,ifN h];exact⟨rfl,rfl⟩
theorem aHT {x:ak} {k:Nat}(h:k<aA x.ms):uS x ((k:Int)+1)=x.ms[k]/\jS x ((k:Int)+1)=0:=by
 have h1:F7 x ((k:Int)+1):=by unfold F7;omega
 unfold uS jS;rw [ifP h1,ifP h1,show ((k:Int)+1-1).toNat=k by omega];exact⟨by simp [List.getD,h],rfl⟩
theorem PO(x:ak)(i:Int)(w:aJ)(h:lS w x)(hI:aL i):
 aQ aM 147 #[x.val,ν i] w λe w'=>e=aU (bB #[bO #[ν (uS x i).a,ν (uS x i).b],ν (jS x i)])/\β w w':=by
 have aY:=η (mE w x);have jG:=(zS w x).c0;have HS:=η (h.m.below (mE w x));have DC:=hI.1;have hI2:=hI.2;by_cases h1:i<1
 ·have hP:=a4z (x:=x) (i:=i) (by unfold F7;omega);rw [hP.1,hP.2];unfold ak.val at*;go_enter a0G,a0Z
  go_wp2_with fail
  exact bodyPost_ret (v:=bB #[bO #[ν 0,ν 0],ν 9]) (by simp [results,a0n,go_sem]) rfl ⟨rfl,by repeat (first|exact aY.o|refine Di ?_ (by simp) _|refine qj ?_ (by simp) _)⟩
 by_cases h2:i<=aA x.ms
 ·obtain⟨k,hk⟩:∃k:Nat,k=(i-1).toNat:=⟨_,rfl⟩;have eC:k<aA x.ms:=by omega
  have hik:i=(k:Int)+1:=by omega
  have hP:=aHT eC;rw [<-hik] at hP;rw [hP.1,hP.2];have em:i-1=(k:Int):=by omega
  have h3:¬i>(aA x.ms:Int):=by omega
  clear hP hk hik h2;unfold ak.val at*;obtain⟨b,o,hA,hb,d0,d1⟩:=FB HS.o eC;rw [hA] at aY jG d0 d1 ⊢;have xW:=η hb;generalize x.ms[k]=p at*;go_enter a0G,a0Z
  go_wp2_with fail
  exact bodyPost_ret (v:=bB #[bO #[ν p.a,ν p.b],ν 0]) (by simp [results,a0n,go_sem]) rfl ⟨rfl,by repeat (first|exact aY.o|refine Di ?_ (by simp) _|refine qj ?_ (by simp) _)⟩
 have hP:=a4z (x:=x) (i:=i) (by unfold F7;omega);rw [hP.1,hP.2];clear hP;unfold ak.val at*;go_enter a0G,a0Z
 go_wp2_with fail
 exact bodyPost_ret (v:=bB #[bO #[ν 0,ν 0],ν 9]) (by simp [results,a0n,go_sem]) rfl ⟨rfl,by repeat (first|exact aY.o|refine Di ?_ (by simp) _|refine qj ?_ (by simp) _)⟩
def F5(p q:Int×Int):Int:=if qR p.1 q.1≠0 then qR p.1 q.1 else qR p.2 q.2
def pE(p:Int×Int):Int:=p.1*18446744073709551616+p.2
theorem aH5 {p q:Int×Int}(hp:aL p.2)(hq:aL q.2):F5 p q<0↔pE p<pE q:=by obtain⟨a,b⟩:=p;obtain⟨c,d⟩:=q;unfold aL at hp hq;simp only [F5,qR,pE] at*;split<;>split at* <;>(try split at*)<;>(try split)<;>omega
def CZ(w:aJ)(B:Nat)(A:Option ai)(ks:List (Int×Int)):Prop:=
 ∀j (hj:j<aA ks),∃b o g c,A=aC ⟨b,o,aB⟩/\b<B/\w.cell? ⟨b,o+j,aB⟩=aC (aH (aC ⟨g,0,aB⟩) 2 c)/\g<B/\w.cell? ⟨g,0,aB⟩=aC (ν ks[j].1)/\w.cell? ⟨g,1,aB⟩=aC (ν ks[j].2)
theorem CZ.keep {w w':aJ} {B:Nat} {A:Option ai} {ks:List (Int×Int)}(h:CZ w B A ks)(hk:∀b o,b<B->w'.cell? ⟨b,o,aB⟩=w.cell? ⟨b,o,aB⟩):CZ w' B A ks:=λj hj=>by obtain⟨b,o,g,c,h1,h2,h3,h4,h5,h6⟩:=h j hj;exact⟨b,o,g,c,h1,h2,(hk _ _ h2).trans h3,h4,(hk _ _ h4).trans h5,(hk _ _ h4).trans h6⟩
theorem aDn(p q:Int×Int)(g1 c1 g2 c2:Nat)(w:aJ)(a0:w.cell? ⟨g1,0,aB⟩=aC (aG aF p.1))(a1:w.cell? ⟨g1,1,aB⟩=aC (aG aF p.2))(b0:w.cell? ⟨g2,0,aB⟩=aC (aG aF q.1))(b1:w.cell? ⟨g2,1,aB⟩=aC (aG aF q.2)):
 aQ aM 248 #[aH (aC ⟨g1,0,aB⟩) 2 c1,aH (aC ⟨g2,0,aB⟩) 2 c2] w λe w'=>e=aU (ν (F5 p q))/\w=w':=by
 have wB:=η (λW=>Uh p.1 q.1 W);have kE:=η (λW=>Uh p.2 q.2 W);unfold F5;obtain⟨x,hx⟩:∃x,x=qR p.1 q.1:=⟨_,rfl⟩;obtain⟨y,hy⟩:∃y,y=qR p.2 q.2:=⟨_,rfl⟩;rw [<-hx] at wB ⊢;rw [<-hy] at kE ⊢;clear hx hy;by_cases h0:x≠0
 ·rw [ifP h0];have hx1:(x !=0)=aO:=by simpa using h0
  clear h0;go_enter a0P,a0i
  go_wp2_with fail
  refine uY 1 ?_;rw [eA];go_wp2_with (go_at_call 213;refine(wB.o _).mono ?_;rintro e w' ⟨rfl,rfl⟩)
  go_ret;exact⟨rfl,rfl⟩
 have hx0:x=0:=by omega
 subst hx0;rw [ifN (by simp)];clear h0;by_cases h1:y≠0
 ·have K3:(y==0)=aP:=by simpa using h1
  have Hu:(y !=0)=aO:=by simpa using h1
  clear h1;go_enter a0P,a0i
  go_wp2_with fail
  refine uY 2 ?_;rw [eA];go_wp2_with (go_at_call 213;refine(wB.o _).mono ?_;rintro e w' ⟨rfl,rfl⟩)
  rw [eA];go_wp2_with (go_at_call 213;refine(kE.o _).mono ?_;rintro e w' ⟨rfl,rfl⟩)
  go_ret;exact⟨rfl,rfl⟩
 have K3:y=0:=by omega
 subst K3;clear h1;go_enter a0P,a0i
 go_wp2_with fail
 refine uY 3 ?_;rw [eA];go_wp2_with (go_at_call 213;refine(wB.o _).mono ?_;rintro e w' ⟨rfl,rfl⟩)
 rw [eA];go_wp2_with (go_at_call 213;refine(kE.o _).mono ?_;rintro e w' ⟨rfl,rfl⟩)
 rw [eA];go_wp2_with fail
 go_ret;exact⟨rfl,rfl⟩
theorem aJJ(p q:Int×Int)(g1 c1 g2 c2:Nat)(w:aJ)(a0:w.cell? ⟨g1,0,aB⟩=aC (aG aF p.1))(a1:w.cell? ⟨g1,1,aB⟩=aC (aG aF p.2))(b0:w.cell? ⟨g2,0,aB⟩=aC (aG aF q.1))(b1:w.cell? ⟨g2,1,aB⟩=aC (aG aF q.2)):
 aQ aM 209 #[aH (aC ⟨g1,0,aB⟩) 2 c1,aH (aC ⟨g2,0,aB⟩) 2 c2] w λe w'=>e=aU (ν (F5 p q))/\w=w':=by
 have HC:=η (aDn p q g1 c1 g2 c2 w a0 a1 b0 b1);go_enter func209,ntmps209
 go_wp2_with (go_at_call 248;refine HC.o.mono ?_;rintro e w' ⟨rfl,rfl⟩)
 go_ret;exact⟨rfl,rfl⟩
theorem aIQ(ks:List (Int×Int))(bc:Nat)(A:Option ai)(c:Nat)(x y:Nat)(hx:x<aA ks)(hy:y<aA ks)(w:aJ)(hc:w.cell? ⟨bc,0,aB⟩=aC (aH A (aA ks) c))(hk:CZ w w.heap.size A ks):
 aQ aM 208 #[ν (x:Int),ν (y:Int),π bc] w λe w'=>e=aU (ν (F5 ks[x] ks[y]))/\∃q,w'=w.drewN q:=by
 obtain⟨b,o,g1,c1,rfl,h2,h3,h4,h5,h6⟩:=hk x hx;obtain⟨b',o',g2,c2,e,i2,i3,i4,i5,i6⟩:=hk y hy;injection e with e;injection e with e1 e2;subst e1 e2;have HC:Hid (∀n,aQ aM 209 #[aH (aC ⟨g1,0,aB⟩) 2 c1,aH (aC ⟨g2,0,aB⟩) 2 c2] (w.drewN n) λe w'=>e=aU (ν (F5 ks[x] ks[y]))/\w'=w.drewN n):=η (λn=>(aJJ ks[x] ks[y] g1 c1 g2 c2 (w.drewN n) h5 h6 i5 i6).mono λ_ _ ⟨a,b⟩=>⟨a,b.symm⟩);have j1:(0:Int)<=(x:Int):=by omega
 have j2:(x:Int)<(aA ks:Int):=by omega
 have j3:(0:Int)<=(y:Int):=by omega
 have j4:(y:Int)<(aA ks:Int):=by omega
 go_enter func208,ntmps208
 go_wp2
 go_quiet ((go_at_call 209;exact IX (HC _)))
 go_wp2
 go_ret;exact⟨rfl,_,rfl⟩
section
open Go.Lib Go.Sort Go.Shelf Go.Proofs.YtdokipdchlcmeaaGreat.oh Go.Proofs.YtdokipdchlcmeaaGreat.ShareLaw
def N1(ks:List (Int×Int))(z:Int):Int:=pE (ks.getD z.toNat (0,0))
structure JD(ks:List (Int×Int))(is:List Nat):Prop where
 len:aA is=aA ks
 lt:∀i∈is,i<aA ks
 all:∀j,j<aA ks->j∈is
 vk:is.Pairwise (λa b:Nat=>oh.L (N1 ks) (a:Int) (b:Int))
def SM(ks:List (Int×Int))(w:aJ)(e:di)(w':aJ):Prop:=
 ∃bw is,e=aU (aH (aC ⟨bw,0,aB⟩) (aA ks) (aA ks))/\JD ks is/\w.heap.size<=bw/\(∀t (ht:t<aA is),w'.cell? ⟨bw,t,aB⟩=aC (ν (is[t]:Int)))/\bw<w'.heap.size/\β w w'
theorem aGn {ks:List (Int×Int)} {f g:Nat->Int}(hm:cX f g 0 (aA ks))(hf:∀p,p<aA ks->f p=p)(hs:cH (N1 ks) g 0 (aA ks)):∃is,JD ks is/\∀t (ht:t<aA is),g t=(is[t]:Int):=by
 have hex:∀t,t<aA ks->∃m:Nat,m<aA ks/\g t=(m:Int):=λt ht=>by obtain⟨j,_,hj,e⟩:=hm.to t (bL _) ht;exact⟨j,hj,by rw [e,hf j hj]⟩
 have hn:∀t,t<aA ks->((g t).toNat<aA ks/\((g t).toNat:Int)=g t):=λt ht=>by obtain⟨m,h1,h2⟩:=hex t ht;rw [h2];simpa using h1
 refine⟨(dQ (aA ks)).map λt=>(g t).toNat,⟨by simp,λi hi=> ?_,λj hj=> ?_, ?_⟩,λt ht=> ?_⟩
 ·obtain⟨t,ht,rfl⟩:=dV.1 hi;exact(hn t (nH.1 ht)).1
 ·obtain⟨i,_,hi,e⟩:=hm.of j (bL _) hj;refine dV.2 ⟨i,nH.2 hi, ?_⟩;rw [<-e,hf j hj];simp
 ·rw [B8];refine OW ?_ (List.pairwise_lt_range (n:=aA ks));intro a b ha hb hab;have h1:=hn a (nH.1 ha);have h2:=hn b (nH.1 hb);rw [h1.2,h2.2];exact hs a b (bL _) hab (nH.1 hb)
 simp only [iK,List.length_range] at ht;simp only [wQ,List.getElem_range];exact(hn t ht).2.symm
theorem aK9(ks:List (Int×Int))(A:Option ai)(c bc bw:Nat)(w:aJ)(hn:aA ks<=1000000)(hI:∀p∈ks,aL p.2)(hc:w.cell? ⟨bc,0,aB⟩=aC (aH A (aA ks) c))(hk:CZ w bw A ks)(hw:fR w bw 3 (eE (aA ks) λi=>(i:Int)))(h1:bc<bw)(h5:bw<w.heap.size):
 aQ aM 207 #[aH (aC ⟨bw,0,aB⟩) (aA ks) (aA ks),.func (.func 208) #[] #[π bc]] w λe w'=>e=aU (bB #[])/\∃is,JD ks is/\(∀t (ht:t<aA is),w'.cell? ⟨bw,t,aB⟩=aC (ν (is[t]:Int)))/\w.grownBy w' (aC bw):=by
 have hlen:(eE (aA ks) λi=>(i:Int)).toArray.size=aA ks:=by simp [qh]
 have hH:Holds (aG aF) w bw 0 (eE (aA ks) λi=>(i:Int)).toArray:=by
  intro j hj;rw [hlen] at hj;refine⟨?_,hw.free _⟩;have hl:0+j<aA (eE (aA ks) λi=>(i:Int)):=by rw [qh];omega
  rw [hw.cell hl];have e:=Gl (aA ks) (λi=>(i:Int)) hj;unfold fn at e;rw [e,Dd];simp
 have R:Row1 (aG aF) w bw 0 (eE (aA ks) λi=>(i:Int)).toArray:=⟨a2d,hH,h5⟩;have T:sT w bw 0 (aA ks) 208 #[π bc] (λx y=>F5 (ks.getD x.toNat (0,0)) (ks.getD y.toNat (0,0))) (N1 ks) (λx=>∃m:Nat,x=m/\m<aA ks) (eE (aA ks) λi=>(i:Int)).toArray:=by
  refine⟨R,hlen,by omega,enters_of func208 (by kernel_rfl) rfl, ?_, ?_⟩
  ·rintro m os dk hdk x y ⟨xn,rfl,hx⟩ ⟨yn,rfl,hy⟩;have hg:w.grownBy (sortWorld (aG aF) w bw 0 m dk os) (aC bw):=grownBy_sortedI dk;have jt:∀b o,b<bw->(sortWorld (aG aF) w bw 0 m dk os).cell? ⟨b,o,aB⟩=w.cell? ⟨b,o,aB⟩:=λb o hb=>hg.cell_far ⟨b,o,aB⟩ (LS hb h5) (λe=>Nat.ne_of_lt hb (od e))
   have Jp:CZ (sortWorld (aG aF) w bw 0 m dk os) (sortWorld (aG aF) w bw 0 m dk os).heap.size A ks:=λj hj=>by obtain⟨b,o,g,c,q1,q2,q3,q4,q5,q6⟩:=hk.keep jt j hj;have hz:=cR h5 hg.size;exact⟨b,o,g,c,q1,LS q2 hz,q3,LS q4 hz,q5,q6⟩
   refine(aIQ ks bc A c xn yn hx hy _ ((jt bc 0 h1).trans hc) Jp).mono ?_;rintro e w' ⟨rfl,q,rfl⟩;refine⟨by simp [hx,hy],q, #[], ?_⟩;rw [grow_empty]
  rintro x y ⟨xn,rfl,hx⟩ ⟨yn,rfl,hy⟩;unfold N1;simp only [Int.toNat_natCast];have e1:ks.getD xn (0,0)=ks[xn]:=by simp [List.getD,hx]
  have e2:ks.getD yn (0,0)=ks[yn]:=by simp [List.getD,hy]
  rw [e1,e2];exact aH5 (hI _ (cK hx)) (hI _ (cK hy))
 have RW:Rw w bw 0 (aA ks) (λx=>∃m:Nat,x=m/\m<aA ks) (eE (aA ks) λi=>(i:Int)).toArray w:=⟨hlen,SW.start hH,λp hp=>⟨p,Gl _ _ hp,hp⟩⟩;refine(a6r T (aA ks) _ w RW hn (λp hp=>Gl _ _ hp)).mono ?_;rintro e w' ⟨rfl,d',mv,hs,hR⟩;obtain⟨is,ho,his⟩:=aGn mv (λp hp=>Gl _ _ hp) hs;refine⟨rfl,is,ho, ?_, ?_⟩
 ·intro t ht;have:=hR.c T t (by rw [<-ho.len];exact ht);rw [Nat.zero_add] at this;rw [this,his t ht]
 obtain⟨m,os,e⟩:=hR.sw;rw [e];exact grownBy_sortedI d'
theorem a5b(ks:List (Int×Int))(A:Option ai)(c:Nat)(w:aJ)(hn:aA ks<=1000000)(hI:∀p∈ks,aL p.2)(hk:CZ w w.heap.size A ks):
 aQ aM 162 #[aH A (aA ks) c] w (SM ks w):=by
 have DO:=a4r (aA ks) hn (w.alloc (aK #[aH A (aA ks) c] 235));have aV:Hid (β w ((w.alloc (aK #[aH A (aA ks) c] 235)).alloc (aK (l9 (aA ks) (aG aF 0)) 3))):=η (σ.alloc (by simp) _);have tx:Hid (fR ((w.alloc (aK #[aH A (aA ks) c] 235)).alloc (aK (l9 (aA ks) (aG aF 0)) 3)) (w.heap.size+1) 3 (eE (aA ks) (λi=>if i<0 then (i:Int) else 0))):=η (by rw [a6S (g:=λi=>(i:Int))];have h1:=cT (w.alloc (aK #[aH A (aA ks) c] 235)) (aK (l9 (aA ks) (aG aF 0)) 3);rw [Cr] at h1;unfold fR;rw [h1];simp);have jG:Hid (((w.alloc (aK #[aH A (aA ks) c] 235)).alloc (aK (l9 (aA ks) (aG aF 0)) 3)).heap[w.heap.size]? =aC (aK #[aH A (aA ks) c] 235 (0,0))):=η ((fG _ _ (by simp)).trans (cT w _));have hz2:((w.alloc (aK #[aH A (aA ks) c] 235)).alloc (aK (l9 (aA ks) (aG aF 0)) 3)).heap.size=w.heap.size+1+1:=by simp
 have y8:=η hz2;have HK:=η hk;have HI:=η hI;rw [Cr] at DO;clear hk hI hz2;go_enter func162,ntmps162
 go_wp2_with fail
 clear DO;generalize (w.alloc (aK #[aH A (aA ks) c] 235)).alloc (aK (l9 (aA ks) (aG aF 0)) 3)=w2 at*;obtain⟨bc,gG⟩:∃bc,bc=w.heap.size:=⟨_,rfl⟩;have Nk:=η gG;rw [<-gG] at tx jG y8 ⊢;clear gG;have OL:Hid (bC (λk=>k=bc+1) w2 w2):=η (bC.refl _ _);go_loopw [4,10] (λ_ i wr=>∃k:Nat,k<=aA ks/\i=ν (k:Int)/\Hid (fR wr (bc+1) 3 (eE (aA ks) (λi=>if i<k then (i:Int) else 0)))/\Hid (bC (λk=>k=bc+1) w2 wr)) (λ_ i _=>aA ks-(ag i).toNat)
 case atStart=>exact⟨0,bL _,rfl,tx,OL⟩
 case round=>
  clear tx OL;obtain⟨k,hk,rfl,HR,HU⟩:=hrel;by_cases hlt:k<aA ks
  ·have c0:=HR.o.cell (mk0 _ k (λi=>(i:Int)) hlt);have f0:=HR.o.free k;have iV:bc+1<wr.heap.size:=by have:=HU.o.size;have:=y8.o;omega
   have eV:(0:Int)<=(k:Int):=by omega
   have hkb:(k:Int)<(aA ks:Int):=by omega
   have lL:Hid (fR (wr.setCell ⟨bc+1,k,aB⟩ (ν (k:Int))) (bc+1) 3 (eE (aA ks) (λi=>if i<k+1 then (i:Int) else 0))):=η (by have h1:=HR.o.set k (k:Int);rw [RY (g:=λi=>(i:Int))] at h1;exact h1);have HU1:Hid (bC (λk=>k=bc+1) w2 (wr.setCell ⟨bc+1,k,aB⟩ (ν (k:Int)))):=η (HU.o.setCell (p:=⟨bc+1,k,aB⟩) (aS rfl) _);clear HR HU;go_wp2_with fail
   go_roundw
   case rel=>exact⟨k+1,by omega,by go_num,lL,HU1⟩
   case measure=>simp [ag];omega
  obtain rfl:k=aA ks:=by omega
  have iV:bc+1<wr.heap.size:=by have:=HU.o.size;have:=y8.o;omega
  have L9:=HR.o;rw [RX] at L9;have ZP:=η L9;have hcb:wr.heap[bc]? =aC (aK #[aH A (aA ks) c] 235 (0,0)):=(HU.o.keep bc (by have:=y8.o;omega) (by omega)).trans jG.o;have cE:Hid (β w wr):=η (aV.o.trans (HU.o.toBelow aV.o.size (λk hk=>by have:=Nk.o;omega)));have HS:=η (aK9 ks A c bc (bc+1) wr hn HI.o (ρ hcb) (λj hj=>by obtain⟨b,o,g,c',q1,q2,q3,q4,q5,q6⟩:=HK.o j hj;have:=Nk.o;exact⟨b,o,g,c',q1,by omega,((ez (cE.o)).1 _ _ q2).trans q3,by omega,((ez cE.o).1 _ _ q4).trans q5,((ez cE.o).1 _ _ q4).trans q6⟩) ZP.o (by omega) iV);clear L9 ZP HR hcb HU;go_wp2_with (go_at_call 207;refine HS.o.mono ?_;rintro e w5 ⟨rfl,is,ho,hc5,eZ⟩;have HO:=η ho;have AX:=η hc5;have Ab:=η eZ;clear ho hc5 eZ)
  go_ret;refine⟨bc+1,is,rfl,HO.o,by have:=Nk.o;omega,AX.o,cR iV Ab.o.size, ?_⟩;exact cE.o.grown Ab.o cE.o.size (λk hk=>by injection hk with hk;have:=Nk.o;omega)
end
section
open Go.Maps Go.MapKept Go.ChangeMaps
section
variable {κ:Type} {P:Program} {k:bX} {enc:κ->aN}
structure qM(P:Program)(k:bX)(enc:κ->aN)(w:aJ)(b r:Nat)(m:List (κ×aN))(done:List κ):Prop where
 it:∃es clock since tR c0,w.heap[b]? =aC (.map es clock)/\es.toList.map (λe=>(e.key,e.val))=m.map (λp=>(enc p.1,p.2))/\Stamped es clock/\w.heap[r]? =aC (.mapIter (aC b) since tR c0)/\(∀x∈es.toList,x.born<since)/\since<=c0/\since<=clock/\
  (∀e∈es.toList,∀q,e.key=enc q->(tR.contains e.born=aO↔q∈done))/\tR.size=aA done
 apart:vr m
 once:done.Nodup
 sub:∀q∈done,∃v,(q,v)∈m
variable {w w':aJ} {b r:Nat} {m:List (κ×aN)} {done:List κ}
theorem qM.ne(h:qM P k enc w b r m done):r≠b:=by obtain⟨es,clock,since,tR,c0,hb,_,_,hr,_⟩:=h.it;rintro rfl;rw [hb] at hr;cases hr
theorem qM.aI4(h:qM P k enc w b r m done)(eb:w'.heap[b]? =w.heap[b]?)(er:w'.heap[r]? =w.heap[r]?):qM P k enc w' b r m done:=by obtain⟨es,clock,since,tR,c0,hb,hm,hs,hr,ho,h1,h2,h3,h9⟩:=h.it;exact⟨⟨es,clock,since,tR,c0,eb.trans hb,hm,hs,er.trans hr,ho,h1,h2,h3,h9⟩,h.apart,h.once,h.sub⟩
def seenAt(w:aJ)(r:Nat):Nat:=match w.heap[r]? with
 |some (.mapIter _ _ tR _)=>tR.size
 |_=>0
theorem qM.seen(h:qM P k enc w b r m done):seenAt w r=aA done:=by obtain⟨es,clock,since,tR,c0,_,_,_,hr,_,_,_,_,h9⟩:=h.it;unfold seenAt;rw [hr];exact h9
theorem qM.count [DecidableEq κ](h:qM P k enc w b r m done):aA done<=aA m:=by
 have h1:done.Subset (m.map (·.1)):=λq hq=>by obtain⟨v,hv⟩:=h.sub q hq;exact dV.2 ⟨_,hv,rfl⟩
 have:=h.once.length_le_of_subset h1;simpa using this
theorem eU.aJI {t e:bX}(ht:P.underlying t=aC (.map k e))(h:eU P k enc w b m)(hs:∃es clock,w.heap[b]? =aC (.map es clock)/\Stamped es clock):
 ∃w',(a9G t (.map (aC b))).run P w= .ok (π w.heap.size) w'/\qM P k enc w' b w.heap.size m []/\β w w'/\w'.heap.size=w.heap.size+1:=by
 obtain⟨es,clock,hb,hst⟩:=hs;obtain⟨Gi,Ga,hb0,hm⟩:=h.blk;obtain⟨rfl,rfl⟩:es=Gi/\clock=Ga:=by rw [hb] at hb0;simpa using hb0
 have hlt:=(fY.1 hb).1;refine⟨w.alloc (.mapIter (aC b) clock #[] clock), ?_,⟨⟨es,clock,clock, #[],clock,(fG w _ hlt).trans hb,hm,hst,cT w _,λx hx=>((stamped_iff es clock).1 hst).1 x hx,aZ _,aZ _,λe he q hq=>by simp,rfl⟩,h.apart,List.nodup_nil,by simp⟩,(aX _ _).alloc (aZ _) _,by simp⟩;simp [a9G,run_underlying ht,B9 hb,uE]
theorem qM.next(Vl:∀q q':κ,enc q=enc q'->q=q')(h:qM P k enc w b r m done)(ty:bX):
 ((∀p∈m,p.1∈done)/\(a9F (π r) aP ty).run P w= .ok (bB #[bM aP]) w)\/
 ∃q v w',(q,v)∈m/\q∉done/\(a9F (π r) aP ty).run P w= .ok (bB #[bM aO,enc q,v]) w'/\qM P k enc w' b r m (done++ [q])/\w.grownBy w' (aC r)/\w'.heap.size=w.heap.size/\
  (a9D (π r)).run P w'= .ok (bB #[enc q,v]) w':=by
 have hne:=h.ne;obtain⟨es,clock,since,tR,c0,hb,hm,hs,hr,hold,h1,h2,h3,h9⟩:=h.it;have Vs:∀p∈m,∃e∈es.toList,e.key=enc p.1/\e.val=p.2:=λp hp=>by
  have h4:(enc p.1,p.2)∈es.toList.map (λe=>(e.key,e.val)):=by rw [hm];exact dV.2 ⟨p,hp,rfl⟩
  obtain⟨e,he,e'⟩:=dV.1 h4;injection e' with a b;exact⟨e,he,a,b⟩
 have aFw:∀e∈es.toList,∃p∈m,e.key=enc p.1/\e.val=p.2:=λe he=>by
  have h4:(e.key,e.val)∈m.map (λp=>(enc p.1,p.2)):=by rw [<-hm];exact dV.2 ⟨e,he,rfl⟩
  obtain⟨p,hp,e'⟩:=dV.1 h4;injection e' with a b;exact⟨p,hp,a.symm,b.symm⟩
 rcases run_next_at (P:=P) w ty r b since c0 tR es clock hr hb hold h1 with⟨h0,hrun⟩|⟨e,he,w1,rO,hrun⟩
 ·refine aS ⟨λp hp=> ?_,hrun⟩;obtain⟨e,he,hk,_⟩:=Vs p hp;exact(h3 e he p.1 hk).1 (all_seen es tR h0 e he)
 obtain⟨MT,hes⟩:=mem_left he;obtain⟨p,hp,hk,hv⟩:=aFw e MT;have vQ:p.1∉done:=λhd=>by have:=(h3 e MT p.1 hk).2 hd;rw [hes] at this;cases this
 have hr1:w1.heap[r]? =aC (.mapIter (aC b) since tR c0):=by rcases rO with rfl|rfl<;>exact hr
 have hb1:w1.heap[b]? =aC (.map es clock):=by rcases rO with rfl|rfl<;>exact hb
 have Ez:=heap_set (o':= .mapIter (aC b) since (tR.push e.born) clock) hr1;have hb':=(Ez.2 b (λe1=>hne e1.symm)).trans hb1;have a3X:=((stamped_iff es clock).1 hs).2.1;refine aT ⟨p.1,p.2,_,hp,vQ,by rw [<-hk,<-hv];exact hrun,⟨⟨es,clock,since,tR.push e.born,clock,hb',hm,hs,Ez.1,hold,h2,h2,λx hx q hq=> ?_,by simp [h9]⟩,h.apart, ?_, ?_⟩, ?_, ?_,by rw [<-hk,<-hv];exact run_entry_at _ r b since tR es clock e Ez.1 hb' MT a3X⟩
 ·rw [contains_push];by_cases Qd:x=e
  ·subst Qd;have:q=p.1:=Vl _ _ (hq.symm.trans hk);subst this;simp
  have Q0:x.born≠e.born:=λhb2=>Qd (by obtain⟨i,hi,rfl⟩:=List.getElem_of_mem hx;obtain⟨j,hj,rfl⟩:=List.getElem_of_mem MT;have:=(List.getElem_inj (xs:=es.toList.map (·.born)) (h₀:=by simpa using hi) (h₁:=by simpa using hj) a3X).1 (by simpa using hb2);subst this;rfl)
  have hqp:q≠p.1:=λe1=>Qd (entry_eq_of_key ((stamped_iff es clock).1 hs).2.2 hx MT (by rw [hq,e1,hk]))
  simpa [Q0,hqp] using h3 x hx q hq
 ·exact List.nodup_append.2 ⟨h.once,by simp,by intro a ha b' hb2;simp at hb2;subst hb2;intro e1;subst e1;exact vQ ha⟩
 ·intro q hq;rcases gJ.1 hq with hq|hq
  ·exact h.sub q hq
  simp at hq;subst hq;exact⟨p.2,hp⟩
 ·rcases rO with rfl|rfl<;>exact⟨rfl,rfl,rfl,by simp [setBlock],λi _ hi=>Ez.2 i (λe1=>hi (by rw [e1]))⟩
 rcases rO with rfl|rfl<;>simp [setBlock]
end
section
variable {κ:Type} {P:Program} {k:bX} {enc:κ->aN} {b r:Nat} {m:List (κ×aN)} {done:List κ} {ops:Array Oper} {rest:List Oper} {o:Oper} {a:Act} {Q:Exit->Act->aJ->Prop}
theorem aLI(w:aJ)(hg:o.guard=aB)(mo:Operand)(t:bX)(hop:o.op=Op.range t mo) {e:bX}(ht:P.underlying t=aC (.map k e))(hm:a.eval mo= .map (aC b))(h:eU P k enc w b m)(hs:∃es clock,w.heap[b]? =aC (.map es clock)/\Stamped es clock)
 (hK:∀w',qM P k enc w' b w.heap.size m []->β w w'->w'.heap.size=w.heap.size+1->wpList P ops Q rest (a.put o.dst (π w.heap.size)) w'):
 wpList P ops Q (o::rest) a w:=by
 refine wpList_plain hg λK' hK'=> ?_
 obtain⟨w',hrun,r1,r2,r3⟩:=h.aJI ht hs;unfold Oper.wp;simp [execOp,hop,hm,hrun,uE];exact hK' _ _ (hK w' r1 r2 r3)
theorem aLH(w:aJ)(Vl:∀q q':κ,enc q=enc q'->q=q')(hg:o.guard=aB)(it:Operand)(hop:o.op=Op.next it aP)(hit:a.eval it=bH (aC ⟨r,0,aB⟩))(h:qM P k enc w b r m done)
 (hDone:(∀p∈m,p.1∈done)->wpList P ops Q rest (a.put o.dst (bB #[bM aP])) w)
 (hMore:∀q v w',(q,v)∈m->q∉done->qM P k enc w' b r m (done++ [q])->w.grownBy w' (aC r)->w'.heap.size=w.heap.size->(a9D (π r)).run P w'= .ok (bB #[enc q,v]) w'->wpList P ops Q rest (a.put o.dst (bB #[bM aO,enc q,v])) w'):
 wpList P ops Q (o::rest) a w:=by
 refine wpList_plain hg λK' hK'=> ?_
 unfold Oper.wp;rcases h.next Vl o.type with⟨hd,hrun⟩|⟨q,v,w',hq,vQ,hrun,r1,r2,r3,r4⟩
 ·simp [execOp,hop,hit,hrun,uE];exact hK' _ _ (hDone hd)
 simp [execOp,hop,hit,hrun,uE];exact hK' _ _ (hMore q v w' hq vQ r1 r2 r3 r4)
end
end
theorem Qu(x:Lg):∀u∈x.cells,u.oneCell'=aO:=by intro u hu;simp [Lg.cells] at hu;rcases hu with rfl|rfl|rfl<;>rfl
theorem Qt(L:List Lg)(x:Lg):bA (L++ [x])=bA L++x.cells:=by simp [bA]
theorem Qs:(aM.info? 76).map (λi=>(i.zero,i.size,i.bytes))=aC (aC (bO #[aG aF 0,aG aF 0,aG aF 0]),3,24):=by kernel_rfl
theorem M4 {α:Type}(p:α->Bool) {l:List α} {k:Nat}(hk:k<aA l):(l.take (k+1)).filter p=(l.take k).filter p++(if p l[k] then [l[k]] else []):=by rw [fF hk,List.filter_append,List.filter_cons];simp
theorem M3 {α:Type}(p:α->Bool)(l:List α)(k:Nat):aA ((l.take k).filter p)<=aA l:=cC (qN _ _) (by rw [ur];omega)
def lX(L:List Lg):List Lg:=L.filter λx=>decide (0<x.n)
def j9(L:List Lg):List Lg:=(L.filter λx=>decide (x.n<0)).map λx=>⟨x.m,x.a,-x.n⟩
def j7(a:Int)(L:List Lg):List Lg:=L.filter λx=>x.a==a
theorem aDG {L:List Lg} {k:Nat}(hk:k<aA L):j9 (L.take (k+1))=j9 (L.take k)++(if L[k].n<0 then [⟨L[k].m,L[k].a,-L[k].n⟩] else []):=by unfold j9;rw [M4 _ hk,dY];by_cases h:L[k].n<0<;>simp [h]
theorem a1k(L:List Lg)(k:Nat):aA (j9 (L.take k))<=aA L:=by unfold j9;rw [iK];exact M3 _ _ _
def sj(L:List Lg):Int:=if L.any (λx=>x.n==fj)=aO then 2 else 0
theorem aHg(L:List Lg)(A:Option ai)(c:Nat)(w:aJ)(hs:aW w w.heap.size A (bA L))(hl:aA L<=100000):
 aQ aM 166 #[aH A (aA L) c] w (nC 76 3 (aA (lX L)) (bA (lX L)) w):=by
 have HS:=η hs;have aY:Hid (β w w):=η (aX _ _);have ly:Hid (w.ownsRow w.heap.size 76 3 (aH aB 0 0) (aA (lX (L.take 0))) (bA (lX (L.take 0)))):=η (by rw [nJ];exact gC _ _ _ _);obtain⟨ic,DM,rU,rV,rW⟩:=dK Qs;go_enter func166,ntmps166
 go_wp2
 go_loopw [3,5,8] (λv _ i wr=>∃k:Nat,k<=aA L/\i=ν (k:Int)/\Hid (β w wr)/\Hid (wr.ownsRow w.heap.size 76 3 v (aA (lX (L.take k))) (bA (lX (L.take k))))) (λ_ _ i _=>aA L-(ag i).toNat)
 ·exact⟨0,bL _,rfl,aY,ly⟩
 ·
  obtain⟨k,hk,rfl,HB,HO⟩:=hrel;obtain⟨Ax,cx,oz⟩:=bJ HO.o;subst oz;by_cases hlt:k<aA L
  ·obtain⟨be,oe,rfl,lO,e0,e1,e2⟩:=oG ((HS.o.below HB.o).mono HB.o.size) hlt;have cG:Hid (lX (L.take (k+1))=lX (L.take k)++(if decide (0<L[k].n) then [L[k]] else [])):=η (M4 (λx:Lg=>decide (0<x.n)) hlt);have gV:aA (lX (L.take k))<=100000:=cC (M3 _ L k) hl;have eV:(0:Int)<=(k:Int):=by omega
   have hkb:(k:Int)<(aA L:Int):=by omega
   generalize L[k]=x at*;generalize lX (L.take k)=D at*;obtain⟨xm,xa,xn⟩:=x;simp only at e0 e1 e2 cG;by_cases hn:0<xn
   ·have HD:Hid (lX (L.take (k+1))=D++ [⟨xm,xa,xn⟩]):=η (by rw [cG.o,ifP (by simpa using hn)]);have aV:Hid (β w ((wr.alloc (aK #[ν xm,ν xa,ν xn] 76)).alloc (aK #[ν xm,ν xa,ν xn] 76))):=η ((HB.o.alloc HB.o.size _).alloc (by have:=HB.o.size;simp;omega) _);have dB:=η ((HO.o.alloc (aK #[ν xm,ν xa,ν xn] 76)).alloc (aK #[ν xm,ν xa,ν xn] 76));have hzz:w.heap.size<=wr.heap.size:=HB.o.size;go_wp2_with (at_builtin;refine wpList_append_lies _ rfl _ _ 39 rfl w.heap.size 76 ic _ 3 24 sU DM rU rV rW rfl (by omega) _ _ _ rfl dB.o ⟨wr.heap.size+1,0,aB⟩ 1 1 (Lg.cells ⟨xm,xa,xn⟩) rfl rfl (dM _ _ #[_,_,_] (by simp)) (Qu _) (by omega) (by simp only [bK];omega) (by omega) (by simp;omega) (wr.heap.size+1+1) (by simp) ?_)
    intro g3 sW w3 mJ gK _ _;have af:Hid (β w w3):=η (aV.o.grown gK (by simp;omega) (λj hj=>ei dB.o j hj));have cB:Hid (w3.ownsRow w.heap.size 76 3 (aH (aC ⟨g3,0,aB⟩) (aA D+1) sW) (aA (lX (L.take (k+1)))) (bA (lX (L.take (k+1))))):=η (by rw [HD.o,cL,Qt];exact mJ);go_wp2
    go_roundw
    ·exact⟨k+1,by omega,by go_num,af,cB⟩
    simp [ag];omega
   have HD:Hid (lX (L.take (k+1))=D):=η (by rw [cG.o,ifN (by simpa using hn)];simp);have Jq:xn<=0:=by omega
   have aV:Hid (β w (wr.alloc (aK #[ν xm,ν xa,ν xn] 76))):=η (HB.o.alloc HB.o.size _);have dB:Hid ((wr.alloc (aK #[ν xm,ν xa,ν xn] 76)).ownsRow w.heap.size 76 3 (aH Ax (aA D) cx) (aA (lX (L.take (k+1)))) (bA (lX (L.take (k+1))))):=η (by rw [HD.o];exact HO.o.alloc _);go_wp2
   go_roundw
   ·exact⟨k+1,by omega,by go_num,aV,dB⟩
   simp [ag];omega
  obtain rfl:k=aA L:=by omega
  have cF:=HO.o;rw [cU] at cF ⊢;have dB:=η cF;go_wp2
  go_ret;exact⟨_,rfl,dB.o,HB.o⟩
theorem aHf(L:List Lg)(A:Option ai)(c:Nat)(w:aJ)(hs:aW w w.heap.size A (bA L))(hl:aA L<=100000)(hI:∀x∈L,aL x.n):
 aQ aM 167 #[aH A (aA L) c] w λe w'=>β w w'/\((sj L=0/\∃v,e=aU (bB #[v,ν 0])/\w'.ownsRow w.heap.size 76 3 v (aA (j9 L)) (bA (j9 L)))\/(sj L=2/\e=aU (bB #[aH aB 0 0,ν 2]))):=by
 have HS:=η hs;have HI:=η hI;have wC:Hid ((L.take 0).any (λx=>x.n==fj)=aP):=η (by rw [nJ];rfl);have aY:Hid (β w w):=η (aX _ _);have ly:Hid (w.ownsRow w.heap.size 76 3 (aH aB 0 0) (aA (j9 (L.take 0))) (bA (j9 (L.take 0)))):=η (by rw [nJ];exact gC _ _ _ _);obtain⟨ic,DM,rU,rV,rW⟩:=dK Qs;clear hs hI;go_enter func167,ntmps167
 go_wp2_with fail
 go_loopw [4,6,7,8,11] (λv _ _ _ i wr=>∃k:Nat,k<=aA L/\i=ν (k:Int)/\Hid (β w wr)/\Hid (wr.ownsRow w.heap.size 76 3 v (aA (j9 (L.take k))) (bA (j9 (L.take k))))/\Hid ((L.take k).any (λx=>x.n==fj)=aP)) (λ_ _ _ _ i _=>aA L-(ag i).toNat)
 case atStart=>exact⟨0,bL _,rfl,aY,ly,wC⟩
 case round=>
  clear aY ly wC;obtain⟨k,hk,rfl,HB,HO,HE⟩:=hrel;obtain⟨Ax,cx,oz⟩:=bJ HO.o;subst oz;by_cases hlt:k<aA L
  ·obtain⟨be,oe,rfl,lO,e0,e1,e2⟩:=oG ((HS.o.below HB.o).mono HB.o.size) hlt;have cG:=η (aDG hlt);have Ia:=η (zM (λx:Lg=>x.n==fj) hlt);have Mt:=HI.o _ (cK hlt);have Dz:Hid ((L[k].n==fj)=aO->L.any (λx=>x.n==fj)=aO):=η (λh=>kK.2 ⟨_,cK hlt,h⟩);have gV:aA (j9 (L.take k))<=100000:=cC (a1k L k) hl;have eV:(0:Int)<=(k:Int):=by omega
   have hkb:(k:Int)<(aA L:Int):=by omega
   generalize L[k]=x at*;generalize j9 (L.take k)=D at*;obtain⟨xm,xa,xn⟩:=x;simp only at e0 e1 e2 cG Ia Mt Dz;by_cases hn:xn<0
   ·have Jq:decide (0<=xn)=aP:=decide_eq_false (by omega);have Fl:=η Mt;have Au:=η (λW=>R5 xn W Fl.o);by_cases Hi:xn=fj
    ·have mV:Hid (sj L=2):=η (by unfold sj;rw [ifP (Dz.o (by simpa using Hi))]);have tG:¬aL (-xn):=by rw [Hi];unfold aL fj;omega
     rw [(gh tG).1,(gh tG).2] at Au;have aV:Hid (β w (wr.alloc (aK #[ν xm,ν xa,ν xn] 76))):=η (HB.o.alloc HB.o.size _);clear Hi tG Mt cG Dz Ia Fl hn;go_wp2_with (go_at_call 169;refine(Au.o _).mono ?_;rintro e w3 ⟨rfl,rfl⟩)
     go_ret2;exact⟨aV.o,aT ⟨mV.o,rfl⟩⟩
    have tG:aL (-xn):=by have:=Fl.o;unfold aL fj at*;omega
    rw [(dy tG).1,(dy tG).2] at Au;have HD:Hid (j9 (L.take (k+1))=D++ [⟨xm,xa,-xn⟩]):=η (by rw [cG.o,ifP hn]);have xY:Hid ((L.take (k+1)).any (λx=>x.n==fj)=aP):=η (by rw [Ia.o,HE.o];simpa using Hi);have aV:Hid (β w (((wr.alloc (aK #[ν xm,ν xa,ν xn] 76)).setCell ⟨wr.heap.size,2,aB⟩ (ν (-xn))).alloc (aK #[ν xm,ν xa,ν (-xn)] 76))):=η (((HB.o.alloc HB.o.size _).setCell (p:=⟨wr.heap.size,2,aB⟩) HB.o.size _).alloc (by have:=HB.o.size;simp;omega) _);have hzz:w.heap.size<=wr.heap.size:=HB.o.size;have dB:=η (HO.o.alloc (aK #[ν xm,ν xa,ν (-xn)] 76));have cB:=η (dB.o.alloc (aK #[ν xm,ν xa,ν (-xn)] 76));clear Hi tG Mt cG Dz Ia Fl hn HE;go_wp2_with (first|(go_at_call 169;refine(Au.o _).mono ?_;rintro e w3 ⟨rfl,rfl⟩)|(at_builtin;refine wpList_append_lies _ rfl _ _ 39 rfl w.heap.size 76 ic _ 3 24 sU DM rU rV rW rfl (by omega) _ _ _ rfl cB.o ⟨wr.heap.size+1,0,aB⟩ 1 1 (Lg.cells ⟨xm,xa,-xn⟩) rfl rfl (dM _ _ #[_,_,_] (by simp)) (Qu _) (by omega) (by simp only [bK];omega) (by omega) (by simp;omega) (wr.heap.size+1+1) (by simp) ?_))
    intro g3 sW w3 mJ gK _ _;have af:Hid (β w w3):=η (((HB.o.alloc HB.o.size _).alloc (by simp;omega) _).grown gK (by simp;omega) (λj hj=>ei cB.o j hj));have dU:Hid (w3.ownsRow w.heap.size 76 3 (aH (aC ⟨g3,0,aB⟩) (aA D+1) sW) (aA (j9 (L.take (k+1)))) (bA (j9 (L.take (k+1))))):=η (by rw [HD.o,cL,Qt];exact mJ);clear mJ gK dB cB HO HB aV;go_wp2_with fail
    go_roundw
    case rel=>exact⟨k+1,by omega,by go_num,af,dU,xY⟩
    case measure=>simp [ag];omega
   have HD:Hid (j9 (L.take (k+1))=D):=η (by rw [cG.o,ifN hn];simp);have Jq:0<=xn:=by omega
   have xY:Hid ((L.take (k+1)).any (λx=>x.n==fj)=aP):=η (by rw [Ia.o,HE.o];simp [fj];omega);have aV:Hid (β w (wr.alloc (aK #[ν xm,ν xa,ν xn] 76))):=η (HB.o.alloc HB.o.size _);have dB:Hid ((wr.alloc (aK #[ν xm,ν xa,ν xn] 76)).ownsRow w.heap.size 76 3 (aH Ax (aA D) cx) (aA (j9 (L.take (k+1)))) (bA (j9 (L.take (k+1))))):=η (by rw [HD.o];exact HO.o.alloc _);clear hn cG HE Mt Ia Dz;go_wp2_with fail
   go_roundw
   case rel=>exact⟨k+1,by omega,by go_num,aV,dB,xY⟩
   case measure=>simp [ag];omega
  obtain rfl:k=aA L:=by omega
  have cF:=HO.o;rw [cU] at cF ⊢;have dB:=η cF;clear cF HO;rw [cU] at HE;have mV:Hid (sj L=0):=η (by unfold sj;rw [ifN (by rw [HE.o];simp)]);go_wp2_with fail
  go_ret2;exact⟨HB.o,aS ⟨mV.o,_,rfl,dB.o⟩⟩
def kZ(a:Int)(L:List Lg):List Int:=(j7 a L).map (·.n)
theorem aCH(a:Int) {L:List Lg} {k:Nat}(hk:k<aA L):kZ a (L.take (k+1))=kZ a (L.take k)++(if L[k].a=a then [L[k].n] else []):=by unfold kZ j7;rw [M4 _ hk,dY];by_cases h:L[k].a=a<;>simp [h]
theorem a1M(a:Int)(L:List Lg)(k:Nat):aA (kZ a (L.take k))<=aA L:=by unfold kZ j7;rw [iK];exact M3 _ _ _
theorem aCG {a:Int} {L:List Lg}(h:∀x∈L,aL x.n):∀y∈kZ a L,aL y:=by intro y hy;obtain⟨x,hx,rfl⟩:=dV.1 hy;exact h x (j6.1 hx).1
theorem a5M(L:List Lg)(a:Int)(A:Option ai)(c:Nat)(w:aJ)(hs:aW w w.heap.size A (bA L))(hl:aA L<=100000)(hI:∀x∈L,aL x.n):
 aQ aM 165 #[aH A (aA L) c,ν a] w λe w'=>e=aU (bB #[ν (gP (sumI (kZ a L))),ν (dL (sumI (kZ a L)))])/\β w w':=by
 have HS:=η hs;have HI:=η (aCG (a:=a) hI);have aY:Hid (β w w):=η (aX _ _);have ly:Hid (w.ownsRow w.heap.size 2 1 (aH aB 0 0) (aA (kZ a (L.take 0))) ((kZ a (L.take 0)).map (aG aF))):=η (by rw [nJ];exact gC _ _ _ _);obtain⟨ic,DM,rU,rV,rW⟩:=dK Mz;clear hs hI;go_enter func165,ntmps165
 go_wp2_with fail
 go_loopw [6,8,11] (λv _ i wr=>∃k:Nat,k<=aA L/\i=ν (k:Int)/\Hid (β w wr)/\Hid (wr.ownsRow w.heap.size 2 1 v (aA (kZ a (L.take k))) ((kZ a (L.take k)).map (aG aF)))) (λ_ _ i _=>aA L-(ag i).toNat)
 case atStart=>exact⟨0,bL _,rfl,aY,ly⟩
 case round=>
  clear aY ly;obtain⟨k,hk,rfl,HB,HO⟩:=hrel;obtain⟨Ax,cx,oz⟩:=bJ HO.o;subst oz;by_cases hlt:k<aA L
  ·obtain⟨be,oe,rfl,lO,e0,e1,e2⟩:=oG ((HS.o.below HB.o).mono HB.o.size) hlt;have cG:=η (aCH a hlt);have gV:aA (kZ a (L.take k))<=100000:=cC (a1M a L k) hl;have eV:(0:Int)<=(k:Int):=by omega
   have hkb:(k:Int)<(aA L:Int):=by omega
   generalize L[k]=x at*;generalize kZ a (L.take k)=D at*;obtain⟨xm,xa,xn⟩:=x;simp only at e0 e1 e2 cG;by_cases hn:xa=a
   ·subst hn;have HD:Hid (kZ xa (L.take (k+1))=D++ [xn]):=η (by rw [cG.o,ifP rfl]);have aV:Hid (β w ((wr.alloc (aK #[ν xm,ν xa,ν xn] 76)).alloc (aK #[ν xn] 2))):=η ((HB.o.alloc HB.o.size _).alloc (by have:=HB.o.size;simp;omega) _);have dB:=η ((HO.o.alloc (aK #[ν xm,ν xa,ν xn] 76)).alloc (aK #[ν xn] 2));have hzz:w.heap.size<=wr.heap.size:=HB.o.size;clear cG;go_wp2_with (at_builtin;refine wpList_append_lies _ rfl _ _ 53 rfl w.heap.size 2 ic _ 1 8 mD DM rU rV rW rfl (by omega) _ _ _ rfl dB.o ⟨wr.heap.size+1,0,aB⟩ 1 1 [ν xn] rfl rfl (dM _ _ #[_] (by simp)) xQ (by omega) (by simp only [bK];omega) (by omega) (by simp;omega) (wr.heap.size+1+1) (by simp) ?_)
    intro g3 sW w3 mJ gK _ _;have af:Hid (β w w3):=η (aV.o.grown gK (by simp;omega) (λj hj=>ei dB.o j hj));have cB:Hid (w3.ownsRow w.heap.size 2 1 (aH (aC ⟨g3,0,aB⟩) (aA D+1) sW) (aA (kZ xa (L.take (k+1)))) ((kZ xa (L.take (k+1))).map (aG aF))):=η (by rw [HD.o,cL,dY];exact mJ);clear mJ gK dB aV HO HB;go_wp2_with fail
    go_roundw
    case rel=>exact⟨k+1,by omega,by go_num,af,cB⟩
    case measure=>simp [ag];omega
   have HD:Hid (kZ a (L.take (k+1))=D):=η (by rw [cG.o,ifN hn];simp);have Jq:(xa==a)=aP:=by simpa using hn
   have aV:Hid (β w (wr.alloc (aK #[ν xm,ν xa,ν xn] 76))):=η (HB.o.alloc HB.o.size _);have dB:Hid ((wr.alloc (aK #[ν xm,ν xa,ν xn] 76)).ownsRow w.heap.size 2 1 (aH Ax (aA D) cx) (aA (kZ a (L.take (k+1)))) ((kZ a (L.take (k+1))).map (aG aF))):=η (by rw [HD.o];exact HO.o.alloc _);clear hn cG;go_wp2_with fail
   go_roundw
   case rel=>exact⟨k+1,by omega,by go_num,aV,dB⟩
   case measure=>simp [ag];omega
  obtain rfl:k=aA L:=by omega
  have cF:=HO.o;rw [cU] at cF ⊢;have rO:=a1M a L (aA L);rw [cU] at rO;have kV:=η (Dg (kZ a L) Ax cx wr HI.o (aW.cA cF) (by omega));clear cF HO rO;go_wp2_with (go_at_call 104;refine kV.o.mono ?_;rintro e w3 ⟨rfl,hb3⟩;have af:Hid (β w w3):=τ HB hb3;clear hb3)
  go_ret2;exact⟨rfl,af.o⟩
def kS(L:List Lg)(a:Int):Int:=sumI (kZ a (lX (j7 a L)))
def mS(L:List Lg)(a:Int):Int:=sumI (kZ a (j9 (j7 a L)))
def AK(L:List Lg)(a:Int):Int:=if dL (kS L a)≠0 then dL (kS L a) else if sj (j7 a L)≠0 then sj (j7 a L) else dL (mS L a)
theorem aEN {L:List Lg}(h:∀x∈L,aL x.n):∀x∈lX L,aL x.n:=λx hx=>h x (j6.1 hx).1
theorem aCF {L:List Lg} {a:Int}(h:∀x∈L,aL x.n):∀x∈j7 a L,aL x.n:=λx hx=>h x (j6.1 hx).1
theorem aDE {L:List Lg}(h:∀x∈L,aL x.n)(he:sj L=0):∀x∈j9 L,aL x.n:=λx hx=>by
 obtain⟨y,hy,rfl⟩:=dV.1 hx;have Hu:=j6.1 hy;have h1:=h y Hu.1;have h2:y.n≠fj:=λe=>by unfold sj at he;rw [ifP (kK.2 ⟨y,Hu.1,by simpa using e⟩)] at he;omega
 show aL (-y.n);unfold aL fj at*;omega
theorem aEO(L:List Lg):aA (lX L)<=aA L:=qN _ _
theorem a1L(a:Int)(L:List Lg):aA (j7 a L)<=aA L:=qN _ _
theorem aDF(L:List Lg):aA (j9 L)<=aA L:=by have:=a1k L (aA L);rwa [cU] at this
def YY(L:List Lg)(a:Int)(w:aJ)(e:di)(w':aJ):Prop:=
 e=aU (bB #[ν (if AK L a=0 then kS L a else 0),ν (if AK L a=0 then mS L a else 0),ν (AK L a)])/\β w w'
theorem aHs(L:List Lg)(a:Int)(A:Option ai)(c:Nat)(w:aJ)(hs:aW w w.heap.size A (bA L))(hl:aA L<=100000)(hI:∀x∈L,aL x.n):
 aQ aM 105 #[aH A (aA L) c,ν a] w (YY L a w):=by
 have HS:=η hs;have HI:=η (aCF (a:=a) hI);have aY:Hid (β w w):=η (aX _ _);have ly:Hid (w.ownsRow w.heap.size 76 3 (aH aB 0 0) (aA (j7 a (L.take 0))) (bA (j7 a (L.take 0)))):=η (by rw [nJ];exact gC _ _ _ _);obtain⟨ic,DM,rU,rV,rW⟩:=dK Qs;have oX:Hid (AK L a=if dL (kS L a)≠0 then dL (kS L a) else if sj (j7 a L)≠0 then sj (j7 a L) else dL (mS L a)):=η rfl;have rA:Hid (kS L a=sumI (kZ a (lX (j7 a L)))):=η rfl;have wM:Hid (mS L a=sumI (kZ a (j9 (j7 a L)))):=η rfl;have rO:aA (j7 a L)<=100000:=cC (a1L a L) hl;clear hs hI;go_enter func105,ntmps105
 go_wp2_with fail
 go_loopw [7,9,13] (λv _ i wr=>∃k:Nat,k<=aA L/\i=ν (k:Int)/\Hid (β w wr)/\Hid (wr.ownsRow w.heap.size 76 3 v (aA (j7 a (L.take k))) (bA (j7 a (L.take k))))) (λ_ _ i _=>aA L-(ag i).toNat)
 case atStart=>exact⟨0,bL _,rfl,aY,ly⟩
 case round=>
  clear aY ly;obtain⟨k,hk,rfl,HB,HO⟩:=hrel;obtain⟨Ax,cx,oz⟩:=bJ HO.o;subst oz;by_cases hlt:k<aA L
  ·obtain⟨be,oe,rfl,lO,e0,e1,e2⟩:=oG ((HS.o.below HB.o).mono HB.o.size) hlt;have cG:Hid (j7 a (L.take (k+1))=j7 a (L.take k)++(if (L[k].a==a) then [L[k]] else [])):=η (M4 (λx:Lg=>x.a==a) hlt);have gV:aA (j7 a (L.take k))<=100000:=cC (M3 _ L k) hl;have eV:(0:Int)<=(k:Int):=by omega
   have hkb:(k:Int)<(aA L:Int):=by omega
   generalize L[k]=x at*;generalize j7 a (L.take k)=D at*;obtain⟨xm,xa,xn⟩:=x;simp only at e0 e1 e2 cG;by_cases hn:xa=a
   ·subst hn;have HD:Hid (j7 xa (L.take (k+1))=D++ [⟨xm,xa,xn⟩]):=η (by rw [cG.o,ifP (by simp)]);have aV:Hid (β w ((wr.alloc (aK #[ν xm,ν xa,ν xn] 76)).alloc (aK #[ν xm,ν xa,ν xn] 76))):=η ((HB.o.alloc HB.o.size _).alloc (by have:=HB.o.size;simp;omega) _);have dB:=η ((HO.o.alloc (aK #[ν xm,ν xa,ν xn] 76)).alloc (aK #[ν xm,ν xa,ν xn] 76));have hzz:w.heap.size<=wr.heap.size:=HB.o.size;clear cG;go_wp2_with (at_builtin;refine wpList_append_lies _ rfl _ _ 39 rfl w.heap.size 76 ic _ 3 24 sU DM rU rV rW rfl (by omega) _ _ _ rfl dB.o ⟨wr.heap.size+1,0,aB⟩ 1 1 (Lg.cells ⟨xm,xa,xn⟩) rfl rfl (dM _ _ #[_,_,_] (by simp)) (Qu _) (by omega) (by simp only [bK];omega) (by omega) (by simp;omega) (wr.heap.size+1+1) (by simp) ?_)
    intro g3 sW w3 mJ gK _ _;have af:Hid (β w w3):=η (aV.o.grown gK (by simp;omega) (λj hj=>ei dB.o j hj));have cB:Hid (w3.ownsRow w.heap.size 76 3 (aH (aC ⟨g3,0,aB⟩) (aA D+1) sW) (aA (j7 xa (L.take (k+1)))) (bA (j7 xa (L.take (k+1))))):=η (by rw [HD.o,cL,Qt];exact mJ);clear mJ gK dB aV HO HB;go_wp2_with fail
    go_roundw
    case rel=>exact⟨k+1,by omega,by go_num,af,cB⟩
    case measure=>simp [ag];omega
   have HD:Hid (j7 a (L.take (k+1))=D):=η (by rw [cG.o,ifN (by simpa using hn)];simp);have Jq:(xa==a)=aP:=by simpa using hn
   have aV:Hid (β w (wr.alloc (aK #[ν xm,ν xa,ν xn] 76))):=η (HB.o.alloc HB.o.size _);have dB:Hid ((wr.alloc (aK #[ν xm,ν xa,ν xn] 76)).ownsRow w.heap.size 76 3 (aH Ax (aA D) cx) (aA (j7 a (L.take (k+1)))) (bA (j7 a (L.take (k+1))))):=η (by rw [HD.o];exact HO.o.alloc _);clear hn cG;go_wp2_with fail
   go_roundw
   case rel=>exact⟨k+1,by omega,by go_num,aV,dB⟩
   case measure=>simp [ag];omega
  obtain rfl:k=aA L:=by omega
  have cF:=HO.o;rw [cU] at cF ⊢;have L0:=η cF;clear cF HO rO;have iW:aA (j7 a L)<=100000:=cC (a1L a L) hl;generalize j7 a L=mine at*;have yl:=η (aHg mine Ax cx wr (aW.cA L0.o) iW);have xx:=η (λ(W:aJ) (A2:Option ai) (c2:Nat) (h2:W.ownsRow wr.heap.size 76 3 (aH A2 (aA (lX mine)) c2) (aA (lX mine)) (bA (lX mine)))=>a5M (lX mine) a A2 c2 W (aW.cA h2) (cC (aEO _) iW) (aEN HI.o));have J8:=η (λ(he:sj mine=0) (W:aJ) (B:Nat) (A2:Option ai) (c2:Nat) (h2:W.ownsRow B 76 3 (aH A2 (aA (j9 mine)) c2) (aA (j9 mine)) (bA (j9 mine)))=>a5M (j9 mine) a A2 c2 W (aW.cA h2) (cC (aDF _) iW) (aDE HI.o he));have np:=η (λW (hW:β wr W)=>aHf mine Ax cx W (((aW.cA L0.o).below hW).mono hW.size) iW HI.o);rw [<-rA.o] at xx;rw [<-wM.o] at J8;by_cases h1:dL (kS L a)=0
  ·rw [h1] at xx;by_cases h2:sj mine=0
   ·have OI:=η (J8.o h2);by_cases h3:dL (mS L a)=0
    ·have HR:Hid (AK L a=0):=η (by rw [oX.o,ifN (by simpa using h1),ifN (by simpa using h2),h3]);have hO:gP (kS L a)=kS L a:=by
      by_cases q:aL (kS L a)
      ·exact(dy q).1
      rw [(gh q).2] at h1;omega
     have hC:gP (mS L a)=mS L a:=by
      by_cases q:aL (mS L a)
      ·exact(dy q).1
      rw [(gh q).2] at h3;omega
     rw [hO] at xx;rw [h3,hC] at OI;have HZ:=η h2;clear h1 h2 h3 hO hC J8 oX rA wM;go_wp2_with (first|(go_at_call 166;refine yl.o.mono ?_;rintro e w3 ⟨vd,rfl,uN,bU⟩;have wK:=η uN;obtain⟨A2,c2,hv2⟩:=bJ uN;subst hv2;have af:Hid (β wr w3):=η bU;clear uN bU)|(go_at_call 165;refine(xx.o _ _ _ wK.o).mono ?_;rintro e w4 ⟨rfl,hb4⟩;have ar:Hid (β wr w4):=τ af hb4;clear hb4 xx)|(go_at_call 167;refine(np.o _ ar.o).mono ?_;rintro e w5 ⟨dG,h5⟩;obtain⟨vc,rfl,BW⟩:∃v,e=aU (bB #[v,ν 0])/\w5.ownsRow w4.heap.size 76 3 v (aA (j9 mine)) (bA (j9 mine)):=(h5.elim (λh=>h.2) (λh=>absurd (HZ.o.symm.trans h.1) (by decide)));have cz:Hid (β wr w5):=τ ar dG;have qH:=η BW;obtain⟨A5,c5,Mq⟩:=bJ BW;subst Mq;clear dG h5 BW)|(go_at_call 165;refine(OI.o _ _ _ _ qH.o).mono ?_;rintro e w6 ⟨rfl,iL⟩;have gz:Hid (β wr w6):=τ cz iL;clear iL))
     go_ret3;exact⟨by rw [HR.o];rfl,HB.o.trans (gz.o.mono HB.o.size)⟩
    have HR:Hid (AK L a=2):=η (by
     rw [oX.o,ifN (by simpa using h1),ifN (by simpa using h2)];by_cases q:aL (mS L a)
     ·exact absurd (dy q).2 h3
     exact(gh q).2)
    have Gq:dL (mS L a)=2:=by rw [<-HR.o,oX.o,ifN (by simpa using h1),ifN (by simpa using h2)]
    rw [Gq] at OI;have HZ:=η h2;generalize gP (mS L a)=vC at*;generalize gP (kS L a)=vO at*;clear h1 h2 h3 Gq J8 oX rA wM;go_wp2_with (first|(go_at_call 166;refine yl.o.mono ?_;rintro e w3 ⟨vd,rfl,uN,bU⟩;have wK:=η uN;obtain⟨A2,c2,hv2⟩:=bJ uN;subst hv2;have af:Hid (β wr w3):=η bU;clear uN bU)|(go_at_call 165;refine(xx.o _ _ _ wK.o).mono ?_;rintro e w4 ⟨rfl,hb4⟩;have ar:Hid (β wr w4):=τ af hb4;clear hb4 xx)|(go_at_call 167;refine(np.o _ ar.o).mono ?_;rintro e w5 ⟨dG,h5⟩;obtain⟨vc,rfl,BW⟩:∃v,e=aU (bB #[v,ν 0])/\w5.ownsRow w4.heap.size 76 3 v (aA (j9 mine)) (bA (j9 mine)):=(h5.elim (λh=>h.2) (λh=>absurd (HZ.o.symm.trans h.1) (by decide)));have cz:Hid (β wr w5):=τ ar dG;have qH:=η BW;obtain⟨A5,c5,Mq⟩:=bJ BW;subst Mq;clear dG h5 BW)|(go_at_call 165;refine(OI.o _ _ _ _ qH.o).mono ?_;rintro e w6 ⟨rfl,iL⟩;have gz:Hid (β wr w6):=τ cz iL;clear iL))
    go_ret3;exact⟨by rw [HR.o];rfl,HB.o.trans (gz.o.mono HB.o.size)⟩
   have a3e:sj mine=2:=by unfold sj at*;split at h2<;>simp_all
   have HR:Hid (AK L a=2):=η (by rw [oX.o,ifN (by simpa using h1),ifP h2,a3e]);have HZ:=η h2;generalize gP (kS L a)=vO at*;clear h1 h2 a3e J8 oX rA wM;go_wp2_with (first|(go_at_call 166;refine yl.o.mono ?_;rintro e w3 ⟨vd,rfl,uN,bU⟩;have wK:=η uN;obtain⟨A2,c2,hv2⟩:=bJ uN;subst hv2;have af:Hid (β wr w3):=η bU;clear uN bU)|(go_at_call 165;refine(xx.o _ _ _ wK.o).mono ?_;rintro e w4 ⟨rfl,hb4⟩;have ar:Hid (β wr w4):=τ af hb4;clear hb4 xx)|(go_at_call 167;refine(np.o _ ar.o).mono ?_;rintro e w5 ⟨dG,h5⟩;obtain rfl:e=aU (bB #[aH aB 0 0,ν 2]):=(h5.elim (λh=>absurd h.1 HZ.o) (λh=>h.2));have cz:Hid (β wr w5):=τ ar dG;clear dG h5))
   go_ret3;exact⟨by rw [HR.o];rfl,HB.o.trans (cz.o.mono HB.o.size)⟩
  have uL:dL (kS L a)=2:=by
   by_cases q:aL (kS L a)
   ·exact absurd (dy q).2 h1
   exact(gh q).2
  have HR:Hid (AK L a=2):=η (by rw [oX.o,ifP h1,uL]);rw [uL] at xx;generalize gP (kS L a)=vO at*;clear h1 uL J8 oX rA wM;go_wp2_with (first|(go_at_call 166;refine yl.o.mono ?_;rintro e w3 ⟨vd,rfl,uN,bU⟩;have wK:=η uN;obtain⟨A2,c2,hv2⟩:=bJ uN;subst hv2;have af:Hid (β wr w3):=η bU;clear uN bU)|(go_at_call 165;refine(xx.o _ _ _ wK.o).mono ?_;rintro e w4 ⟨rfl,hb4⟩;have ar:Hid (β wr w4):=τ af hb4;clear hb4 xx))
  go_ret3;exact⟨by rw [HR.o];rfl,HB.o.trans (ar.o.mono HB.o.size)⟩
end Go.Proofs.YtdokipdchlcmeaaGreat
