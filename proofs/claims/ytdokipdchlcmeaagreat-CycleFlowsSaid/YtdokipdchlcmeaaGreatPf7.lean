/-
  Several texts in one, for one claim (printed by pack.py).
-/
import Derived.Test.YtdokipdchlcmeaaGreatPf6
import Derived.RangeFuncNested
import Derived.RangeFuncBound
import Derived.RangeFuncCalls
import Derived.RangeFuncLeaves
import Derived.RangeFuncFrom
import Derived.Shelf.Abstract
import Derived.Shelf.RegionOpen
import Derived.OwnWalkIn
import Derived.TacticsInMore
import Derived.LoopNIn
import Derived.LoopIn
import Derived.TacticsIn
import Derived.RegionIn
set_option linter.all false
set_option maxRecDepth 100000
set_option maxHeartbeats 12800000
open And renaming intro→kh
open Array renaming getElem?_eq_some_iff→fY,getElem?_eq_none→JE
open Bool renaming true→aO,false→aP,and_eq_true→ji,and_false→JF,not_eq_true'→Sw,false_eq_true→Yy
open Go renaming World→aJ,Value→aN,Calls→aQ,Addr→ai,maxLen→bO,TypeId→bZ,heap_alloc_new→cQ,info_parts→dP,Ending→dX,rounds_succ→eI,wpList_append_own→jC,callsIn_wide→tH,wp_loop_rounds→ux,grownCap→xR
open Go.Builtin renaming zeroCells→EH,append_→Sx
open Go.Ending renaming returned→aT
open Go.Fence renaming wide→LF
open Go.IntKind renaming i64→aF,wrap_i64→fh
open Go.IntWalk renaming i64_in→sr
open Go.KeepsOthers renaming setCell→a0G
open Go.Obj renaming cells→aK
open Go.Proofs renaming intOf→ag
open Go.Proofs.Tryz renaming prog→aM,underlying53→mX,func127→a0a,func220→a0h,ntmps127→a0u,ntmps220→a1B,underlying189→a1Q,func119→aAh,func132→aAl,func27→aB4,func35→aBB,func59→aBE,ntmps119→aBU,ntmps132→aBY,ntmps27→aBr,ntmps35→aBw,ntmps59→aC0
open Go.Result renaming andThen→uU
open Go.RowKit renaming Below→aa
open Go.RowKit.Below renaming refl→aX,size→gX,trans→kB,heap_setCell→nR
open Go.Value renaming int→aG,slice→aH,tuple→bC,pointer→bD,bool→bK,agg→bP,ownBlock→eF
open Go.World renaming ownsRow_nil→gG,cell?_of_block→gu,ownsRow→kF,cell?_alloc_lt→qp,size_alloc→DK,setCell→Em,grownBy_alloc→Hh,frozen?_of_block→MM,frozen?_alloc_past→Ph,putObj_heap_other→Pj,cell?_setCell_same'→a1X,frozen?_alloc_at→a1Y,frozen?_setCell→a1Z,putObj→aCR,putObj_heap_same→aCS
open Int renaming le_refl→dM
open List renaming length→aA,getElem_mem→cK,length_append→cN,take_length→cU,range→dQ,map_append→dh,mem_map→di,mem_cons→fG,take_succ_eq_append_getElem→fH,getElem?_eq_getElem→iG,length_map→iX,mem_filter→jG,any_eq_true→kE,zipWith→kV,eq_nil_of_length_eq_zero→nU,mem_range→nV,take_zero→nW,length_filter_le→qo,getD_eq_getElem?_getD→tC,length_cons→uS,length_singleton→uT,length_take→vN,flatMap_cons→xB,map_cons→yS,foldl_cons→D3,sum_append→D6,length_nil→Eh,length_zipWith→Ei,sum_cons→Ej,zipWith_cons_cons→Ek,nil_append→Gi,all_eq_false→Jt,drop_eq_getElem_cons→Ju,getElem?_eq_none→M4,map_map→M5,concat_eq_append→PE,eq_nil_or_concat→PF,prefix_append→a0L,flatMap_singleton→aA2,map_singleton→aA7
open Nat renaming le_refl→aZ,zero_le→bM,le_trans→bz,lt_of_lt_of_le→cL,lt_or_ge→rZ
open Option renaming none→aB,some→aC
open Option.some renaming inj→pH
open Or renaming inl→aS
namespace Go.Proofs.YtdokipdchlcmeaaGreat
open Go.Proofs.Tryz Go.RowKit
structure fZ(D:Dk):Prop where
 lI:∀y∈D.l,aL y
 hl:aA D.h<=100
 wl:aA D.who<=100
 gl:aA D.log<=90000
 ob:sX D.ob
 bl:aA D.bx<=1000
 st:aL D.st
def bj(D:Dk)(fk fm tk tm a n:Int):List Int:=if lf (aA D.x.ms) (aA D.x.ss+1) D.l D.h (lC fk fm tk tm a n)=0 then kN (aA D.x.ms) (aA D.x.ss+1) D.l (lC fk fm tk tm a n) else D.l
def uo(D:Dk)(fk fm tk tm a n:Int):Int:=lf (aA D.x.ms) (aA D.x.ss+1) D.l D.h (lC fk fm tk tm a n)
theorem bV.moved {w w':aJ} {db:Nat} {p:Dp} {D:Dk} {es:List En} {E:dX}(H:bV w db p D)(h:Uw p.vb p.vp (aA D.x.ms) (aA D.x.ss+1) (aA D.x.ms) D.l D.h es w E w'):E=aT (aG aF (lf (aA D.x.ms) (aA D.x.ss+1) D.l D.h es))/\aq db p {D with l:=if lf (aA D.x.ms) (aA D.x.ss+1) D.l D.h es=0 then kN (aA D.x.ms) (aA D.x.ss+1) D.l es else D.l} w w':=by
 obtain⟨Sl,rfl,hv,hu,hs⟩:=h;refine⟨rfl, {p with vp:=Sl},H.a8V (hu.mono (λk hk=> .inl (.inl hk))) hv,rfl,rfl,rfl,rfl,hu.mono (λk hk=> .inl (.inr (.inl (.inl hk)))), ?_⟩;rintro k (e|e|e|e|e|e)
 ·exact .inl (.inl e)
 ·exact(hs k e).imp (λh=> .inr (.inl h)) id
 ·exact .inl (.inr (.inr (.inl e)))
 ·exact .inl (.inr (.inr (.inr (.inl e))))
 ·exact .inl (.inr (.inr (.inr (.inr (.inl e)))))
 exact .inl (.inr (.inr (.inr (.inr (.inr e)))))
theorem Hw(db:Nat)(p:Dp)(D:Dk)(fk fm tk tm a n:Int)(w:aJ)(H:bV w db p D)(hO:fZ D)(hf:aL fk/\aL fm)(ht:aL tk/\aL tm)(ha:aL a)(hn:aL n)(mE:0<=n):
 aQ aM 87 #[π p.vb,bP #[ν fk,ν fm],bP #[ν tk,ν tm],ν a,ν n] w λe w'=>e=aT (ν (uo D fk fm tk tm a n))/\aq db p {D with l:=bj D fk fm tk tm a n} w w'/\w'.cell? ⟨db,8,aB⟩=aC (π p.vb):=by
 refine(aLg p.vb p.vp (aA D.x.ms) (aA D.x.ss+1) (aA D.x.ms) D.l D.h fk fm tk tm a n w H.vt hf ht ha hn mE hO.lI (by have:=hO.hl;omega)).mono ?_;intro e w' h;obtain⟨h1,h2⟩:=H.moved h;refine⟨h1,h2, ?_⟩;obtain⟨p1,H1,e1,_⟩:=h2;rw [<-e1];exact H1.cells.c8
def EC(D:Dk)(m n:Int):Int:=if ny D m n≠0 then ny D m n else if 0<pV n (1099511627776-balA (aA D.x.ms) (aA D.x.ss+1) D.l 8 m 0) then 2 else 0
def OA(D:Dk)(m n:Int):Dk:= {D with l:=bj D 7 m 8 m 0 n,log:=D.log++ [⟨17,m,0,n,0⟩]}
def Ah(D:Dk)(m n:Int):Dk:=if EC D m n=0 then OA D m n else D
def Si(D:Dk)(m n:Int):Int:=if EC D m n=0 then balA (aA D.x.ms) (aA D.x.ss+1) (OA D m n).l 8 m 0 else 0
def CR(db:Nat)(p:Dp)(D':Dk)(v er:Int)(w:aJ)(e:dX)(w':aJ):Prop:=e=aT (bC #[aG aF v,aG aF er])/\aq db p D' w w'
theorem aEq(db:Nat)(p:Dp)(D:Dk)(m n:Int)(w:aJ)(H:bV w db p D)(hO:fZ D)(hm:aL m)(hn:aL n)(KQ:aL (1099511627776-balA (aA D.x.ms) (aA D.x.ss+1) D.l 8 m 0)):
 aQ aM 36 #[π db,ν m,ν n] w (CR db p (Ah D m n) (Si D m n) (EC D m n) w):=by
 have HE:Hid (EC D m n=if ny D m n≠0 then ny D m n else if 0<pV n (1099511627776-balA (aA D.x.ms) (aA D.x.ss+1) D.l 8 m 0) then 2 else 0):=η rfl;have vH:Hid (ny D m n=0->1<=n):=η (by
  intro h;unfold ny at h;split at h
  ·rename_i h1;exact absurd h h1
  split at h
  ·cases h
  split at h
  ·cases h
  omega)
 have HM:=η (a2q db p D m n w H hm (by have:=hO.wl;omega));have HF:=η H;have HO:=η hO;have fC:=η (λW (hW:β w W)=>zq db p D 8 m 0 W (H.below hW) (by decide) hm);have zL:=η (λW=>VO n (1099511627776-balA (aA D.x.ms) (aA D.x.ss+1) D.l 8 m 0) hn KQ W);have hb1:=KQ.1;have hb2:=KQ.2;generalize ny D m n=me at*;generalize WD:balA (aA D.x.ms) (aA D.x.ss+1) D.l 8 m 0=bq at*;generalize pV n (1099511627776-bq)=ov at*;go_enter func36,ntmps36
 go_upto_region 2 with (go_at_call 85;refine mM HM.o λw1 aR=> ?_)
 by_cases h1:me=0
 case neg=>
  have hb:(me==0)=aP:=by simpa using h1
  have HT:Hid (EC D m n=me):=η (by rw [HE.o,ifP h1]);have mS:Hid (me≠0):=η h1;go_wp2
  go_ret2;refine⟨?_, ?_⟩
  ·unfold Si;rw [HT.o,ifN mS.o];rfl
  unfold Ah;rw [HT.o,ifN mS.o];exact aq.bY HF.o aR.o
 have kM:=vH.o h1;subst h1;have ZI:=η (λW (hW:β w1 W)=>fC.o W (aR.o.trans (hW.mono aR.o.size)));by_cases h2:0<ov
 ·have HT:Hid (EC D m n=2):=η (by rw [HE.o,ifN (by simp),ifP h2]);go_wp2_with (first|(go_at_call 47;refine mM (zj m _) λw2 aV=> ?_)|(go_at_call 46;refine κ (ZI.o _ aV.o) aV λw3 af=> ?_)|(go_at_call 86;refine(zL.o _).mono ?_;rintro e w4 ⟨rfl,hb4⟩;have ar:=η (aR.o.trans ((af.o.trans (hb4.mono af.o.size)).mono aR.o.size))))
  go_ret2;refine⟨?_, ?_⟩
  ·unfold Si;rw [HT.o];rfl
  unfold Ah;rw [HT.o];exact aq.bY HF.o ar.o
 have HT:Hid (EC D m n=0):=η (by rw [HE.o,ifN (by simp),ifN h2]);go_upto_region 6 with (first|(go_at_call 47;refine mM (zj m _) λw2 aV=> ?_)|(go_at_call 46;refine κ (ZI.o _ aV.o) aV λw3 af=> ?_)|(go_at_call 86;refine(zL.o _).mono ?_;rintro e w4 ⟨rfl,hb4⟩;have ar:=η (aR.o.trans ((af.o.trans (hb4.mono af.o.size)).mono aR.o.size))))
 have lO:=η (HF.o.below ar.o);have lu:=η (λW (hW:β w4 W)=>Hw db p D 7 m 8 m 0 n W (lO.o.below hW) HO.o ⟨by decide,hm⟩ ⟨by decide,hm⟩ (by decide) hn (by omega));have bJ:=η (λW (hW:β w4 W)=>(lO.o.below hW).cells.c8);have bQ:β w4 w4.drew:=(aX _ _).drew;have hdd:=bJ.o _ bQ;go_region_held3 (λW=>W.cell? ⟨db,8,aB⟩=aC (π p.vb)) (first|(with_reducible assumption)) (first|(go_at_call 47;refine(zj m _).mono ?_;rintro e w5 ⟨rfl,gH⟩;have qQ:β w4 w5:=kB (by with_reducible assumption) (gH.mono (gX (by with_reducible assumption)));have hcc:=bJ.o _ qQ)|(go_at_call 49;refine(Et m _).mono ?_;rintro e w6 ⟨rfl,tV⟩;have xS:β w4 w6:=kB (by with_reducible assumption) (tV.mono (gX (by with_reducible assumption)));have rB:=bJ.o _ xS)|(go_at_call 87;refine(lu.o _ (by with_reducible assumption)).mono ?_;rintro e w7 ⟨rfl,dH,hcm⟩))
 have gD:Hid (aq db p {D with l:=bj D 7 m 8 m 0 n} w w7):=η (aq.trans (bA.bY _ (ar.o.trans (Below.mono (by with_reducible assumption) ar.o.size))) (λ_ h=> .inl h) ⟨rfl,rfl,rfl,rfl⟩ dH);obtain⟨p1,H1,e1,e2,e3,e4,dD,hs1⟩:=gD.o;have ki:=η (H1.below ((aX w7.heap.size w7).alloc (aZ _) (aK #[ν 17,ν m,ν 0,ν n,ν 0] 45)));have km:=η (xP db p1 {D with l:=bj D 7 m 8 m 0 n} [⟨17,m,0,n,0⟩] w7.heap.size 1 _ ki.o (dS w7 45 #[ν 17,ν m,ν 0,ν n,ν 0] rfl) (by simp) (by simp) (by have:=HO.o.gl;simp only;omega));have px:Hid (∀W,aq db p1 {D with l:=bj D 7 m 8 m 0 n,log:=D.log++ [⟨17,m,0,n,0⟩]} (w7.alloc (aK #[ν 17,ν m,ν 0,ν n,ν 0] 45)) W->aq db p (OA D m n) w W):=η (λW h=>aq.trans dD hs1 ⟨e1,e2,e3,e4⟩ (aq.trans (bA.bY _ σ) (λ_ h=> .inl h) ⟨rfl,rfl,rfl,rfl⟩ h));go_wp2_with (first|(go_at_call 55;refine km.o.mono ?_;rintro e w8 ⟨rfl,h8⟩;have eB:=η (px.o _ h8))|(go_at_call 47;refine(zj m _).mono ?_;rintro e w9 ⟨rfl,ez⟩;have rT:=η (eB.o.below ez);obtain⟨p2,h2,_⟩:=rT.o;have H2:=η h2)|(go_at_call 46;refine(zq db p2 (OA D m n) 8 m 0 _ H2.o (by decide) hm).mono ?_;rintro e uB ⟨rfl,zy⟩;have GR:=η (rT.o.below zy)))
 go_ret2;refine⟨?_, ?_⟩
 ·unfold Si;rw [HT.o];rfl
 unfold Ah;rw [HT.o];exact GR.o
def Fz(D:Dk)(m n:Int):Int:=if ny D m n≠0 then ny D m n else uo D 8 m 7 m 0 n
def O9(D:Dk)(m n:Int):Dk:= {D with l:=bj D 8 m 7 m 0 n,log:=D.log++ [⟨18,m,0,n,0⟩]}
def Ae(D:Dk)(m n:Int):Dk:=if Fz D m n=0 then O9 D m n else D
def Sb(D:Dk)(m n:Int):Int:=if Fz D m n=0 then balA (aA D.x.ms) (aA D.x.ss+1) (O9 D m n).l 8 m 0 else 0
theorem a5m {D:Dk} {m n:Int}(h:ny D m n=0):1<=n:=by
 unfold ny at h;split at h
 ·rename_i h1;exact absurd h h1
 split at h
 ·cases h
 split at h
 ·cases h
 omega
theorem aEp(db:Nat)(p:Dp)(D:Dk)(m n:Int)(w:aJ)(H:bV w db p D)(hO:fZ D)(hm:aL m)(hn:aL n):
 aQ aM 37 #[π db,ν m,ν n] w (CR db p (Ae D m n) (Sb D m n) (Fz D m n) w):=by
 have HE:Hid (Fz D m n=if ny D m n≠0 then ny D m n else uo D 8 m 7 m 0 n):=η rfl;have vH:Hid (ny D m n=0->1<=n):=η a5m;have HM:=η (a2q db p D m n w H hm (by have:=hO.wl;omega));have HF:=η H;have HO:=η hO;generalize ny D m n=me at*;go_enter func37,ntmps37
 go_upto_region 2 with (go_at_call 85;refine mM HM.o λw4 ar=> ?_)
 by_cases h1:me=0
 case neg=>
  have hb:(me==0)=aP:=by simpa using h1
  have HT:Hid (Fz D m n=me):=η (by rw [HE.o,ifP h1]);have mS:Hid (me≠0):=η h1;go_wp2
  go_ret2;refine⟨?_, ?_⟩
  ·unfold Sb;rw [HT.o,ifN mS.o];rfl
  unfold Ae;rw [HT.o,ifN mS.o];exact aq.bY HF.o ar.o
 have kM:=vH.o h1;subst h1;have HT:Hid (Fz D m n=uo D 8 m 7 m 0 n):=η (by rw [HE.o,ifN (by simp)]);go_upto_region 4 with (fail)
 have lO:=η (HF.o.below ar.o);have lu:=η (λW (hW:β w4 W)=>Hw db p D 8 m 7 m 0 n W (lO.o.below hW) HO.o ⟨by decide,hm⟩ ⟨by decide,hm⟩ (by decide) hn (by omega));have bJ:=η (λW (hW:β w4 W)=>(lO.o.below hW).cells.c8);have bQ:β w4 w4.drew:=(aX _ _).drew;have hdd:=bJ.o _ bQ;have wY:Hid (uo D 8 m 7 m 0 n≠0->bj D 8 m 7 m 0 n=D.l):=η (λh=>by unfold bj;rw [ifN];exact h);generalize uo D 8 m 7 m 0 n=Xf at*;go_region_held3 (λW=>W.cell? ⟨db,8,aB⟩=aC (π p.vb)) (first|(with_reducible assumption)) (first|(go_at_call 47;refine(zj m _).mono ?_;rintro e w5 ⟨rfl,gH⟩;have qQ:β w4 w5:=kB (by with_reducible assumption) (gH.mono (gX (by with_reducible assumption)));have hcc:=bJ.o _ qQ)|(go_at_call 49;refine(Et m _).mono ?_;rintro e w6 ⟨rfl,tV⟩;have xS:β w4 w6:=kB (by with_reducible assumption) (tV.mono (gX (by with_reducible assumption)));have rB:=bJ.o _ xS)|(go_at_call 87;refine(lu.o _ (by with_reducible assumption)).mono ?_;rintro e w7 ⟨rfl,dH,hcm⟩))
 have gD:Hid (aq db p {D with l:=bj D 8 m 7 m 0 n} w w7):=η (aq.trans (bA.bY _ (ar.o.trans (Below.mono (by with_reducible assumption) ar.o.size))) (λ_ h=> .inl h) ⟨rfl,rfl,rfl,rfl⟩ dH);by_cases h2:Xf=0
 case neg=>
  have hb:(Xf==0)=aP:=by simpa using h2
  have mS:Hid (Xf≠0):=η h2;have Jh:Hid (aq db p D w w7):=η (by have h:=gD.o;rw [wY.o h2] at h;exact h);go_wp2
  go_ret2;refine⟨?_, ?_⟩
  ·unfold Sb;rw [HT.o,ifN mS.o];rfl
  unfold Ae;rw [HT.o,ifN mS.o];exact Jh.o
 subst h2;obtain⟨p1,H1,e1,e2,e3,e4,dD,hs1⟩:=gD.o;have ki:=η (H1.below ((aX w7.heap.size w7).alloc (aZ _) (aK #[ν 18,ν m,ν 0,ν n,ν 0] 45)));have km:=η (xP db p1 {D with l:=bj D 8 m 7 m 0 n} [⟨18,m,0,n,0⟩] w7.heap.size 1 _ ki.o (dS w7 45 #[ν 18,ν m,ν 0,ν n,ν 0] rfl) (by simp) (by simp) (by have:=HO.o.gl;simp only;omega));have px:Hid (∀W,aq db p1 {D with l:=bj D 8 m 7 m 0 n,log:=D.log++ [⟨18,m,0,n,0⟩]} (w7.alloc (aK #[ν 18,ν m,ν 0,ν n,ν 0] 45)) W->aq db p (O9 D m n) w W):=η (λW h=>aq.trans dD hs1 ⟨e1,e2,e3,e4⟩ (aq.trans (bA.bY _ σ) (λ_ h=> .inl h) ⟨rfl,rfl,rfl,rfl⟩ h));go_wp2_with (first|(go_at_call 55;refine km.o.mono ?_;rintro e w8 ⟨rfl,h8⟩;have eB:=η (px.o _ h8))|(go_at_call 47;refine(zj m _).mono ?_;rintro e w9 ⟨rfl,ez⟩;have rT:=η (eB.o.below ez);obtain⟨p2,h2,_⟩:=rT.o;have H2:=η h2)|(go_at_call 46;refine(zq db p2 (O9 D m n) 8 m 0 _ H2.o (by decide) hm).mono ?_;rintro e uB ⟨rfl,zy⟩;have GR:=η (rT.o.below zy)))
 go_ret2;refine⟨?_, ?_⟩
 ·unfold Sb;rw [HT.o];rfl
 unfold Ae;rw [HT.o];exact GR.o
section
theorem a5n {M A:Nat} {l:List Int} {es:List En} {y:Int}:∀(qs:List (Int×Int×Int)) (acc:List Int),y∈lG acc (qs.map (kG M A l es))->y∈acc\/∃q∈qs,y=ku M A l q+fE es q
 | [],acc,h=> .inl h
 |q::qs,acc,h=>by
  have e:lG acc ((q::qs).map (kG M A l es))=lG (acc.set (kG M A l es q).p.toNat (kG M A l es q).n) (qs.map (kG M A l es)):=by grind [lG]
  rw [e] at h;rcases a5n qs _ h with h|⟨q',h1,h2⟩
  ·rcases List.mem_or_eq_of_mem_set h with h|h
   ·exact .inl h
   exact .inr ⟨q,by simp,h⟩
  grind
theorem aIQ {M A:Nat} {l:List Int} {es:List En}(h:y9 M A l es)(hl:∀y∈l,aL y):∀y∈kN M A l es,aL y:=by
 intro y hy;unfold kN ky at hy;rcases a5n _ _ hy with hy|⟨q,hq,rfl⟩
 ·exact hl y hy
 exact(h.ovr q hq).2
structure nT(M A:Nat)(l:List Int):Prop where
 len:aA l=A*(6+3*M)
 row:∀a,a<A->sumI (E7 M l a)=0
 pos:∀k m a n,plcA M A k m a=aC n->tU k=aP->0<=balA M A l k m a
 I:∀y∈l,aL y
theorem Yl {M A:Nat} {l:List Int} {h:List Hr} {es:List En}(hv:lf M A l h es=0):y9 M A l es/\(∀q∈dE es,tU q.1=aP->fE es q<0->0<=ku M A l q+fE es q):=by
 unfold lf at hv;split at hv
 ·omega
 rename_i h1;have h1:nZ M A l es=0:=by omega
 unfold nZ at h1;split at h1
 ·omega
 rename_i h2;split at h1
 ·cases h1
 rename_i h3;refine⟨aDn (by omega), ?_⟩;intro q hq hf hs;have hb:rr (kG M A l es q)=aP:=by
  cases hb:rr (kG M A l es q) with
  |false=>rfl
  |true=>exact absurd (kE.2 ⟨_,di.2 ⟨q,hq,rfl⟩,hb⟩) h3
 grind [rr,kG]
theorem nT.post {M A:Nat} {l:List Int} {h:List Hr} {es:List En}(H:nT M A l)(hA:A<=9)(hv:lf M A l h es=0):nT M A (kN M A l es):=by
 obtain⟨hc,hf⟩:=Yl hv;refine⟨(aIR _ _ _ _).trans H.len,λa ha=>(aIS H.len hc (by omega)).trans (H.row a ha), ?_,aIQ hc H.I⟩;intro k m a n hn hk;have e:=Kr H.len hc (q:=(k,m,a)) hn;have h0:=H.pos k m a n hn hk;have e1:ku M A (kN M A l es) (k,m,a)=balA M A (kN M A l es) k m a:=rfl;have e2:ku M A l (k,m,a)=balA M A l k m a:=rfl;rw [<-e1,e];by_cases hs:fE es (k,m,a)<0
 ·grind [Ya]
 rw [e2];omega
theorem SV(fk fm tk tm a n:Int)(q:Int×Int×Int):fE (lC fk fm tk tm a n) q=(if q=(fk,fm,a) then-n else 0)+(if q=(tk,tm,a) then n else 0):=by have e:lC fk fm tk tm a n=([]++ [⟨fk,fm,a,-n⟩])++ [⟨tk,tm,a,n⟩]:=rfl;rw [e,JB,JB];have:fE [] q=0:=rfl;rw [this,Int.zero_add];rfl
theorem aDP(fk fm tk tm a n:Int)(i:Nat):sumI (gy (lC fk fm tk tm a n) i)=0:=by grind [gy,lC,sumI]
theorem a5l {fk fm tk tm a n:Int} {q:Int×Int×Int}(h:q∈dE (lC fk fm tk tm a n)):q=(fk,fm,a)\/q=(tk,tm,a):=by
 obtain⟨x,hx,e⟩:=Kq.1 h;simp only [lC,fG,List.not_mem_nil,or_false] at hx;rcases hx with rfl|rfl
 ·exact .inl e.symm
 exact .inr e.symm
section
variable {D:Dk}
theorem Ni {fk fm tk tm a n:Int} {i j:Nat}(hf:plcA (aA D.x.ms) (aA D.x.ss+1) fk fm a=aC i)(ht:plcA (aA D.x.ms) (aA D.x.ss+1) tk tm a=aC j)(hne:¬(fk=tk/\fm=tm))(mE:0<=n)(hn:aL n)
 (h1:tU fk=aO\/(n<=balA (aA D.x.ms) (aA D.x.ss+1) D.l fk fm a/\iR D.h fk fm a<=balA (aA D.x.ms) (aA D.x.ss+1) D.l fk fm a-n)) (hr1:aL (balA (aA D.x.ms) (aA D.x.ss+1) D.l fk fm a-n)) (hr2:aL (balA (aA D.x.ms) (aA D.x.ss+1) D.l tk tm a+n)) (hlen:aA D.l=((aA D.x.ss+1))*(6+3*(aA D.x.ms))):uo D fk fm tk tm a n=0:=by
 have N9:aL (-n):=by grind [aL]
 have hqn:((fk,fm,a):Int×Int×Int)≠(tk,tm,a):=λe=>hne ⟨congrArg Prod.fst e,congrArg (λx=>x.2.1) e⟩
 have hs1:fE (lC fk fm tk tm a n) (fk,fm,a)= -n:=by grind [SV]
 have hs2:fE (lC fk fm tk tm a n) (tk,tm,a)=n:=by grind [SV]
 have hc:y9 (aA D.x.ms) (aA D.x.ss+1) D.l (lC fk fm tk tm a n):=by
  refine⟨by simp [lC], ?_,λi _=>aDP _ _ _ _ _ _ i, ?_⟩
  ·intro x hx;simp only [lC,fG,List.not_mem_nil,or_false] at hx;rcases hx with rfl|rfl
   ·exact⟨i,hf⟩
   exact⟨j,ht⟩
  intro q hq;rcases a5l hq with rfl|rfl
  ·rw [hs1];exact⟨N9,hr1⟩
  rw [hs2];exact⟨hn,hr2⟩
 unfold uo lf;have hb:nZ (aA D.x.ms) (aA D.x.ss+1) D.l (lC fk fm tk tm a n)=0:=by unfold nZ;rw [ifN (by rw [a2J hc];simp),ifN];intro ha;obtain⟨c,hc1,hc2⟩:=kE.1 ha;obtain⟨q,hq,rfl⟩:=di.1 hc1;grind [a5l,rr,kG,ku]
 rw [ifN (by rw [hb];simp),ifN];intro ha;obtain⟨x,hx,hx2⟩:=kE.1 ha;simp only [lC,fG,List.not_mem_nil,or_false] at hx;rcases hx with rfl|rfl
 ·unfold sN at hx2;simp only [ji,decide_eq_true_eq,Sw] at hx2;obtain⟨⟨a1,a2⟩,a3⟩:=hx2;have e:=Kr hlen hc (q:=(fk,fm,a)) hf;rw [hs1] at e;have e2:ku (aA D.x.ms) (aA D.x.ss+1) D.l (fk,fm,a)=balA (aA D.x.ms) (aA D.x.ss+1) D.l fk fm a:=rfl;have a3':ku (aA D.x.ms) (aA D.x.ss+1) (kN (aA D.x.ms) (aA D.x.ss+1) D.l (lC fk fm tk tm a n)) (fk,fm,a)<iR D.h fk fm a:=a3;grind
 unfold sN at hx2;simp only [ji,decide_eq_true_eq,Sw] at hx2;obtain⟨⟨a1,a2⟩,a3⟩:=hx2;have e:=Kr hlen hc (q:=(tk,tm,a)) ht;rw [hs2] at e;have a2':ku (aA D.x.ms) (aA D.x.ss+1) (kN (aA D.x.ms) (aA D.x.ss+1) D.l (lC fk fm tk tm a n)) (tk,tm,a)<ku (aA D.x.ms) (aA D.x.ss+1) D.l (tk,tm,a):=a2;omega
theorem aIE {fk fm tk tm a n:Int}(h:uo D fk fm tk tm a n=0)(hlen:aA D.l=((aA D.x.ss+1))*(6+3*(aA D.x.ms))) {k m b:Int} {i:Nat}(hp:plcA (aA D.x.ms) (aA D.x.ss+1) k m b=aC i):balA (aA D.x.ms) (aA D.x.ss+1) (bj D fk fm tk tm a n) k m b=balA (aA D.x.ms) (aA D.x.ss+1) D.l k m b+((if (k,m,b)=(fk,fm,a) then-n else 0)+(if (k,m,b)=(tk,tm,a) then n else 0)):=by have h':lf (aA D.x.ms) (aA D.x.ss+1) D.l D.h (lC fk fm tk tm a n)=0:=h;unfold bj;rw [ifP h',<-SV];exact Kr hlen (Yl h').1 (q:=(k,m,b)) hp
theorem nT.mv {fk fm tk tm a n:Int}(H:nT (aA D.x.ms) (aA D.x.ss+1) D.l)(hA:aA D.x.ss<=8):nT (aA D.x.ms) (aA D.x.ss+1) (bj D fk fm tk tm a n):=by
 by_cases h:lf (aA D.x.ms) (aA D.x.ss+1) D.l D.h (lC fk fm tk tm a n)=0
 ·unfold bj;rw [ifP h];exact H.post (by omega) h
 grind [bj]
end
end
def Bq(m a:Int)(L:List Ob):Int:=if dV m a L<(aA L) then 0 else 8
def Br(m a:Int)(L:List Ob):Int:=match L[dV m a L]? with
 |none=>0
 |some x=>x.size-x.done
theorem a6w {k:IntKind} {a b c d:Int}(h:a=c)(h':b=d):
 aT (bC #[aG k a,aG k b])=aT (bC #[aG k c,aG k d]):=by rw [h,h']
theorem a6A(L:List Ob)(m a:Int)(v:aN)(bs base:Nat)(w:aJ)(h:fR w bs base v L)(hL:sX L):
 aQ aM 119 #[π bs,ν m,ν a] w λe w'=>e=aT (bC #[ν (Br m a L),ν (Bq m a L)])/\β w w':=by
 have hl:aA L<=1000000:=by have:=hL.len;omega
 have HH:=η h;by_cases hi:dV m a L<aA L
 ·have HI:=η (Vg hi);have hE:Bq m a L=0:=by unfold Bq;rw [ifP hi]
  have hV:Br m a L=L[dV m a L].size-L[dV m a L].done:=by unfold Br;rw [iG hi]
  obtain⟨o1,o2,o3,o4,o5⟩:=hL.each _ (cK hi);have HE:=η hE;have HV:=η hV;generalize dV m a L=i at*;have cF:=η o1;have hs2:L[i].size<=9223372036854775807:=by unfold Ob.size;unfold gA at o1;split<;>omega
  go_enter aAh,aBU
  go_wp2_with fail
  refine(Ks L m a v bs base _ HH.o hl).mono ?_;rintro e w1 ⟨rfl,hb1⟩;rw [HI.o];obtain⟨g,cap,rfl,hg,hgb,FH,pO,d0,d1,d2,d3,d4,d5⟩:=L8 (HH.o.below hb1) hi;have c0:=(HH.o.below hb1).c0;have FO:=(HH.o.below hb1).lt;have aR:=η hb1;have hz1:=hb1.size;have hkb:(i:Int)<(aA L:Int):=by omega
  have ej:(0:Int)<=(i:Int):=by omega
  have yj:aF.wrap (L[i].size-L[i].done)=L[i].size-L[i].done:=sr _ (by omega);go_wp2_with fail
  go_region_held3 (λw'=>w'.cell? ⟨bs,0,aB⟩=aC (aH (aC ⟨g,0,aB⟩) (aA L) cap)/\w'.cell? ⟨g,i*6,aB⟩=aC (ν L[i].c)/\w'.cell? ⟨g,i*6+1,aB⟩=aC (ν L[i].m)/\w'.cell? ⟨g,i*6+2,aB⟩=aC (ν L[i].a)/\w'.cell? ⟨g,i*6+3,aB⟩=aC (ν L[i].az)/\w'.cell? ⟨g,i*6+4,aB⟩=aC (ν L[i].done)/\w'.cell? ⟨g,i*6+5,aB⟩=aC (ν L[i].st))
   (first|exact⟨c0,d0,d1,d2,d3,d4,d5⟩|exact⟨(hb2.cell (p:=⟨bs,0,aB⟩) FO).trans c0,(hb2.cell (p:=⟨g,i*6,aB⟩) hg).trans d0,(hb2.cell (p:=⟨g,i*6+1,aB⟩) hg).trans d1,(hb2.cell (p:=⟨g,i*6+2,aB⟩) hg).trans d2,(hb2.cell (p:=⟨g,i*6+3,aB⟩) hg).trans d3,(hb2.cell (p:=⟨g,i*6+4,aB⟩) hg).trans d4,(hb2.cell (p:=⟨g,i*6+5,aB⟩) hg).trans d5⟩)
   (first|(go_at_call 176;refine(a6B L[i] _ cF.o o2).mono ?_;rintro e w2 ⟨rfl,vh⟩;have hb2:β w1 w2:=((aX _ _).drew).trans vh))
  have aV:=η hb2;go_wp2_with fail
  go_ret2;refine⟨a6w ?_ HE.o.symm,aR.o.trans (aV.o.mono hz1)⟩;rw [HV.o]
 have HI:=η (Vh hi);have hE:Bq m a L=8:=by unfold Bq;rw [ifN hi]
 have hV:Br m a L=0:=by unfold Br;rw [M4 (by omega)]
 have HE:=η hE;have HV:=η hV;go_enter aAh,aBU
 go_wp2_with fail
 refine(Ks L m a v bs base _ HH.o hl).mono ?_;rintro e w1 ⟨rfl,hb1⟩;rw [HI.o];have aR:=η hb1;go_wp2_with fail
 go_ret2;exact⟨a6w HV.o.symm HE.o.symm,aR.o⟩
theorem aq.cell {db:Nat} {p:Dp} {D:Dk} {w w':aJ}(h:aq db p D w w') {k:Nat}(o:Nat)(hk:k<w.heap.size)(hn:¬eW db p k):w'.cell? ⟨k,o,aB⟩=w.cell? ⟨k,o,aB⟩:=by obtain⟨p1,_,_,_,_,_,hu,_⟩:=h;exact hu.cell o hk hn
theorem bV.Fx {w w':aJ} {db:Nat} {p:Dp} {D:Dk} {cT:List Ob} {E:Int} {e:dX}(H:bV w db p D)(h:Gu p.sb 0 p.sv cT E w e w'):e=aT (aG aF E)/\aq db p {D with ob:=cT} w w':=by
 obtain⟨SZ,rfl,hs,ho,hf⟩:=h;refine⟨rfl, {p with sv:=SZ},H.aKe ho.upd hs,rfl,rfl,rfl,rfl,ho.upd.mono (λk hk=> .inl (.inr (.inr (.inl hk)))), ?_⟩;rintro k (e|e|(e|e)|e|e|e)
 ·exact .inl (.inl e)
 ·exact .inl (.inr (.inl e))
 ·exact .inl (.inr (.inr (.inl (.inl e))))
 ·exact(hf k e).imp (λh=> .inr (.inr (.inl (.inr h)))) id
 ·exact .inl (.inr (.inr (.inr (.inl e))))
 ·exact .inl (.inr (.inr (.inr (.inr (.inl e)))))
 exact .inl (.inr (.inr (.inr (.inr (.inr e)))))
def Bv(D:Dk)(m a E:Int)(cT:List Ob):Int:=if oW D m a≠0 then oW D m a else if E≠0 then E else Bq m a cT
def Bw(D:Dk)(m a E:Int)(cT:List Ob):Int:=if oW D m a≠0 then 0 else if E≠0 then 0 else Br m a cT
def pU(D:Dk)(m a n fk fm tk tm kd E:Int)(cT:List Ob):Dk:=if oW D m a≠0 then D else if E≠0 then {D with ob:=cT} else {D with ob:=cT,l:=bj D fk fm tk tm a n,log:=D.log++ [⟨kd,m,a,n,0⟩]}
theorem aF5(db:Nat)(p:Dp)(D:Dk)(m a n fk fm tk tm kd E:Int)(cT:List Ob)(w:aJ)(H:bV w db p D)(hO:fZ D)(hm:aL m)(ha:aL a)(hn:aL n)(hf:aL fk/\aL fm)(ht:aL tk/\aL tm)
 (FP:sX cT) (mE:E=0->0<=n) (hS:∀W,bV W db p D->aQ aM 60 #[bD (aC ⟨p.sb,0,aB⟩),aG aF m,aG aF a,aG aF n] W (Gu p.sb 0 p.sv cT E W)):
 aQ aM 59 #[bD (aC ⟨db,0,aB⟩),aG aF m,aG aF a,aG aF n,.func (.func 60) #[bD (aC ⟨p.sb,0,aB⟩)] #[],bP #[aG aF fk,aG aF fm],bP #[aG aF tk,aG aF tm],aG aF kd] w (CR db p (pU D m a n fk fm tk tm kd E cT) (Bw D m a E cT) (Bv D m a E cT) w):=by
 have HE:Hid (Bv D m a E cT=if oW D m a≠0 then oW D m a else if E≠0 then E else Bq m a cT):=η rfl;have HV:Hid (Bw D m a E cT=if oW D m a≠0 then 0 else if E≠0 then 0 else Br m a cT):=η rfl;have rN:Hid (pU D m a n fk fm tk tm kd E cT=if oW D m a≠0 then D else if E≠0 then {D with ob:=cT} else {D with ob:=cT,l:=bj D fk fm tk tm a n,log:=D.log++ [⟨kd,m,a,n,0⟩]}):=η rfl;have aY:Hid (aa w.heap.size w ((w.alloc (aK #[aG aF fk,aG aF fm] 51)).alloc (aK #[aG aF tk,aG aF tm] 51))):=η (σ.alloc (by simp) _);have oC:Hid (((w.alloc (aK #[aG aF fk,aG aF fm] 51)).alloc (aK #[aG aF tk,aG aF tm] 51)).heap[w.heap.size]? =aC (aK #[aG aF fk,aG aF fm] 51 (0,0))):=η ((fL _ _ (by simp)).trans (cQ w _));have kU:Hid (((w.alloc (aK #[aG aF fk,aG aF fm] 51)).alloc (aK #[aG aF tk,aG aF tm] 51)).heap[w.heap.size+1]? =aC (aK #[aG aF tk,aG aF tm] 51 (0,0))):=η (by have h:=cQ (w.alloc (aK #[aG aF fk,aG aF fm] 51)) (aK #[aG aF tk,aG aF tm] 51);rwa [DK] at h);have hz0:((w.alloc (aK #[aG aF fk,aG aF fm] 51)).alloc (aK #[aG aF tk,aG aF tm] 51)).heap.size=w.heap.size+2:=by simp
 have HF:=η H;have HO:=η hO;have vJ:=η hS;have my:Hid (∀k,eW db p k->k<w.heap.size):=η (λk hk=>H.td hk);have jR:=η (H.below aY.o);have qh:=η (a2v db p D m a _ jR.o hm ha);have uO:=η FP;have om:=η mE;clear H hO hS FP mE;generalize oW D m a=se at*;go_enter aBE,aC0
 go_upto_region 1 with (fail)
 generalize (w.alloc (aK #[aG aF fk,aG aF fm] 51)).alloc (aK #[aG aF tk,aG aF tm] 51)=w1 at*;obtain⟨bx,bU⟩:∃bx,bx=w.heap.size:=⟨_,rfl⟩;have dJ:=η bU;rw [<-bU] at oC kU hz0 ⊢;clear bU;go_upto_region 2 with (go_at_call 118;refine qh.o.mono ?_;rintro e w2 ⟨rfl,hb2⟩;have aV:=η hb2;clear hb2)
 have cC:Hid (aa w.heap.size w w2):=η (aY.o.trans (aV.o.mono aY.o.size));have Ee:Hid (w2.heap[bx]? =aC (aK #[aG aF fk,aG aF fm] 51 (0,0))):=η ((aV.o.block bx (by omega)).trans oC.o);have Cw:Hid (w2.heap[bx+1]? =aC (aK #[aG aF tk,aG aF tm] 51 (0,0))):=η ((aV.o.block (bx+1) (by omega)).trans kU.o);have hz2:bx+1<w2.heap.size:=by have:=aV.o.size;omega
 have cJ:=η (jR.o.below aV.o);clear jR aV oC kU aY qh hz0;by_cases h1:se=0
 case neg=>
  have hb:(se==0)=aP:=by simpa using h1
  have mS:Hid (se≠0):=η h1;clear h1;go_wp2_with fail
  go_ret2;refine⟨?_, ?_⟩
  ·rw [HE.o,HV.o,ifP mS.o,ifP mS.o];rfl
  rw [rN.o,ifP mS.o];exact aq.bY HF.o cC.o
 subst h1;rw [ifN (by simp)] at HE HV rN;have sq:=η (vJ.o w2 cJ.o);go_upto_region 5 with (go_at_call 60;refine sq.o.mono ?_;intro e w3 h3;obtain⟨rfl,h4⟩:=cJ.o.Fx h3;have ou:=η h4;clear h3 h4)
 have Lm:Hid (aq db p {D with ob:=cT} w w3):=η (aq.trans (bA.bY _ cC.o) (λ_ h=> .inl h) ⟨rfl,rfl,rfl,rfl⟩ ou.o);by_cases h2:E=0
 case neg=>
  have hb:(E==0)=aP:=by simpa using h2
  have mS:Hid (E≠0):=η h2;clear h2;go_wp2_with fail
  go_ret2;refine⟨?_, ?_⟩
  ·rw [HE.o,HV.o,ifP mS.o,ifP mS.o];rfl
  rw [rN.o,ifP mS.o];exact Lm.o
 subst h2;rw [ifN (by simp)] at HE HV rN;have kM:=om.o rfl;have bX:Hid (∀k,eW db p k->k<bx):=η (λk hk=>by rw [dJ.o];exact my.o k hk);have Cx:Hid (w3.heap[bx]? =aC (aK #[aG aF fk,aG aF fm] 51 (0,0))):=η (by obtain⟨_,_,_,_,_,_,hu,_⟩:=ou.o;exact(hu.keep bx (by omega) (λh=>by have:=bX.o _ h;omega)).trans Ee.o);have yQ:Hid (w3.heap[bx+1]? =aC (aK #[aG aF tk,aG aF tm] 51 (0,0))):=η (by obtain⟨_,_,_,_,_,_,hu,_⟩:=ou.o;exact(hu.keep (bx+1) hz2 (λh=>by have:=bX.o _ h;omega)).trans Cw.o);have hz3:bx+1<w3.heap.size:=by obtain⟨_,_,_,_,_,_,hu,_⟩:=ou.o;have:=hu.size;omega
 obtain⟨p3,H3,e1,e2,e3,e4,qU,hs3⟩:=ou.o;have wV:=η H3;have eB:Hid (∀W D2,aq db p3 D2 w3 W->aq db p D2 w W):=η (λW D2 h=>aq.trans (bA.bY _ cC.o) (λ_ h=> .inl h) ⟨rfl,rfl,rfl,rfl⟩ (aq.trans qU hs3 ⟨e1,e2,e3,e4⟩ h));have zK:Hid (∀k,eW db p3 k->k≠bx/\k≠bx+1):=η (by
  intro k hk;rcases hs3 k hk with h|h
  ·have:=bX.o k h;omega
  omega)
 have NC:fZ {D with ob:=cT}:=⟨HO.o.lI,HO.o.hl,HO.o.wl,HO.o.gl,uO.o,HO.o.bl,HO.o.st⟩;clear H3 e1 e2 e3 e4 qU hs3 ou Lm cJ Ee Cw hz2 cC bX my sq vJ om;go_upto_region 7 with (fail)
 have lu:=η (Hw db p3 {D with ob:=cT} fk fm tk tm a n w3.drew (wV.o.below (aX _ _).drew) NC hf ht ha hn kM);have d0:w3.drew.cell? ⟨db,8,aB⟩=aC (bD (aC ⟨p3.vb,0,aB⟩)):=wV.o.cells.c8;have d1:w3.drew.cell? ⟨bx,0,aB⟩=aC (aG aF fk):=ρ Cx.o;have d2:w3.drew.cell? ⟨bx,1,aB⟩=aC (aG aF fm):=ρ Cx.o;have d3:w3.drew.cell? ⟨bx+1,0,aB⟩=aC (aG aF tk):=ρ yQ.o;have d4:w3.drew.cell? ⟨bx+1,1,aB⟩=aC (aG aF tm):=ρ yQ.o;have hzd:bx+1<w3.drew.heap.size:=hz3;go_region_held3 (λW=>W.cell? ⟨db,8,aB⟩=aC (bD (aC ⟨p3.vb,0,aB⟩))/\W.cell? ⟨bx,0,aB⟩=aC (aG aF fk)/\W.cell? ⟨bx,1,aB⟩=aC (aG aF fm)/\W.cell? ⟨bx+1,0,aB⟩=aC (aG aF tk)/\W.cell? ⟨bx+1,1,aB⟩=aC (aG aF tm)) (first|(with_reducible exact⟨d0,d1,d2,d3,d4⟩)|(with_reducible exact⟨m0,m1,m2,m3,m4⟩)) ((go_at_call 87;refine lu.o.mono ?_;rintro e w7 ⟨rfl,dH,m0⟩;have m1:=(dH.cell 0 (by omega) (λh=>(zK.o bx h).1 rfl)).trans d1;have m2:=(dH.cell 1 (by omega) (λh=>(zK.o bx h).1 rfl)).trans d2;have m3:=(dH.cell 0 hzd (λh=>(zK.o (bx+1) h).2 rfl)).trans d3;have m4:=(dH.cell 1 hzd (λh=>(zK.o (bx+1) h).2 rfl)).trans d4))
 have gD:Hid (aq db p3 {D with ob:=cT,l:=bj {D with ob:=cT} fk fm tk tm a n} w3 w7):=η (aq.trans (bA.bY _ (aX _ _).drew) (λ_ h=> .inl h) ⟨rfl,rfl,rfl,rfl⟩ dH);clear dH m0 m1 m2 m3 m4 d0 d1 d2 d3 d4 hzd lu Cx yQ hz3 zK NC wV;obtain⟨p4,H4,e1,e2,e3,e4,qV,j8⟩:=gD.o;have ki:=η (H4.below ((aX w7.heap.size w7).alloc (aZ _) (aK #[aG aF kd,aG aF m,aG aF a,aG aF n,aG aF 0] 45)));have km:=η (xP db p4 {D with ob:=cT,l:=bj {D with ob:=cT} fk fm tk tm a n} [⟨kd,m,a,n,0⟩] w7.heap.size 1 _ ki.o (dS w7 45 #[aG aF kd,aG aF m,aG aF a,aG aF n,aG aF 0] rfl) (by simp) (by simp) (by have:=HO.o.gl;simp only;omega));have px:Hid (∀W,aq db p4 {D with ob:=cT,l:=bj {D with ob:=cT} fk fm tk tm a n,log:=D.log++ [⟨kd,m,a,n,0⟩]} (w7.alloc (aK #[aG aF kd,aG aF m,aG aF a,aG aF n,aG aF 0] 45)) W->aq db p {D with ob:=cT,l:=bj {D with ob:=cT} fk fm tk tm a n,log:=D.log++ [⟨kd,m,a,n,0⟩]} w W):=η (λW h=>eB.o W _ (aq.trans qV j8 ⟨e1,e2,e3,e4⟩ (aq.trans (bA.bY _ σ) (λ_ h=> .inl h) ⟨rfl,rfl,rfl,rfl⟩ h)));clear H4 e1 e2 e3 e4 qV j8 gD;go_upto_region 9 with (go_at_call 55;refine km.o.mono ?_;rintro e w8 ⟨rfl,h8⟩;have rT:=η (px.o _ h8);clear h8)
 obtain⟨p5,h5,-⟩:=rT.o;have c9:=h5.cells.c9;have Tj:=η (a6A cT m a p5.sv p5.sb 0 w8 h5.sh uO.o);clear h5 px km ki eB;generalize Br m a cT=lv1 at*;generalize Bq m a cT=le1 at*;go_wp2_with (go_at_call 119;refine Tj.o.mono ?_;rintro e w9 ⟨rfl,ez⟩;have GR:=η (rT.o.below ez);clear ez)
 go_ret2;refine⟨?_, ?_⟩
 ·rw [HE.o,HV.o];rfl
 rw [rN.o];exact GR.o
theorem aF6(db:Nat)(p:Dp)(D:Dk)(m a n fk fm tk tm kd E:Int)(cT:List Ob)(w:aJ)(H:bV w db p D)(hO:fZ D)(hm:aL m)(ha:aL a)(hn:aL n)(hf:aL fk/\aL fm)(ht:aL tk/\aL tm)
 (FP:sX cT) (mE:E=0->0<=n) (hS:∀W,bV W db p D->aQ aM 84 #[bD (aC ⟨p.sb,0,aB⟩),aG aF m,aG aF a,aG aF n] W (Gu p.sb 0 p.sv cT E W)):
 aQ aM 59 #[bD (aC ⟨db,0,aB⟩),aG aF m,aG aF a,aG aF n,.func (.func 84) #[bD (aC ⟨p.sb,0,aB⟩)] #[],bP #[aG aF fk,aG aF fm],bP #[aG aF tk,aG aF tm],aG aF kd] w (CR db p (pU D m a n fk fm tk tm kd E cT) (Bw D m a E cT) (Bv D m a E cT) w):=by
 have HE:Hid (Bv D m a E cT=if oW D m a≠0 then oW D m a else if E≠0 then E else Bq m a cT):=η rfl;have HV:Hid (Bw D m a E cT=if oW D m a≠0 then 0 else if E≠0 then 0 else Br m a cT):=η rfl;have rN:Hid (pU D m a n fk fm tk tm kd E cT=if oW D m a≠0 then D else if E≠0 then {D with ob:=cT} else {D with ob:=cT,l:=bj D fk fm tk tm a n,log:=D.log++ [⟨kd,m,a,n,0⟩]}):=η rfl;have aY:Hid (aa w.heap.size w ((w.alloc (aK #[aG aF fk,aG aF fm] 51)).alloc (aK #[aG aF tk,aG aF tm] 51))):=η (σ.alloc (by simp) _);have oC:Hid (((w.alloc (aK #[aG aF fk,aG aF fm] 51)).alloc (aK #[aG aF tk,aG aF tm] 51)).heap[w.heap.size]? =aC (aK #[aG aF fk,aG aF fm] 51 (0,0))):=η ((fL _ _ (by simp)).trans (cQ w _));have kU:Hid (((w.alloc (aK #[aG aF fk,aG aF fm] 51)).alloc (aK #[aG aF tk,aG aF tm] 51)).heap[w.heap.size+1]? =aC (aK #[aG aF tk,aG aF tm] 51 (0,0))):=η (by have h:=cQ (w.alloc (aK #[aG aF fk,aG aF fm] 51)) (aK #[aG aF tk,aG aF tm] 51);rwa [DK] at h);have hz0:((w.alloc (aK #[aG aF fk,aG aF fm] 51)).alloc (aK #[aG aF tk,aG aF tm] 51)).heap.size=w.heap.size+2:=by simp
 have HF:=η H;have HO:=η hO;have vJ:=η hS;have my:Hid (∀k,eW db p k->k<w.heap.size):=η (λk hk=>H.td hk);have jR:=η (H.below aY.o);have qh:=η (a2v db p D m a _ jR.o hm ha);have uO:=η FP;have om:=η mE;clear H hO hS FP mE;generalize oW D m a=se at*;go_enter aBE,aC0
 go_upto_region 1 with (fail)
 generalize (w.alloc (aK #[aG aF fk,aG aF fm] 51)).alloc (aK #[aG aF tk,aG aF tm] 51)=w1 at*;obtain⟨bx,bU⟩:∃bx,bx=w.heap.size:=⟨_,rfl⟩;have dJ:=η bU;rw [<-bU] at oC kU hz0 ⊢;clear bU;go_upto_region 2 with (go_at_call 118;refine qh.o.mono ?_;rintro e w2 ⟨rfl,hb2⟩;have aV:=η hb2;clear hb2)
 have cC:Hid (aa w.heap.size w w2):=η (aY.o.trans (aV.o.mono aY.o.size));have Ee:Hid (w2.heap[bx]? =aC (aK #[aG aF fk,aG aF fm] 51 (0,0))):=η ((aV.o.block bx (by omega)).trans oC.o);have Cw:Hid (w2.heap[bx+1]? =aC (aK #[aG aF tk,aG aF tm] 51 (0,0))):=η ((aV.o.block (bx+1) (by omega)).trans kU.o);have hz2:bx+1<w2.heap.size:=by have:=aV.o.size;omega
 have cJ:=η (jR.o.below aV.o);clear jR aV oC kU aY qh hz0;by_cases h1:se=0
 case neg=>
  have hb:(se==0)=aP:=by simpa using h1
  have mS:Hid (se≠0):=η h1;clear h1;go_wp2_with fail
  go_ret2;refine⟨?_, ?_⟩
  ·rw [HE.o,HV.o,ifP mS.o,ifP mS.o];rfl
  rw [rN.o,ifP mS.o];exact aq.bY HF.o cC.o
 subst h1;rw [ifN (by simp)] at HE HV rN;have sq:=η (vJ.o w2 cJ.o);go_upto_region 5 with (go_at_call 84;refine sq.o.mono ?_;intro e w3 h3;obtain⟨rfl,h4⟩:=cJ.o.Fx h3;have ou:=η h4;clear h3 h4)
 have Lm:Hid (aq db p {D with ob:=cT} w w3):=η (aq.trans (bA.bY _ cC.o) (λ_ h=> .inl h) ⟨rfl,rfl,rfl,rfl⟩ ou.o);by_cases h2:E=0
 case neg=>
  have hb:(E==0)=aP:=by simpa using h2
  have mS:Hid (E≠0):=η h2;clear h2;go_wp2_with fail
  go_ret2;refine⟨?_, ?_⟩
  ·rw [HE.o,HV.o,ifP mS.o,ifP mS.o];rfl
  rw [rN.o,ifP mS.o];exact Lm.o
 subst h2;rw [ifN (by simp)] at HE HV rN;have kM:=om.o rfl;have bX:Hid (∀k,eW db p k->k<bx):=η (λk hk=>by rw [dJ.o];exact my.o k hk);have Cx:Hid (w3.heap[bx]? =aC (aK #[aG aF fk,aG aF fm] 51 (0,0))):=η (by obtain⟨_,_,_,_,_,_,hu,_⟩:=ou.o;exact(hu.keep bx (by omega) (λh=>by have:=bX.o _ h;omega)).trans Ee.o);have yQ:Hid (w3.heap[bx+1]? =aC (aK #[aG aF tk,aG aF tm] 51 (0,0))):=η (by obtain⟨_,_,_,_,_,_,hu,_⟩:=ou.o;exact(hu.keep (bx+1) hz2 (λh=>by have:=bX.o _ h;omega)).trans Cw.o);have hz3:bx+1<w3.heap.size:=by obtain⟨_,_,_,_,_,_,hu,_⟩:=ou.o;have:=hu.size;omega
 obtain⟨p3,H3,e1,e2,e3,e4,qU,hs3⟩:=ou.o;have wV:=η H3;have eB:Hid (∀W D2,aq db p3 D2 w3 W->aq db p D2 w W):=η (λW D2 h=>aq.trans (bA.bY _ cC.o) (λ_ h=> .inl h) ⟨rfl,rfl,rfl,rfl⟩ (aq.trans qU hs3 ⟨e1,e2,e3,e4⟩ h));have zK:Hid (∀k,eW db p3 k->k≠bx/\k≠bx+1):=η (by
  intro k hk;rcases hs3 k hk with h|h
  ·have:=bX.o k h;omega
  omega)
 have NC:fZ {D with ob:=cT}:=⟨HO.o.lI,HO.o.hl,HO.o.wl,HO.o.gl,uO.o,HO.o.bl,HO.o.st⟩;clear H3 e1 e2 e3 e4 qU hs3 ou Lm cJ Ee Cw hz2 cC bX my sq vJ om;go_upto_region 7 with (fail)
 have lu:=η (Hw db p3 {D with ob:=cT} fk fm tk tm a n w3.drew (wV.o.below (aX _ _).drew) NC hf ht ha hn kM);have d0:w3.drew.cell? ⟨db,8,aB⟩=aC (bD (aC ⟨p3.vb,0,aB⟩)):=wV.o.cells.c8;have d1:w3.drew.cell? ⟨bx,0,aB⟩=aC (aG aF fk):=ρ Cx.o;have d2:w3.drew.cell? ⟨bx,1,aB⟩=aC (aG aF fm):=ρ Cx.o;have d3:w3.drew.cell? ⟨bx+1,0,aB⟩=aC (aG aF tk):=ρ yQ.o;have d4:w3.drew.cell? ⟨bx+1,1,aB⟩=aC (aG aF tm):=ρ yQ.o;have hzd:bx+1<w3.drew.heap.size:=hz3;go_region_held3 (λW=>W.cell? ⟨db,8,aB⟩=aC (bD (aC ⟨p3.vb,0,aB⟩))/\W.cell? ⟨bx,0,aB⟩=aC (aG aF fk)/\W.cell? ⟨bx,1,aB⟩=aC (aG aF fm)/\W.cell? ⟨bx+1,0,aB⟩=aC (aG aF tk)/\W.cell? ⟨bx+1,1,aB⟩=aC (aG aF tm)) (first|(with_reducible exact⟨d0,d1,d2,d3,d4⟩)|(with_reducible exact⟨m0,m1,m2,m3,m4⟩)) ((go_at_call 87;refine lu.o.mono ?_;rintro e w7 ⟨rfl,dH,m0⟩;have m1:=(dH.cell 0 (by omega) (λh=>(zK.o bx h).1 rfl)).trans d1;have m2:=(dH.cell 1 (by omega) (λh=>(zK.o bx h).1 rfl)).trans d2;have m3:=(dH.cell 0 hzd (λh=>(zK.o (bx+1) h).2 rfl)).trans d3;have m4:=(dH.cell 1 hzd (λh=>(zK.o (bx+1) h).2 rfl)).trans d4))
 have gD:Hid (aq db p3 {D with ob:=cT,l:=bj {D with ob:=cT} fk fm tk tm a n} w3 w7):=η (aq.trans (bA.bY _ (aX _ _).drew) (λ_ h=> .inl h) ⟨rfl,rfl,rfl,rfl⟩ dH);clear dH m0 m1 m2 m3 m4 d0 d1 d2 d3 d4 hzd lu Cx yQ hz3 zK NC wV;obtain⟨p4,H4,e1,e2,e3,e4,qV,j8⟩:=gD.o;have ki:=η (H4.below ((aX w7.heap.size w7).alloc (aZ _) (aK #[aG aF kd,aG aF m,aG aF a,aG aF n,aG aF 0] 45)));have km:=η (xP db p4 {D with ob:=cT,l:=bj {D with ob:=cT} fk fm tk tm a n} [⟨kd,m,a,n,0⟩] w7.heap.size 1 _ ki.o (dS w7 45 #[aG aF kd,aG aF m,aG aF a,aG aF n,aG aF 0] rfl) (by simp) (by simp) (by have:=HO.o.gl;simp only;omega));have px:Hid (∀W,aq db p4 {D with ob:=cT,l:=bj {D with ob:=cT} fk fm tk tm a n,log:=D.log++ [⟨kd,m,a,n,0⟩]} (w7.alloc (aK #[aG aF kd,aG aF m,aG aF a,aG aF n,aG aF 0] 45)) W->aq db p {D with ob:=cT,l:=bj {D with ob:=cT} fk fm tk tm a n,log:=D.log++ [⟨kd,m,a,n,0⟩]} w W):=η (λW h=>eB.o W _ (aq.trans qV j8 ⟨e1,e2,e3,e4⟩ (aq.trans (bA.bY _ σ) (λ_ h=> .inl h) ⟨rfl,rfl,rfl,rfl⟩ h)));clear H4 e1 e2 e3 e4 qV j8 gD;go_upto_region 9 with (go_at_call 55;refine km.o.mono ?_;rintro e w8 ⟨rfl,h8⟩;have rT:=η (px.o _ h8);clear h8)
 obtain⟨p5,h5,-⟩:=rT.o;have c9:=h5.cells.c9;have Tj:=η (a6A cT m a p5.sv p5.sb 0 w8 h5.sh uO.o);clear h5 px km ki eB;generalize Br m a cT=lv1 at*;generalize Bq m a cT=le1 at*;go_wp2_with (go_at_call 119;refine Tj.o.mono ?_;rintro e w9 ⟨rfl,ez⟩;have GR:=η (rT.o.below ez);clear ez)
 go_ret2;refine⟨?_, ?_⟩
 ·rw [HE.o,HV.o];rfl
 rw [rN.o];exact GR.o
theorem aq.c9 {db:Nat} {p:Dp} {D:Dk} {w w':aJ}(h:aq db p D w w'):w'.cell? ⟨db,9,aB⟩=aC (bD (aC ⟨p.sb,0,aB⟩)):=by obtain⟨p1,H1,_,e2,_⟩:=h;rw [<-e2];exact H1.cells.c9
theorem aJP {m a n:Int} {L:List Ob}(h:j9 m a n L=0):0<=n:=by
 unfold j9 at h;split at h
 ·cases h
 split at h
 ·cases h
 split at h
 ·cases h
 omega
theorem aLL {m a n:Int} {L:List Ob}(h:lK m a n L=0):0<=n:=by
 unfold lK at h;split at h
 ·cases h
 split at h
 ·cases h
 split at h
 ·cases h
 omega
def KI(D:Dk)(er:Int):Int:=if D.st=1 then er else 11
def KJ(D:Dk)(v:Int):Int:=if D.st=1 then v else 0
def zv(D D':Dk):Dk:=if D.st=1 then D' else D
theorem a2f(db:Nat)(p:Dp)(D:Dk)(m a n:Int)(w:aJ)(H:bV w db p D)(hO:fZ D)(hm:aL m)(ha:aL a)(hn:aL n):
 aQ aM 27 #[π db,ν m,ν a,ν n] w (CR db p (zv D (pU D m a n 7 m 1 0 5 (j9 m a n D.ob) (kg m a n D.ob))) (KJ D (Bw D m a (j9 m a n D.ob) (kg m a n D.ob))) (KI D (Bv D m a (j9 m a n D.ob) (kg m a n D.ob))) w):=by
 have hb0:β w (w.alloc (aK #[ν 1] 3)):=(aX _ _).alloc (aZ _) _;have jS:=η (KD db p D 1 (aC ⟨w.heap.size,0,aB⟩) 1 _ (H.below hb0) (λj u hu=>⟨w.heap.size,0,rfl,by simp,by
  match j,hu with
  |0,hu=>exact(cM w #[ν 1] 3 0 rfl).trans (by simpa using hu)
  |j+1,hu=>simp at hu⟩))
 have lu:=η (λW (hW:β w W)=>aF5 db p D m a n 7 m 1 0 5 (j9 m a n D.ob) (kg m a n D.ob) W (H.below hW) hO hm ha hn ⟨by decide,hm⟩ ⟨by decide,by decide⟩ (aFf m a n hO.ob).1 aJP (λW' F9=>aIg D.ob m a n p.sv p.sb 0 W' F9.sh hO.ob hn.2));have HF:=η H;have aY:=η hb0;unfold zv KJ KI;generalize pU D m a n 7 m 1 0 5 (j9 m a n D.ob) (kg m a n D.ob)=D' at*;generalize Bw D m a (j9 m a n D.ob) (kg m a n D.ob)=mv at*;generalize Bv D m a (j9 m a n D.ob) (kg m a n D.ob)=me at*;by_cases h1:D.st=1
 case neg=>
  rw [ifN h1] at jS ⊢;rw [ifN h1,ifN h1];go_enter aB4,aBr
  go_wp2_with (go_at_call 51;refine κ jS.o aY λw1 aR=> ?_)
  go_ret2;exact⟨rfl,aq.bY HF.o aR.o⟩
 rw [ifP h1] at jS ⊢;rw [ifP h1,ifP h1];go_enter aB4,aBr
 go_upto_region 4 with (go_at_call 51;refine κ jS.o aY λw4 ar=> ?_)
 have lO:=η (HF.o.below ar.o);have bJ:=η (λW (hW:β w4 W)=>(lO.o.below hW).cells.c9);have eJ:=η (λW (hW:β w4 W)=>lu.o W (ar.o.trans (hW.mono ar.o.size)));have bQ:β w4 w4.drew:=(aX _ _).drew;have hdd:=bJ.o _ bQ;go_region_held3 (λW=>W.cell? ⟨db,9,aB⟩=aC (π p.sb)) (first|(with_reducible assumption)) (first|(go_at_call 61;refine(xM _).mono ?_;rintro e w5 ⟨rfl,gH⟩;have qQ:β w4 w5:=kB (by with_reducible assumption) (gH.mono (gX (by with_reducible assumption)));have hcc:=bJ.o _ qQ)|(go_at_call 49;refine(Et m _).mono ?_;rintro e w6 ⟨rfl,tV⟩;have xS:β w4 w6:=kB (by with_reducible assumption) (tV.mono (gX (by with_reducible assumption)));have rB:=bJ.o _ xS)|(go_at_call 59;refine(eJ.o _ (by with_reducible assumption)).mono ?_;rintro e w7 ⟨rfl,dH⟩;have hcm:=dH.c9))
 all_goals
  have gD:Hid (aq db p D' w w7):=η (aq.trans (bA.bY _ (ar.o.trans (Below.mono (by with_reducible assumption) ar.o.size))) (λ_ h=> .inl h) ⟨rfl,rfl,rfl,rfl⟩ dH);go_wp2
  go_ret2;exact⟨rfl,gD.o⟩
theorem aEo(db:Nat)(p:Dp)(D:Dk)(m a n:Int)(w:aJ)(H:bV w db p D)(hO:fZ D)(hm:aL m)(ha:aL a)(hn:aL n):
 aQ aM 35 #[π db,ν m,ν a,ν n] w (CR db p (zv D (pU D m a n 1 0 7 m 6 (lK m a n D.ob) (o7 m a n D.ob))) (KJ D (Bw D m a (lK m a n D.ob) (o7 m a n D.ob))) (KI D (Bv D m a (lK m a n D.ob) (o7 m a n D.ob))) w):=by
 have hb0:β w (w.alloc (aK #[ν 1] 3)):=(aX _ _).alloc (aZ _) _;have jS:=η (KD db p D 1 (aC ⟨w.heap.size,0,aB⟩) 1 _ (H.below hb0) (λj u hu=>⟨w.heap.size,0,rfl,by simp,by
  match j,hu with
  |0,hu=>exact(cM w #[ν 1] 3 0 rfl).trans (by simpa using hu)
  |j+1,hu=>simp at hu⟩))
 have lu:=η (λW (hW:β w W)=>aF6 db p D m a n 1 0 7 m 6 (lK m a n D.ob) (o7 m a n D.ob) W (H.below hW) hO hm ha hn ⟨by decide,by decide⟩ ⟨by decide,hm⟩ (aFg m a n hO.ob).1 aLL (λW' F9=>aIh D.ob m a n p.sv p.sb 0 W' F9.sh hO.ob hn.2));have HF:=η H;have aY:=η hb0;unfold zv KJ KI;generalize pU D m a n 1 0 7 m 6 (lK m a n D.ob) (o7 m a n D.ob)=D' at*;generalize Bw D m a (lK m a n D.ob) (o7 m a n D.ob)=mv at*;generalize Bv D m a (lK m a n D.ob) (o7 m a n D.ob)=me at*;by_cases h1:D.st=1
 case neg=>
  rw [ifN h1] at jS ⊢;rw [ifN h1,ifN h1];go_enter aBB,aBw
  go_wp2_with (go_at_call 51;refine κ jS.o aY λw1 aR=> ?_)
  go_ret2;exact⟨rfl,aq.bY HF.o aR.o⟩
 rw [ifP h1] at jS ⊢;rw [ifP h1,ifP h1];go_enter aBB,aBw
 go_upto_region 4 with (go_at_call 51;refine κ jS.o aY λw4 ar=> ?_)
 have lO:=η (HF.o.below ar.o);have bJ:=η (λW (hW:β w4 W)=>(lO.o.below hW).cells.c9);have eJ:=η (λW (hW:β w4 W)=>lu.o W (ar.o.trans (hW.mono ar.o.size)));have bQ:β w4 w4.drew:=(aX _ _).drew;have hdd:=bJ.o _ bQ;go_region_held3 (λW=>W.cell? ⟨db,9,aB⟩=aC (π p.sb)) (first|(with_reducible assumption)) (first|(go_at_call 61;refine(xM _).mono ?_;rintro e w5 ⟨rfl,gH⟩;have qQ:β w4 w5:=kB (by with_reducible assumption) (gH.mono (gX (by with_reducible assumption)));have hcc:=bJ.o _ qQ)|(go_at_call 49;refine(Et m _).mono ?_;rintro e w6 ⟨rfl,tV⟩;have xS:β w4 w6:=kB (by with_reducible assumption) (tV.mono (gX (by with_reducible assumption)));have rB:=bJ.o _ xS)|(go_at_call 59;refine(eJ.o _ (by with_reducible assumption)).mono ?_;rintro e w7 ⟨rfl,dH⟩;have hcm:=dH.c9))
 all_goals
  have gD:Hid (aq db p D' w w7):=η (aq.trans (bA.bY _ (ar.o.trans (Below.mono (by with_reducible assumption) ar.o.size))) (λ_ h=> .inl h) ⟨rfl,rfl,rfl,rfl⟩ dH);go_wp2
  go_ret2;exact⟨rfl,gD.o⟩
def ED(L:List Lg)(a:Int):Bool:=decide (yw L a≠0)||(decide (jy L a>kf a)||decide (ld L a>kf a))
def oX(L:List Lg):List Nat->Int->Int
 | [],r=>r
 |a::ks,r=>if ED L (a:Int)=aO then 2 else if jy L (a:Int)=ld L (a:Int) then oX L ks r else oX L ks 17
theorem aJu(A k:Nat)(h:k<A):(dQ A).drop k=k::(dQ A).drop (k+1):=by rw [Ju (by simpa using h)];simp
theorem aFG(db:Nat)(p:Dp)(D:Dk)(L:List Lg)(A:Option ai)(c:Nat)(w:aJ)(H:bV w db p D)(hs:aW w w.heap.size A (bB L))(hl:aA L<=100000)(hI:∀x∈L,aL x.n)(RG:aA D.x.ss<=100000):
 aQ aM 53 #[π db,aH A (aA L) c] w λe w'=>e=aT (ν (oX L (dQ (aA D.x.ss+1)) 0))/\β w w':=by
 have qh:=η (λW (hW:β w W) (k:Nat)=>aIV L (k:Int) A c W ((hs.below hW).mono hW.size) hl hI);have c1:=H.cells.c1;obtain⟨ee,he⟩:=xq (oX L (dQ (aA D.x.ss+1)) 0);rw [<-he];have wU:Hid (oX L ((dQ (aA D.x.ss+1)).drop 0) 0=ee):=η (by rw [he,List.drop_zero]);have aY:Hid (β w w):=η (aX _ _);generalize (aA D.x.ss)=n at*;go_enter func53,ntmps53
 go_wp2
 go_loopw [5,6,7,8,9,17] (λr _ _ _ _ i wr=>∃(k:Nat) (z:Int),k<=n+1/\i=ν (k:Int)/\r=ν z/\Hid (oX L ((dQ (n+1)).drop k) z=ee)/\Hid (β w wr)) (λ_ _ _ _ _ i _=>n+1-(ag i).toNat)
 ·exact⟨0,0,bM _,rfl,rfl,wU,aY⟩
 ·
  obtain⟨k,z,hk,rfl,rfl,HK,HB⟩:=hrel;by_cases hlt:k<n+1
  ·have sA:(k:Int)<(n:Int)+1:=by omega
   have HN:=η (qh.o wr HB.o k);have lq:Hid ((if ED L (k:Int)=aO then 2 else if jy L (k:Int)=ld L (k:Int) then oX L ((dQ (n+1)).drop (k+1)) z else oX L ((dQ (n+1)).drop (k+1)) 17)=ee):=η (by rw [<-HK.o,aJu _ _ hlt];rfl);have HW:Hid (ED L (k:Int)=(decide (yw L (k:Int)≠0)||(decide (jy L (k:Int)>kf (k:Int))||decide (ld L (k:Int)>kf (k:Int))))):=η rfl;have vG:=η (λW=>aEE (k:Int) W);unfold ZF at HN;generalize ED L (k:Int)=wb at*;generalize yw L (k:Int)=se at*;generalize jy L (k:Int)=so at*;generalize ld L (k:Int)=sc at*;generalize kf (k:Int)=mo at*;by_cases h1:se=0
   ·subst h1;rw [ifP rfl,ifP rfl] at HN;by_cases h2:so>mo
    ·have HF:Hid (2=ee):=η (by rw [<-lq.o,HW.o,ifP (by simp [h2])]);go_wp2_with (first|(go_at_call 105;refine κ HN.o HB λw1 aR=> ?_)|(go_at_call 106;refine(vG.o _).mono ?_;rintro e w2 ⟨rfl,rfl⟩))
     go_ret;exact⟨cW HF.o,aR.o⟩
    by_cases h3:sc>mo
    ·have HF:Hid (2=ee):=η (by rw [<-lq.o,HW.o,ifP (by simp [h3])]);go_wp2_with (first|(go_at_call 105;refine κ HN.o HB λw1 aR=> ?_)|(go_at_call 106;refine(vG.o _).mono ?_;rintro e w2 ⟨rfl,rfl⟩))
     go_ret;exact⟨cW HF.o,aR.o⟩
    have HWF:Hid (wb=aP):=η (by rw [HW.o];simp;omega);rw [HWF.o,ifN (by simp)] at lq;by_cases h4:so=sc
    ·subst h4;rw [ifP rfl] at lq;go_wp2_with (first|(go_at_call 105;refine κ HN.o HB λw1 aR=> ?_)|(go_at_call 106;refine(vG.o _).mono ?_;rintro e w2 ⟨rfl,rfl⟩))
     go_roundw
     ·exact⟨k+1,z,by omega,by go_num,rfl,lq,aR⟩
     simp [ag];omega
    rw [ifN h4] at lq;go_wp2_with (first|(go_at_call 105;refine κ HN.o HB λw1 aR=> ?_)|(go_at_call 106;refine(vG.o _).mono ?_;rintro e w2 ⟨rfl,rfl⟩))
    go_roundw
    ·exact⟨k+1,17,by omega,by go_num,rfl,lq,aR⟩
    simp [ag];omega
   have hb:(se==0)=aP:=by simpa using h1
   rw [ifN h1,ifN h1] at HN;have HF:Hid (2=ee):=η (by rw [<-lq.o,HW.o,ifP (by simp [h1])]);go_wp2_with (first|(go_at_call 105;refine κ HN.o HB λw1 aR=> ?_)|(go_at_call 106;refine(vG.o _).mono ?_;rintro e w2 ⟨rfl,rfl⟩))
   go_ret;exact⟨cW HF.o,aR.o⟩
  obtain rfl:k=n+1:=by omega
  have HF:Hid (z=ee):=η (by rw [<-HK.o,List.drop_of_length_le (by simp)];rfl);rw [show ((n+1:Nat):Int)=(n:Int)+1 by omega];go_wp2
  go_ret;exact⟨cW HF.o,HB.o⟩
theorem VP(L:List Lg)(A:Option ai)(c:Nat)(w:aJ)(hs:aW w w.heap.size A (bB L))(hI:∀x∈L,aL x.n)(hl:aA L<=100000):
 aQ aM 67 #[aH A (aA L) c] w λe w'=>e=aT (ν (ie L))/\β w w':=by
 have HS:=η (Ps L A c w hs hI hl);generalize ie L=sv at*;generalize dF L=se at*;go_enter func67,ntmps67
 go_wp2_with (go_at_call 129;refine mM HS.o λw1 aR=> ?_)
 go_ret;exact⟨rfl,aR⟩
def Kl(D:Dk)(n:Int):Int:=pV n (balA (aA D.x.ms) (aA D.x.ss+1) D.l 1 0 0)
theorem a2p(db:Nat)(p:Dp)(D:Dk)(n:Int)(w:aJ)(H:bV w db p D)(hn:aL n)(hb:aL (balA (aA D.x.ms) (aA D.x.ss+1) D.l 1 0 0)):
 aQ aM 66 #[π db,ν n] w λe w'=>e=aT (ν (Kl D n))/\β w w':=by
 have fC:=η (λW (hW:β w W)=>zq db p D 1 0 0 W (H.below hW) (by decide) (by decide));have zL:=η (λW=>VO n (balA (aA D.x.ms) (aA D.x.ss+1) D.l 1 0 0) hn hb W);unfold Kl;generalize balA (aA D.x.ms) (aA D.x.ss+1) D.l 1 0 0=bq at*;generalize pV n bq=ov at*;go_enter func66,ntmps66
 go_wp2_with (first|(go_at_call 61;refine mM (xM _) λw2 aV=> ?_)|(go_at_call 46;refine κ (fC.o _ aV.o) aV λw3 af=> ?_)|(go_at_call 86;refine κ (zL.o _) af λw4 ar=> ?_))
 go_ret;exact⟨rfl,ar⟩
def dy(D:Dk)(a:Int):List Lg:=(D.ob.filter λx=>x.st==1&&tM (pM a D.who) x).map Ob.claim
theorem MZ(db:Nat)(p:Dp)(D:Dk)(a:Int)(w:aJ)(H:bV w db p D)(hO:fZ D):
 aQ aM 68 #[π db,ν a] w (TD w (dy D a)):=by
 have l9:aA D.ob<=1000000:=by have:=hO.ob.len;omega
 have Az:=η (λW (hW:β w W)=>Nk D.ob p.sv p.sb 0 W (H.below hW).sh l9);obtain⟨Aw,cw,hv⟩:=bL H.who;have pD:=η (λW (hW:β w W)=>(show aW W W.heap.size Aw (D.who.map (aG aF)) by have h1:=(H.below hW).who;rw [hv] at h1;exact aW.cB h1));have bJ:=η (λW (hW:β w W)=>(show W.cell? ⟨db,9,aB⟩=aC (π p.sb)/\W.cell? ⟨db,11,aB⟩=aC (aH Aw (aA D.who) cw) from⟨(H.below hW).cells.c9,by rw [<-hv];exact(H.below hW).cells.c11⟩));have HI:Hid (∀x∈D.ob,aL x.az):=η (λx hx=>by have h:=hO.ob.each x hx;have h1:=h.lo;have h2:=h.hi;unfold gA at h1;unfold aL;omega);have Kh:aA D.who<=1000000:=by have:=hO.wl;omega
 go_enter func68,ntmps68
 go_upto_region 1 with (fail)
 have bQ:β w w.drew:=(aX _ _).drew;have hdd:=bJ.o _ bQ;go_region_held3 (λW=>W.cell? ⟨db,9,aB⟩=aC (π p.sb)/\W.cell? ⟨db,11,aB⟩=aC (aH Aw (aA D.who) cw)) (first|(with_reducible assumption)) (first|(go_at_call 43;refine(Az.o _ ‹_›).mono ?_;rintro e w1 ⟨v1,rfl,eT,hb1⟩;obtain⟨A1,c1,AQ⟩:=bL eT;subst AQ;have dZ:β w w1:=kB ‹_› (hb1.mono (gX ‹_›));have hcc:=bJ.o _ dZ)|(go_at_call 130;refine(aG2 D.ob A1 c1 a D.who Aw cw _ (aW.cB eT) l9 HI.o (pD.o _ dZ) Kh).mono ?_;rintro e w2 hg2;obtain⟨v2,h21,h22,h23⟩:=hg2;subst h21;have hb2:=dZ.trans (h23.mono dZ.size);have hc2:=bJ.o _ hb2))
 all_goals
  have dG:=η h22;have aV:=η hb2;have hz2:=dZ.size;go_wp2
  go_ret;exact⟨v2,rfl,iD dG.o hz2,aV.o⟩
theorem QN(D:Dk)(a:Int):aA (dy D a)<=aA D.ob:=by unfold dy;rw [iX];exact qo _ _
theorem Mk {D:Dk}(h:sX D.ob)(a:Int):∀x∈dy D a,aL x.n:=by intro x hx;unfold dy at hx;obtain⟨y,hy,rfl⟩:=di.1 hx;have h0:=h.each y (jG.1 hy).1;have h1:=h0.lo;have h2:=h0.hi;unfold Ob.claim aL;unfold gA at*;simp only;split<;>omega
theorem SY(L:List Lg):aL (ie L):=by
 unfold ie;split
 ·rename_i h;exact(BW h).2.2
 decide
def yX(D:Dk):Int:=pV (balA (aA D.x.ms) (aA D.x.ss+1) D.l 1 0 0) (ie (dy D 0))
def jP(D:Dk)(a:Int):Int:=Ab (balA (aA D.x.ms) (aA D.x.ss+1) D.l 1 0 a) (dy D a)
theorem aEs(db:Nat)(p:Dp)(D:Dk)(w:aJ)(H:bV w db p D)(hO:fZ D)(hb:aL (balA (aA D.x.ms) (aA D.x.ss+1) D.l 1 0 0)):
 aQ aM 135 #[π db] w λe w'=>e=aT (ν (yX D))/\β w w':=by
 have fC:=η (λW (hW:β w W)=>zq db p D 1 0 0 W (H.below hW) (by decide) (by decide));have yF:=η (λW (hW:β w W)=>MZ db p D 0 W (H.below hW) hO);have zL:=η (λW=>VO (balA (aA D.x.ms) (aA D.x.ss+1) D.l 1 0 0) (ie (dy D 0)) hb (SY _) W);have Cc:=η (Mk hO.ob 0);have jr:aA (dy D 0)<=100000:=by have h1:=QN D 0;have h2:=hO.ob.len;omega
 unfold yX;generalize balA (aA D.x.ms) (aA D.x.ss+1) D.l 1 0 0=bq at*;generalize dy D 0=L at*;have Lr:=η (λW A c (hs:aW W W.heap.size A (bB L))=>VP L A c W hs Cc jr);generalize ie L=sv at*;generalize pV bq sv=ov at*;go_enter func135,ntmps135
 go_wp2_with (first|(go_at_call 61;refine mM (xM _) λw2 aV=> ?_)|(go_at_call 46;refine κ (fC.o _ aV.o) aV λw3 af=> ?_)|(go_at_call 68;refine(yF _ af).mono ?_;rintro e w4 ⟨v4,rfl,iC,hb4⟩;have ar:=τ af hb4;obtain⟨A4,c4,hv4⟩:=bL iC;subst hv4;have dY:=η (aW.cB iC))|(go_at_call 67;refine κ (Lr.o _ _ _ dY.o) ar λw5 cY=> ?_)|(go_at_call 86;refine κ (zL.o _) cY λw6 gK=> ?_))
 go_ret;exact⟨rfl,gK⟩
theorem VU(db:Nat)(p:Dp)(D:Dk)(a:Int)(w:aJ)(H:bV w db p D)(hO:fZ D)(hb:aL (balA (aA D.x.ms) (aA D.x.ss+1) D.l 1 0 a)):
 aQ aM 69 #[π db,ν a] w λe w'=>e=aT (ν (jP D a))/\β w w':=by
 have fC:=η (λW (hW:β w W)=>zq db p D 1 0 a W (H.below hW) (by decide) (by decide));have yF:=η (λW (hW:β w W)=>MZ db p D a W (H.below hW) hO);have Cc:=η (Mk hO.ob a);have jr:aA (dy D a)<=100000:=by have h1:=QN D a;have h2:=hO.ob.len;omega
 have zD:=η hb;unfold jP;generalize balA (aA D.x.ms) (aA D.x.ss+1) D.l 1 0 a=bq at*;generalize dy D a=L at*;have vJ:=η (λW A c (hs:aW W W.heap.size A (bB L))=>a7U bq L A c W zD hs Cc jr);generalize Ab bq L=sv at*;generalize jO bq L=se at*;go_enter func69,ntmps69
 go_wp2_with (first|(go_at_call 61;refine mM (xM _) λw2 aV=> ?_)|(go_at_call 46;refine κ (fC.o _ aV.o) aV λw3 af=> ?_)|(go_at_call 68;refine(yF _ af).mono ?_;rintro e w4 ⟨v4,rfl,iC,hb4⟩;have ar:=τ af hb4;obtain⟨A4,c4,hv4⟩:=bL iC;subst hv4;have dY:=η (aW.cB iC))|(go_at_call 131;refine κ (vJ.o _ _ _ dY.o) ar λw5 cY=> ?_))
 go_ret;exact⟨rfl,cY⟩
def sP(a n dn:Int)(lost:Bool):Int:=if dn≥n then 2 else if a=0\/lost=aO then 5 else 4
def Bu(n dn:Int):Int:=if dn≥n then n else dn
theorem aF4(db:Nat)(p:Dp)(D:Dk)(m a n dn:Int)(lost:Bool)(w:aJ)(H:bV w db p D)(hO:fZ D):
 aQ aM 74 #[bD (aC ⟨db,0,aB⟩),bP #[aG aF m,aG aF a,aG aF n],aG aF dn,bK lost] w λe w'=>e=aT (bC #[])/\aq db p {D with ob:=lY m a (sP a n dn lost) (Bu n dn) D.ob} w w':=by
 have aY:Hid (aa w.heap.size w (w.alloc (aK #[aG aF m,aG aF a,aG aF n] 76))):=η σ;have cu:Hid ((w.alloc (aK #[aG aF m,aG aF a,aG aF n] 76)).heap[w.heap.size]? =aC (aK #[aG aF m,aG aF a,aG aF n] 76 (0,0))):=η (cQ w _);have hz0:w.heap.size<(w.alloc (aK #[aG aF m,aG aF a,aG aF n] 76)).heap.size:=by simp
 have HF:=η H;have OU:=η hO.ob;have my:Hid (∀k,eW db p k->k<w.heap.size):=η (λk hk=>H.td hk);clear H hO;go_enter func74,ntmps74
 go_upto_region 1 with (fail)
 generalize w.alloc (aK #[aG aF m,aG aF a,aG aF n] 76)=w1 at*;obtain⟨bx,bU⟩:∃bx,bx=w.heap.size:=⟨_,rfl⟩;have dJ:=η bU;rw [<-bU] at cu hz0 ⊢;clear bU;have c1:w1.cell? ⟨bx,1,aB⟩=aC (aG aF a):=ρ cu.o;have c2:w1.cell? ⟨bx,2,aB⟩=aC (aG aF n):=ρ cu.o;by_cases h1:dn≥n
 ·have HS:Hid (sP a n dn lost=2):=η (by unfold sP;rw [ifP h1]);have HN:Hid (Bu n dn=n):=η (by unfold Bu;rw [ifP h1]);go_upto_region 3 with (fail)
  go_quiet (fail)
  clear c1 c2;go_upto_region 6 with (fail)
  have aV:Hid (aa w1.heap.size w1 (w1.drewN nq)):=η (below_drewN (aX _ _) nq);have kU:Hid ((w1.drewN nq).heap[bx]? =aC (aK #[aG aF m,aG aF a,aG aF n] 76 (0,0))):=η cu.o;have hz2:bx<(w1.drewN nq).heap.size:=hz0;have cJ:Hid (bV (w1.drewN nq).drew db p D):=η (HF.o.below (aY.o.trans ((aV.o.mono aY.o.size).trans ((aX _ _).drew.mono (bz aY.o.size aV.o.size)))));have iw:Hid (aa w.heap.size w (w1.drewN nq).drew):=η (aY.o.trans ((aV.o.mono aY.o.size).trans ((aX _ _).drew.mono (bz aY.o.size aV.o.size))));have rQ:=η (Nl D.ob m a 2 n p.sv p.sb 0 (w1.drewN nq).drew cJ.o.sh OU.o);have d9:(w1.drewN nq).drew.cell? ⟨db,9,aB⟩=aC (bD (aC ⟨p.sb,0,aB⟩)):=cJ.o.cells.c9;have d0:(w1.drewN nq).drew.cell? ⟨bx,0,aB⟩=aC (aG aF m):=ρ kU.o;have d1:(w1.drewN nq).drew.cell? ⟨bx,1,aB⟩=aC (aG aF a):=ρ kU.o;have hzd:bx<(w1.drewN nq).drew.heap.size:=hz2;have bX:Hid (¬eW db p bx):=η (λh=>by have:=my.o bx h;rw [dJ.o] at this;omega);go_region_held3 (λW=>W.cell? ⟨db,9,aB⟩=aC (bD (aC ⟨p.sb,0,aB⟩))/\W.cell? ⟨bx,0,aB⟩=aC (aG aF m)/\W.cell? ⟨bx,1,aB⟩=aC (aG aF a)) (first|(with_reducible exact⟨d9,d0,d1⟩)|(with_reducible exact⟨m9,m0,m1⟩)) ((go_at_call 124;refine rQ.o.mono ?_;intro e w7 h7;obtain⟨rfl,dH⟩:=cJ.o.Fx h7;have m9:=dH.c9;have m0:=(dH.cell 0 hzd bX.o).trans d0;have m1:=(dH.cell 1 hzd bX.o).trans d1))
  have gD:Hid (aq db p {D with ob:=lY m a 2 n D.ob} w w7):=η (aq.trans (bA.bY _ iw.o) (λ_ h=> .inl h) ⟨rfl,rfl,rfl,rfl⟩ dH);clear dH h7 m9 m0 m1 d9 d0 d1 hzd rQ;go_wp2_with fail
  go_end0
  refine⟨rfl, ?_⟩;rw [HS.o,HN.o];exact gD.o
 have HN:Hid (Bu n dn=dn):=η (by unfold Bu;rw [ifN h1]);have ub:dn<n:=by omega
 by_cases h2:a=0
 ·have HS:Hid (sP a n dn lost=5):=η (by unfold sP;rw [ifN h1,ifP (.inl h2)]);subst h2;clear h1;go_upto_region 6 with (fail)
  have aV:Hid (aa w1.heap.size w1 w1):=η (aX _ _);have kU:Hid (w1.heap[bx]? =aC (aK #[aG aF m,aG aF 0,aG aF n] 76 (0,0))):=η cu.o;have hz2:bx<w1.heap.size:=hz0;have cJ:Hid (bV w1.drew db p D):=η (HF.o.below (aY.o.trans ((aV.o.mono aY.o.size).trans ((aX _ _).drew.mono (bz aY.o.size aV.o.size)))));have iw:Hid (aa w.heap.size w w1.drew):=η (aY.o.trans ((aV.o.mono aY.o.size).trans ((aX _ _).drew.mono (bz aY.o.size aV.o.size))));have rQ:=η (Nl D.ob m 0 5 dn p.sv p.sb 0 w1.drew cJ.o.sh OU.o);have d9:w1.drew.cell? ⟨db,9,aB⟩=aC (bD (aC ⟨p.sb,0,aB⟩)):=cJ.o.cells.c9;have d0:w1.drew.cell? ⟨bx,0,aB⟩=aC (aG aF m):=ρ kU.o;have d1:w1.drew.cell? ⟨bx,1,aB⟩=aC (aG aF 0):=ρ kU.o;have hzd:bx<w1.drew.heap.size:=hz2;have bX:Hid (¬eW db p bx):=η (λh=>by have:=my.o bx h;rw [dJ.o] at this;omega);go_region_held3 (λW=>W.cell? ⟨db,9,aB⟩=aC (bD (aC ⟨p.sb,0,aB⟩))/\W.cell? ⟨bx,0,aB⟩=aC (aG aF m)/\W.cell? ⟨bx,1,aB⟩=aC (aG aF 0)) (first|(with_reducible exact⟨d9,d0,d1⟩)|(with_reducible exact⟨m9,m0,m1⟩)) ((go_at_call 124;refine rQ.o.mono ?_;intro e w7 h7;obtain⟨rfl,dH⟩:=cJ.o.Fx h7;have m9:=dH.c9;have m0:=(dH.cell 0 hzd bX.o).trans d0;have m1:=(dH.cell 1 hzd bX.o).trans d1))
  have gD:Hid (aq db p {D with ob:=lY m 0 5 dn D.ob} w w7):=η (aq.trans (bA.bY _ iw.o) (λ_ h=> .inl h) ⟨rfl,rfl,rfl,rfl⟩ dH);clear dH h7 m9 m0 m1 d9 d0 d1 hzd rQ;go_wp2_with fail
  go_end0
  refine⟨rfl, ?_⟩;rw [HS.o,HN.o];exact gD.o
 have hb:(a==0)=aP:=by simpa using h2
 cases lost with
 |true=>
  have HS:Hid (sP a n dn aO=5):=η (by unfold sP;rw [ifN h1,ifP (.inr rfl)]);clear h1;go_upto_region 6 with (fail)
  have aV:Hid (aa w1.heap.size w1 w1):=η (aX _ _);have kU:Hid (w1.heap[bx]? =aC (aK #[aG aF m,aG aF a,aG aF n] 76 (0,0))):=η cu.o;have hz2:bx<w1.heap.size:=hz0;have cJ:Hid (bV w1.drew db p D):=η (HF.o.below (aY.o.trans ((aV.o.mono aY.o.size).trans ((aX _ _).drew.mono (bz aY.o.size aV.o.size)))));have iw:Hid (aa w.heap.size w w1.drew):=η (aY.o.trans ((aV.o.mono aY.o.size).trans ((aX _ _).drew.mono (bz aY.o.size aV.o.size))));have rQ:=η (Nl D.ob m a 5 dn p.sv p.sb 0 w1.drew cJ.o.sh OU.o);have d9:w1.drew.cell? ⟨db,9,aB⟩=aC (bD (aC ⟨p.sb,0,aB⟩)):=cJ.o.cells.c9;have d0:w1.drew.cell? ⟨bx,0,aB⟩=aC (aG aF m):=ρ kU.o;have d1:w1.drew.cell? ⟨bx,1,aB⟩=aC (aG aF a):=ρ kU.o;have hzd:bx<w1.drew.heap.size:=hz2;have bX:Hid (¬eW db p bx):=η (λh=>by have:=my.o bx h;rw [dJ.o] at this;omega);go_region_held3 (λW=>W.cell? ⟨db,9,aB⟩=aC (bD (aC ⟨p.sb,0,aB⟩))/\W.cell? ⟨bx,0,aB⟩=aC (aG aF m)/\W.cell? ⟨bx,1,aB⟩=aC (aG aF a)) (first|(with_reducible exact⟨d9,d0,d1⟩)|(with_reducible exact⟨m9,m0,m1⟩)) ((go_at_call 124;refine rQ.o.mono ?_;intro e w7 h7;obtain⟨rfl,dH⟩:=cJ.o.Fx h7;have m9:=dH.c9;have m0:=(dH.cell 0 hzd bX.o).trans d0;have m1:=(dH.cell 1 hzd bX.o).trans d1))
  have gD:Hid (aq db p {D with ob:=lY m a 5 dn D.ob} w w7):=η (aq.trans (bA.bY _ iw.o) (λ_ h=> .inl h) ⟨rfl,rfl,rfl,rfl⟩ dH);clear dH h7 m9 m0 m1 d9 d0 d1 hzd rQ;go_wp2_with fail
  go_end0
  refine⟨rfl, ?_⟩;rw [HS.o,HN.o];exact gD.o
 |false=>
  have HS:Hid (sP a n dn aP=4):=η (by unfold sP;rw [ifN h1,ifN (by simp [h2])]);clear h1;go_upto_region 6 with (fail)
  have aV:Hid (aa w1.heap.size w1 w1):=η (aX _ _);have kU:Hid (w1.heap[bx]? =aC (aK #[aG aF m,aG aF a,aG aF n] 76 (0,0))):=η cu.o;have hz2:bx<w1.heap.size:=hz0;have cJ:Hid (bV w1.drew db p D):=η (HF.o.below (aY.o.trans ((aV.o.mono aY.o.size).trans ((aX _ _).drew.mono (bz aY.o.size aV.o.size)))));have iw:Hid (aa w.heap.size w w1.drew):=η (aY.o.trans ((aV.o.mono aY.o.size).trans ((aX _ _).drew.mono (bz aY.o.size aV.o.size))));have rQ:=η (Nl D.ob m a 4 dn p.sv p.sb 0 w1.drew cJ.o.sh OU.o);have d9:w1.drew.cell? ⟨db,9,aB⟩=aC (bD (aC ⟨p.sb,0,aB⟩)):=cJ.o.cells.c9;have d0:w1.drew.cell? ⟨bx,0,aB⟩=aC (aG aF m):=ρ kU.o;have d1:w1.drew.cell? ⟨bx,1,aB⟩=aC (aG aF a):=ρ kU.o;have hzd:bx<w1.drew.heap.size:=hz2;have bX:Hid (¬eW db p bx):=η (λh=>by have:=my.o bx h;rw [dJ.o] at this;omega);go_region_held3 (λW=>W.cell? ⟨db,9,aB⟩=aC (bD (aC ⟨p.sb,0,aB⟩))/\W.cell? ⟨bx,0,aB⟩=aC (aG aF m)/\W.cell? ⟨bx,1,aB⟩=aC (aG aF a)) (first|(with_reducible exact⟨d9,d0,d1⟩)|(with_reducible exact⟨m9,m0,m1⟩)) ((go_at_call 124;refine rQ.o.mono ?_;intro e w7 h7;obtain⟨rfl,dH⟩:=cJ.o.Fx h7;have m9:=dH.c9;have m0:=(dH.cell 0 hzd bX.o).trans d0;have m1:=(dH.cell 1 hzd bX.o).trans d1))
  have gD:Hid (aq db p {D with ob:=lY m a 4 dn D.ob} w w7):=η (aq.trans (bA.bY _ iw.o) (λ_ h=> .inl h) ⟨rfl,rfl,rfl,rfl⟩ dH);clear dH h7 m9 m0 m1 d9 d0 d1 hzd rQ;go_wp2_with fail
  go_end0
  refine⟨rfl, ?_⟩;rw [HS.o,HN.o];exact gD.o
def leave1(D:Dk)(a:Int):Dk:=if 0<balA (aA D.x.ms) (aA D.x.ss+1) D.l 1 0 a then {D with l:=bj D 1 0 2 0 a (balA (aA D.x.ms) (aA D.x.ss+1) D.l 1 0 a),log:=D.log++ [⟨16,0,a,balA (aA D.x.ms) (aA D.x.ss+1) D.l 1 0 a,0⟩]} else D
def leaveD(D:Dk):Nat->Dk
 |0=>D
 |k+1=>leave1 (leaveD D k) (k:Int)
theorem aHi(D:Dk)(k:Nat):(leaveD D k).x=D.x:=by
 induction k with
 |zero=>rfl
 |succ k ih=>unfold leaveD leave1;split<;>exact ih
theorem aF2(db:Nat)(p:Dp)(D:Dk)(w:aJ)(H:bV w db p D)(hO:∀k,k<=aA D.x.ss+1->fZ (leaveD D k))(hI:∀k,k<=aA D.x.ss->aL (balA (aA D.x.ms) (aA D.x.ss+1) (leaveD D k).l 1 0 (k:Int)))(RG:aA D.x.ss<=100000):
 aQ aM 76 #[π db] w λe w'=>e=aT (bC #[])/\aq db p (leaveD D (aA D.x.ss+1)) w w':=by
 have HO:=η hO;have HI:=η hI;have c1:=H.cells.c1;have iF:Hid (aq db p (leaveD D 0) w w):=η (aq.refl H);have HX:Hid (∀k,(leaveD D k).x=D.x):=η (aHi D);obtain⟨n,hn⟩:∃n,n=aA D.x.ss:=⟨_,rfl⟩;have HN:=η hn;rw [<-hn] at HO HI c1 RG ⊢;clear H hO hI hn;go_enter func76,ntmps76
 go_wp2_with fail
 go_loopw [2,3,11] (λ_ _ i wr=>∃k:Nat,k<=n+1/\i=ν (k:Int)/\Hid (aq db p (leaveD D k) w wr)) (λ_ _ i _=>n+1-(ag i).toNat)
 case atStart=>exact⟨0,bM _,rfl,iF⟩
 case round=>
  clear iF;obtain⟨k,hk,rfl,HP⟩:=hrel;by_cases hlt:k<n+1
  ·have sA:(k:Int)<(n:Int)+1:=by omega
   obtain⟨p1,h1,e1,e2,e3,e4,dD,hs1⟩:=HP.o;have HF:=η h1;have HT:Hid (∀W D2,aq db p1 D2 wr W->aq db p D2 w W):=η (λW D2 h=>aq.trans dD hs1 ⟨e1,e2,e3,e4⟩ h);have HL:Hid (leaveD D (k+1)=leave1 (leaveD D k) (k:Int)):=η rfl;have dT:=η (HO.o k hk);have KQ:=HI.o k (by omega);rw [HN.o,<-HX.o k] at KQ;have QU:aL (k:Int):=by unfold aL;omega
   clear h1 e1 e2 e3 e4 dD hs1 HP;generalize leaveD D k=E at*;have fC:=η (λW (hW:β wr W)=>zq db p1 E 1 0 (k:Int) W (HF.o.below hW) (by decide) (by decide));have vF:Hid (leave1 E (k:Int)=if 0<balA (aA E.x.ms) (aA E.x.ss+1) E.l 1 0 (k:Int) then {E with l:=bj E 1 0 2 0 (k:Int) (balA (aA E.x.ms) (aA E.x.ss+1) E.l 1 0 (k:Int)),log:=E.log++ [⟨16,0,(k:Int),balA (aA E.x.ms) (aA E.x.ss+1) E.l 1 0 (k:Int),0⟩]} else E):=η rfl;generalize balA (aA E.x.ms) (aA E.x.ss+1) E.l 1 0 (k:Int)=bq at*;have zD:=η KQ;by_cases hb:0<bq
   ·go_upto_region 5 with (first|(go_at_call 61;refine(xM _).mono ?_;rintro e w2 ⟨rfl,hb2⟩;have aV:=η hb2;clear hb2)|(go_at_call 46;refine(fC.o _ aV.o).mono ?_;rintro e w4 ⟨rfl,hb3⟩;have ar:=τ aV hb3;clear hb3))
    have lO:=η (HF.o.below ar.o);have lu:=η (λW (hW:β w4 W)=>Hw db p1 E 1 0 2 0 (k:Int) bq W (lO.o.below hW) dT.o ⟨by decide,by decide⟩ ⟨by decide,by decide⟩ QU zD.o (by omega));have bJ:=η (λW (hW:β w4 W)=>(lO.o.below hW).cells.c8);have bQ:β w4 w4.drew:=(aX _ _).drew;have hdd:=bJ.o _ bQ;go_region_held3 (λW=>W.cell? ⟨db,8,aB⟩=aC (π p1.vb)) (first|(with_reducible assumption)) (first|(go_at_call 61;refine(xM _).mono ?_;rintro e w5 ⟨rfl,gH⟩;have qQ:β w4 w5:=kB (by with_reducible assumption) (gH.mono (gX (by with_reducible assumption)));have hcc:=bJ.o _ qQ)|(go_at_call 87;refine(lu.o _ (by with_reducible assumption)).mono ?_;rintro e w7 ⟨rfl,dH,hcm⟩))
    have gD:Hid (aq db p1 {E with l:=bj E 1 0 2 0 (k:Int) bq} wr w7):=η (aq.trans (bA.bY _ (ar.o.trans (Below.mono (by with_reducible assumption) ar.o.size))) (λ_ h=> .inl h) ⟨rfl,rfl,rfl,rfl⟩ dH);clear dH hcm gH qQ hcc bQ hdd lu bJ lO ar aV;obtain⟨p4,H4,e1,e2,e3,e4,qV,j8⟩:=gD.o;have ki:=η (H4.below ((aX w7.heap.size w7).alloc (aZ _) (aK #[ν 16,ν 0,ν (k:Int),ν bq,ν 0] 45)));have km:=η (xP db p4 {E with l:=bj E 1 0 2 0 (k:Int) bq} [⟨16,0,(k:Int),bq,0⟩] w7.heap.size 1 _ ki.o (dS w7 45 #[ν 16,ν 0,ν (k:Int),ν bq,ν 0] rfl) (by simp) (by simp) (by have:=dT.o.gl;simp only;omega));have px:Hid (∀W,aq db p4 {E with l:=bj E 1 0 2 0 (k:Int) bq,log:=E.log++ [⟨16,0,(k:Int),bq,0⟩]} (w7.alloc (aK #[ν 16,ν 0,ν (k:Int),ν bq,ν 0] 45)) W->aq db p (leaveD D (k+1)) w W):=η (λW h=>by rw [HL.o,vF.o,ifP hb];exact HT.o W _ (aq.trans qV j8 ⟨e1,e2,e3,e4⟩ (aq.trans (bA.bY _ σ) (λ_ h=> .inl h) ⟨rfl,rfl,rfl,rfl⟩ h)));clear H4 e1 e2 e3 e4 qV j8 gD;go_wp2_with (go_at_call 55;refine km.o.mono ?_;rintro e w8 ⟨rfl,h8⟩;have eB:=η (px.o _ h8);clear h8)
    go_roundw
    case rel=>exact⟨k+1,by omega,by go_num,eB⟩
    case measure=>simp [ag];omega
   go_wp2_with (first|(go_at_call 61;refine(xM _).mono ?_;rintro e w2 ⟨rfl,hb2⟩;have aV:=η hb2;clear hb2)|(go_at_call 46;refine(fC.o _ aV.o).mono ?_;rintro e w4 ⟨rfl,hb3⟩;have ar:=τ aV hb3;clear hb3))
   have eB:Hid (aq db p (leaveD D (k+1)) w w4):=η (by rw [HL.o,vF.o,ifN (by omega)];exact HT.o _ _ (aq.bY HF.o ar.o));go_roundw
   case rel=>exact⟨k+1,by omega,by go_num,eB⟩
   case measure=>simp [ag];omega
  obtain rfl:k=n+1:=by omega
  rw [show ((n+1:Nat):Int)=(n:Int)+1 by omega];go_wp2_with fail
  go_end0
  exact⟨rfl,HP.o⟩
def I9(D:Dk)(x:Lg):Dk:= {D with l:=bj D 1 0 7 x.m x.a x.n,log:=D.log++ [⟨13,x.m,x.a,x.n,0⟩]}
def j5(D:Dk)(L:List Lg):Dk:=L.foldl I9 D
theorem aFx {D:Dk} {L:List Lg} {k:Nat}(h:k<aA L):j5 D (L.take (k+1))=I9 (j5 D (L.take k)) L[k]:=by rw [fH h];unfold j5;rw [List.foldl_append];rfl
theorem a2k(db:Nat)(p:Dp)(D:Dk)(L:List Lg)(A:Option ai)(c:Nat)(w:aJ)(H:bV w db p D)(hs:aW w w.heap.size A (bB L))(hA:bB L≠ []->∀q,A=aC q->¬eW db p q.block)(hO:∀k,k<=aA L->fZ (j5 D (L.take k)))(hI:∀x∈L,aL x.m/\aL x.a/\aL x.n/\0<=x.n)(hl:aA L<=100000):
 aQ aM 138 #[π db,aH A (aA L) c] w λe w'=>e=aT (bC #[])/\aq db p (j5 D L) w w':=by
 have HO:=η hO;have HI:=η hI;have iF:Hid (aq db p (j5 D (L.take 0)) w w):=η (aq.refl H);have BK:Hid (∀W D2,aq db p D2 w W->aW W W.heap.size A (bB L)):=η (λW D2 h=>by obtain⟨_,_,_,_,_,_,hu,_⟩:=h;exact hu.eA hs hA);clear H hs hA hO hI;go_enter func138,ntmps138
 go_wp2_with fail
 go_loopw [5,8] (λ_ i wr=>∃k:Nat,k<=aA L/\i=ν (k:Int)/\Hid (aq db p (j5 D (L.take k)) w wr)) (λ_ i _=>aA L-(ag i).toNat)
 case atStart=>exact⟨0,bM _,rfl,iF⟩
 case round=>
  clear iF;obtain⟨k,hk,rfl,HP⟩:=hrel;by_cases hlt:k<aA L
  ·obtain⟨bl,ol,kJ,hbl,l0,l1,l2⟩:=oQ (BK.o _ _ HP.o) hlt;have ej:(0:Int)<=(k:Int):=by omega
   have hkb:(k:Int)<(aA L:Int):=by omega
   obtain⟨p1,h1,e1,e2,e3,e4,dD,hs1⟩:=HP.o;have HF:=η h1;have my:Hid (∀j,eW db p1 j->j<wr.heap.size):=η (λj hj=>h1.td hj);have HT:Hid (∀W D2,aq db p1 D2 wr W->aq db p D2 w W):=η (λW D2 h=>aq.trans dD hs1 ⟨e1,e2,e3,e4⟩ h);have HL:=η (aFx (D:=D) hlt);have dT:=η (HO.o k hk);obtain⟨qR,qT,s7,vn⟩:=HI.o _ (cK hlt);clear h1 e1 e2 e3 e4 dD hs1 HP;subst kJ;generalize j5 D (L.take k)=E at*;generalize L[k]=x at*;obtain⟨xm,xa,xn⟩:=x;simp only at l0 l1 l2 qR qT s7 vn;have og:=η (kh qR (kh qT (kh s7 vn)));have vF:Hid (I9 E ⟨xm,xa,xn⟩= {E with l:=bj E 1 0 7 xm xa xn,log:=E.log++ [⟨13,xm,xa,xn,0⟩]}):=η rfl;have ar:Hid (β wr (wr.alloc (aK #[ν xm,ν xa,ν xn] 76))):=η σ;have pE:Hid ((wr.alloc (aK #[ν xm,ν xa,ν xn] 76)).heap[wr.heap.size]? =aC (aK #[ν xm,ν xa,ν xn] 76 (0,0))):=η (cQ wr _);have mh:wr.heap.size<(wr.alloc (aK #[ν xm,ν xa,ν xn] 76)).heap.size:=by simp
   clear qR qT s7 vn;go_upto_region 3 with (fail)
   generalize wr.alloc (aK #[ν xm,ν xa,ν xn] 76)=w4 at*;obtain⟨bx,bU⟩:∃bx,bx=wr.heap.size:=⟨_,rfl⟩;have dJ:=η bU;rw [<-bU] at pE mh ⊢;clear bU;have lO:=η (HF.o.below ar.o);have bX:Hid (¬eW db p1 bx):=η (λh=>by have:=my.o bx h;rw [dJ.o] at this;omega);have lu:=η (λW (hW:β w4 W)=>Hw db p1 E 1 0 7 xm xa xn W (lO.o.below hW) dT.o ⟨by decide,by decide⟩ ⟨by decide,og.o.1⟩ og.o.2.1 og.o.2.2.1 og.o.2.2.2);have bJ:Hid (∀W,β w4 W->W.cell? ⟨db,8,aB⟩=aC (π p1.vb)/\W.cell? ⟨bx,0,aB⟩=aC (ν xm)/\W.cell? ⟨bx,1,aB⟩=aC (ν xa)/\W.cell? ⟨bx,2,aB⟩=aC (ν xn)):=η (λW hW=>by have hd:=(hW.block bx mh).trans pE.o;exact⟨(lO.o.below hW).cells.c8,ρ hd,ρ hd,ρ hd⟩);have Lc:Hid (∀W W',β w4 W->aq db p1 {E with l:=bj E 1 0 7 xm xa xn} W W'->W'.cell? ⟨db,8,aB⟩=aC (π p1.vb)->W'.cell? ⟨db,8,aB⟩=aC (π p1.vb)/\W'.cell? ⟨bx,0,aB⟩=aC (ν xm)/\W'.cell? ⟨bx,1,aB⟩=aC (ν xa)/\W'.cell? ⟨bx,2,aB⟩=aC (ν xn)):=η (λW W' hW h h8=>by have hz:=cL mh hW.size;obtain⟨_,q0,q1,q2⟩:=bJ.o W hW;exact⟨h8,(h.cell 0 hz bX.o).trans q0,(h.cell 1 hz bX.o).trans q1,(h.cell 2 hz bX.o).trans q2⟩);have bQ:β w4 w4.drew:=(aX _ _).drew;have hdd:=bJ.o _ bQ;go_region_held3 (λW=>W.cell? ⟨db,8,aB⟩=aC (π p1.vb)/\W.cell? ⟨bx,0,aB⟩=aC (ν xm)/\W.cell? ⟨bx,1,aB⟩=aC (ν xa)/\W.cell? ⟨bx,2,aB⟩=aC (ν xn)) (first|(with_reducible assumption)) (first|(go_at_call 61;refine(xM _).mono ?_;rintro e w5 ⟨rfl,gH⟩;have qQ:β w4 w5:=kB (by with_reducible assumption) (gH.mono (gX (by with_reducible assumption)));have hcc:=bJ.o _ qQ)|(go_at_call 49;refine(Et xm _).mono ?_;rintro e w6 ⟨rfl,tV⟩;have xS:β w4 w6:=kB (by with_reducible assumption) (tV.mono (gX (by with_reducible assumption)));have rB:=bJ.o _ xS)|(go_at_call 87;refine(lu.o _ (by with_reducible assumption)).mono ?_;rintro e w7 ⟨rfl,dH,hcm⟩;have AJ:=Lc.o _ _ (by with_reducible assumption) dH hcm))
   all_goals
    have gD:Hid (aq db p1 {E with l:=bj E 1 0 7 xm xa xn} wr w7):=η (aq.trans (bA.bY _ (ar.o.trans (Below.mono (by with_reducible assumption) ar.o.size))) (λ_ h=> .inl h) ⟨rfl,rfl,rfl,rfl⟩ dH);obtain⟨_,m0,m1,m2⟩:=AJ;clear dH hcm gH qQ hcc tV xS rB bQ hdd lu bJ lO ar Lc pE mh;obtain⟨p4,H4,e1,e2,e3,e4,qV,j8⟩:=gD.o;have ki:=η (H4.below ((aX w7.heap.size w7).alloc (aZ _) (aK #[ν 13,ν xm,ν xa,ν xn,ν 0] 45)));have km:=η (xP db p4 {E with l:=bj E 1 0 7 xm xa xn} [⟨13,xm,xa,xn,0⟩] w7.heap.size 1 _ ki.o (dS w7 45 #[ν 13,ν xm,ν xa,ν xn,ν 0] rfl) (by simp) (by simp) (by have:=dT.o.gl;simp only;omega));have px:Hid (∀W,aq db p4 {E with l:=bj E 1 0 7 xm xa xn,log:=E.log++ [⟨13,xm,xa,xn,0⟩]} (w7.alloc (aK #[ν 13,ν xm,ν xa,ν xn,ν 0] 45)) W->aq db p (j5 D (L.take (k+1))) w W):=η (λW h=>by rw [HL.o,vF.o];exact HT.o W _ (aq.trans qV j8 ⟨e1,e2,e3,e4⟩ (aq.trans (bA.bY _ σ) (λ_ h=> .inl h) ⟨rfl,rfl,rfl,rfl⟩ h)));clear H4 e1 e2 e3 e4 qV j8 gD;go_wp2_with (go_at_call 55;refine km.o.mono ?_;rintro e w8 ⟨rfl,h8⟩;have eB:=η (px.o _ h8);clear h8)
    go_roundw
    case rel=>exact⟨k+1,by omega,by go_num,eB⟩
    case measure=>simp [ag];omega
  obtain rfl:k=aA L:=by omega
  rw [cU] at HP;go_wp2_with fail
  go_end0
  exact⟨rfl,HP.o⟩
def kH(D:Dk)(kd:Int)(L:List Lg):Dk:= {D with log:=D.log++L.map λx=>(⟨kd,x.m,x.a,x.n,0⟩:Ev)}
theorem a3E {D:Dk} {kd:Int} {L:List Lg} {k:Nat}(h:k<aA L):kH D kd (L.take (k+1))= {kH D kd (L.take k) with log:=(kH D kd (L.take k)).log++ [⟨kd,L[k].m,L[k].a,L[k].n,0⟩]}:=by rw [fH h];unfold kH;simp only [dh,yS,List.map_nil,List.append_assoc]
theorem a2F(db:Nat)(p:Dp)(D:Dk)(L:List Lg)(kd:Int)(A:Option ai)(c:Nat)(w:aJ)(H:bV w db p D)(hs:aW w w.heap.size A (bB L))(hA:bB L≠ []->∀q,A=aC q->¬eW db p q.block)(hg:aA D.log+aA L<=90000)(hl:aA L<=80000):
 aQ aM 139 #[aH A (aA L) c,ν kd,.func (.func 55) #[π db] #[]] w λe w'=>e=aT (bC #[])/\aq db p (kH D kd L) w w':=by
 have iF:Hid (aq db p (kH D kd (L.take 0)) w w):=η (by
  have e:kH D kd (L.take 0)=D:=by unfold kH;simp
  rw [e];exact aq.refl H)
 have BK:Hid (∀W D2,aq db p D2 w W->aW W W.heap.size A (bB L)):=η (λW D2 h=>by obtain⟨_,_,_,_,_,_,hu,_⟩:=h;exact hu.eA hs hA);go_enter func139,ntmps139
 go_wp2
 go_loopw [7,10] (λ_ i wr=>∃k:Nat,k<=aA L/\i=ν (k:Int)/\Hid (aq db p (kH D kd (L.take k)) w wr)) (λ_ i _=>aA L-(ag i).toNat)
 ·exact⟨0,bM _,rfl,iF⟩
 ·
  obtain⟨k,hk,rfl,HP⟩:=hrel;by_cases hlt:k<aA L
  ·obtain⟨bl,ol,kJ,hbl,l0,l1,l2⟩:=oQ (BK.o _ _ HP.o) hlt;have ej:(0:Int)<=(k:Int):=by omega
   have hkb:(k:Int)<(aA L:Int):=by omega
   have jr:(kH D kd (L.take k)).log.length<=100000:=by unfold kH;simp only [cN,iX,vN];omega
   obtain⟨p1,h1,e1,e2,e3,e4,dD,hs1⟩:=HP.o;have HF:=η h1;have HT:Hid (∀W D2,aq db p1 D2 wr W->aq db p D2 w W):=η (λW D2 h=>aq.trans dD hs1 ⟨e1,e2,e3,e4⟩ h);have HL:=η (a3E (D:=D) (kd:=kd) hlt);subst kJ;generalize kH D kd (L.take k)=E at*;generalize L[k]=x at*;obtain⟨xm,xa,xn⟩:=x;simp only at l0 l1 l2;have oA:Hid (β wr ((wr.alloc (aK #[ν xm,ν xa,ν xn] 76)).alloc (aK #[ν kd,ν xm,ν xa,ν xn,ν 0] 45))):=η (σ.alloc (by simp) _);have ki:=η (HF.o.below oA.o);have km:=η (xP db p1 E [⟨kd,xm,xa,xn,0⟩] (wr.heap.size+1) 1 _ ki.o (dS (wr.alloc (aK #[ν xm,ν xa,ν xn] 76)) 45 #[ν kd,ν xm,ν xa,ν xn,ν 0] (by simp)) (by simp) (by simp) (by omega));have px:Hid (∀W,aq db p1 {E with log:=E.log++ [⟨kd,xm,xa,xn,0⟩]} ((wr.alloc (aK #[ν xm,ν xa,ν xn] 76)).alloc (aK #[ν kd,ν xm,ν xa,ν xn,ν 0] 45)) W->aq db p (kH D kd (L.take (k+1))) w W):=η (λW h=>by rw [HL.o];exact HT.o W _ (aq.trans (bA.bY _ oA.o) (λ_ h=> .inl h) ⟨rfl,rfl,rfl,rfl⟩ h));go_wp2_with (go_at_call 55;refine km.o.mono ?_;rintro e w8 ⟨rfl,h8⟩;have eB:=η (px.o _ h8))
   go_roundw
   ·exact⟨k+1,by omega,by go_num,eB⟩
   simp [ag];omega
  obtain rfl:k=aA L:=by omega
  rw [cU] at HP;go_wp2
  go_end0
  exact⟨rfl,HP.o⟩
section
variable {F:Fence} {n:Nat} {P:Program} {β:Type}
def Hands(F:Fence)(n:Nat)(P:Program)(g:Nat)(lb:Array aN)(Hd:aN->β->aJ->Prop)(Kp:aJ->aJ->Prop)(ys:List β)(w:aJ):Prop:=
 ∀(l:Nat) (J:List β->aJ->Prop) (W:aJ),aa w.heap.size w W->AbidesFrom W.heap.size J->
  (∀pre y v W1,J pre W1->Hd v y W1->(pre++ [y])<+:ys->YieldAt F (n-1) P l #[v] W1 λe W'=>e=aT (bK aO)/\J (pre++ [y]) W'/\Kp W1 W')->
  J [] W->
  CallsIn F n P g (#[.func (.yield l) #[] #[]]++lb) W λe W'=>(∃v,e=aT v)/\J ys W'
def a4A(Kp:aJ->aJ->Prop)(I:List β->aJ->Prop)(ys:List β)(W:aJ):Exit->Act->aJ->Prop
 | .normal,_,W'=>KeepsOthers W W'/\Kp W W'/\I ys W'
 |_,_,_=>False
theorem a8c {g:Operand} {t:Tmp} {assign body:Code} {Q:Exit->Act->aJ->Prop} {a:Act} {w:aJ}
 (hro:F.round=aB) (h1:1<=n) {gf:Nat} {lb:Array aN} (hg:a.eval g= .func (.func gf) #[] lb) (hFg:F.fn gf) (eg:∀args w,(callFunc gf args).run P w= .ok (.enter gf args) w)
 {Hd:aN->β->aJ->Prop} {Kp:aJ->aJ->Prop} {ys:List β} {w0:aJ} (hseq:Hands F (n-1) P gf lb Hd Kp ys w0)
 (hKt:∀ {A B C:aJ},Kp A B->Kp B C->Kp A C) (hKb:∀(W:aJ) (l:Nat) (o o':Obj),w.heap.size<=l->W.heap[l]? =aC o->o.isCells=aP->o.isWalk=aP->Kp W (W.putObj l o')) (hb0:aa w0.heap.size w0 w)
 (hHd:∀(v:aN) (y:β) (W:aJ) (l:Nat) (o o':Obj),Hd v y W->W.heap[l]? =aC o->o.isCells=aP->Hd v y (W.putObj l o'))
 (I:List β->aJ->Prop) (hI:OwnFrom w.heap.size I) (h0:I [] w) (a₁:aN->Act)
 (aGJ:∀(l:Nat) (v:aN) (W:aJ) (K:Act->aJ->Prop),K (a₁ v) W->assign.wpIn (F.inRound l) (n-1-1) P (Exit.then K (λ_ _ _=>False)) {tmps:=a.tmps.setIfInBounds t v,defers:= []} W)
 (aGM:∀(l:Nat) (pre:List β) (y:β) (v:aN) (W:aJ),I pre W->Hd v y W->(pre++ [y])<+:ys->body.wpIn (F.inRound l) (n-1-1) P (a4A Kp I (pre++ [y]) W) (a₁ v) W)
 (hdone:∀(D:Nat) (W:aJ),w.heap.size<=D->I ys W->W.heap[D]? =aC (.deferred (aC []))->Q .normal {a with defers:= {target:= .collected D,args:= #[]}::a.defers} W):
 (Code.rangeFunc g #[t] assign body).wpIn F n P Q a w:=by
 refine wpIn_rangeFunc ?_;intro fn hfn;rw [hro];obtain⟨rec,Fa⟩:∃rec:LoopState->Option Code->Loop,rec=λst pe=> {state:=st,pending:=pe,fn,tmps:=a.tmps,params:= #[t],assign,body,defers:=w.heap.size}:=⟨_,rfl⟩
 obtain⟨W1,hW1⟩:∃W1,(w.alloc (.deferred (aC []))).alloc (.loop (rec .ready aB))=W1:=⟨_,rfl⟩;have hz1:W1.heap.size=w.heap.size+2:=by rw [<-hW1];simp
 have hL1:W1.heap[w.heap.size+1]? =aC (.loop (rec .ready aB)):=by rw [<-hW1];exact N2 _ _ (by simp)
 have QV:W1.heap[w.heap.size]? =aC (.deferred (aC [])):=by rw [<-hW1];exact(fL _ _ (by simp)).trans (N2 w _ rfl)
 have Db:I [] W1:=by rw [<-hW1];exact hI.alloc _ (hI.alloc _ h0)
 have hb1:aa w0.heap.size w0 W1:=by rw [<-hW1];exact hb0.trans ((((aX _ w).alloc (aZ _) _).alloc (by simp) _).mono hb0.size)
 refine⟨w.heap.size+1,[{target:= .collected w.heap.size,args:= #[]}],W1, {target:= .fn (.func gf) lb,args:= #[.func (.yield (w.heap.size+1)) #[] #[]]},W1,gf,
  #[.func (.yield (w.heap.size+1)) #[] #[]]++lb,W1, ?_, ?_, ?_, ?_,λ_=>h1, ?_⟩
 ·rw [<-hW1,Fa];exact run_enterLoop_outer _ _ _ _ _
 ·simp only [resolve,hg];simp [go_sem]
 ·intro f' hf';simp [Target.leads] at hf';subst hf';exact hFg
 ·simp [invoke,go_sem,eg]
 have hw:∀ {A:aJ} {row:Option Nat},(∀r,row=aC r->W1.heap.size<=r/\∃o:Obj,A.heap[r]? =aC o/\o.isWalk=aO)->(∀r,row=aC r->w.heap.size<=r/\∃o:Obj,A.heap[r]? =aC o/\o.isCells=aP):=
  λhr r e=>by obtain⟨hB,o,ho,hx⟩:=hr r e;exact⟨by omega,o,ho,Obj.not_cells_of_walk hx⟩
 refine(hseq (w.heap.size+1)
  (λpre W=>I pre W/\W.heap[w.heap.size+1]? =aC (.loop (rec .ready aB))/\W.heap[w.heap.size]? =aC (.deferred (aC [])))
  W1 hb1
  (λs A B row hs Di hr=>⟨hI s A B row hs.1 Di (hw hr),(grownBy_keeps Di (λr e=>(hr r e).2) hs.2.1 rfl).trans hs.2.1,(grownBy_keeps Di (λr e=>(hr r e).2) hs.2.2 rfl).trans hs.2.2⟩)
  ?_ ⟨Db,hL1,QV⟩).mono ?_
 ·rintro pre y v W ⟨hi,hl,hk⟩ hd X2;have hlt:w.heap.size+1<W.heap.size:=(fY.1 hl).1;have hy:=run_yield (P:=P) (args:= #[v]) hl (by rw [Fa];rfl);rw [Fa] at hy;refine⟨fn,_,assign,body,hy,roundIn_of_wpIn hfn ?_⟩;have NW:∀ts:Array aN,((#[t]:Array Tmp).zip #[v]).foldl (λts (x:Tmp×aN)=>match x with|(p,u)=>ts.setIfInBounds p u) ts=ts.setIfInBounds t v:=λts=>by simp
  dsimp only
  rw [NW];refine aGJ _ v W _ ?_;refine⟨_,run_beginRound hl (by rw [Fa]), ?_⟩;obtain⟨busy,WE⟩:∃o:Obj,o= .loop {rec .ready aB with state:= .busy}:=⟨_,rfl⟩;have hl2:(W.putObj (w.heap.size+1) busy).heap[w.heap.size+1]? =aC busy:=aCS hlt;have hk2:(W.putObj (w.heap.size+1) busy).heap[w.heap.size]? =aC (.deferred (aC [])):=(Pj (by omega)).trans hk;have hw2:Kp W (W.putObj (w.heap.size+1) busy):=hKb _ _ _ _ (by omega) hl rfl rfl;rw [<-WE];refine wpIn_mono (aGM _ pre y v _ (hI.putObj _ hi (by omega) hl rfl) (hHd _ _ _ _ _ _ hd hl rfl) X2) ?_;rintro e a3 W3 hp;cases e with
  |normal=>
   obtain⟨hk3,aGi,s7⟩:=hp;have N6:=hk3.same _ _ hl2 (by rw [WE];rfl);rw [WE] at N6;have hr:=run_endRound (P:=P) aB N6;rw [Fa] at hr;refine⟨_,_,hr, ?_⟩;refine⟨rfl,⟨hI.putObj _ s7 (by omega) N6 rfl, ?_,(Pj (by omega)).trans (hk3.same _ _ hk2 rfl)⟩,hKt (hKt hw2 aGi) (hKb _ _ _ _ (by omega) N6 rfl rfl)⟩;rw [aCS (fY.1 N6).1,Fa];rfl
  |_=>exact hp.elim
 rintro e W2 ⟨⟨v,rfl⟩,hi,hl,hk⟩;exact⟨aB,_,by have:=run_endLoop (P:=P) hl (by rw [Fa];simp);rw [Fa] at this;exact this,hdone _ _ (aZ _) (hI.putObj _ hi (by omega) hl rfl) ((Pj (by omega)).trans hk)⟩
end
section
open Go.Shelf
attribute [local go_sem] Oper.semAt_some
structure cA where
 co:List Int
 Ac:Option ai
 cc:Nat
 fu:List Int
 Af:Option ai
 cf:Nat
 line:Int
 cap:Int
structure ig(n1 bo bp:Nat)(W W':aJ):Prop where
 size:W.heap.size<=W'.heap.size
 keep:∀k,(k<n1\/k=bo\/k=bp)->k<W.heap.size->W'.heap[k]? =W.heap[k]?
theorem ig.refl(n1 bo bp:Nat)(W:aJ):ig n1 bo bp W W:=⟨aZ _,λ_ _ _=>rfl⟩
theorem ig.trans {n1 bo bp:Nat} {A B C:aJ}(h:ig n1 bo bp A B)(k:ig n1 bo bp B C):ig n1 bo bp A C:=
 ⟨bz h.size k.size,λj hj hl=>(k.keep j hj (cL hl h.size)).trans (h.keep j hj hl)⟩
theorem ig.bY {n1 bo bp:Nat} {W W':aJ}(h:aa W.heap.size W W'):ig n1 bo bp W W':=⟨h.size,λj _ hl=>h.block j hl⟩
theorem ig.alloc {n1 bo bp:Nat} {W W':aJ}(h:ig n1 bo bp W W')(o:Obj):ig n1 bo bp W (W'.alloc o):=h.trans (.bY ((aX _ _).alloc (aZ _) o))
structure MB(n0:Nat)(W:aJ)(bo bp:Nat)(p:cA)(os:List Int)(Ao:Option ai)(ko:Nat):Prop where
 o:W.cell? ⟨bo,0,aB⟩=aC (aH Ao (aA os) ko)
 c0:W.cell? ⟨bp,0,aB⟩=aC (aH p.Ac (aA p.co) p.cc)
 c1:W.cell? ⟨bp,1,aB⟩=aC (aH p.Af (aA p.fu) p.cf)
 c2:W.cell? ⟨bp,2,aB⟩=aC (ν p.line)
 c3:W.cell? ⟨bp,3,aB⟩=aC (ν p.cap)
 so:aW W n0 Ao (os.map (aG aF))
 sc:aW W n0 p.Ac (p.co.map (aG aF))
 sf:aW W n0 p.Af (p.fu.map (aG aF))
 lo:bo<W.heap.size
 lp:bp<W.heap.size
 ln:n0<=W.heap.size
theorem MB.keep {n0:Nat} {W W':aJ} {bo bp:Nat} {p:cA} {os:List Int} {Ao:Option ai} {ko:Nat}(h:MB n0 W bo bp p os Ao ko)(hk:ig n0 bo bp W W'):MB n0 W' bo bp p os Ao ko:=by
 have ho:=hk.keep bo (.inr (.inl rfl)) h.lo;have hp:=hk.keep bp (.inr (.inr rfl)) h.lp;have hs:∀q:ai,q.block<n0->W'.cell? q=W.cell? q:=λq hq=>gu (hk.keep q.block (.inl hq) (cL hq h.ln))
 exact⟨(gu (a:=⟨bo,0,aB⟩) ho).trans h.o,(gu (a:=⟨bp,0,aB⟩) hp).trans h.c0,(gu (a:=⟨bp,1,aB⟩) hp).trans h.c1,(gu (a:=⟨bp,2,aB⟩) hp).trans h.c2,(gu (a:=⟨bp,3,aB⟩) hp).trans h.c3,h.so.keep hs,h.sc.keep hs,h.sf.keep hs,cL h.lo hk.size,cL h.lp hk.size,bz h.ln hk.size⟩
def M0(v:aN)(y:List Dw)(W:aJ):Prop:=∃A c,v=aH A (aA y) c/\aW W W.heap.size A (gW y)/\(∀x∈y,aL x.n)/\aA y<=1000
def cV(l:List Int)(m:Int):Int:=l.getD (m-1).toNat 0
def kO(fu os:List Int)(k:Nat):List Dw:=(dQ k).flatMap λ(i:Nat)=>if os.contains ((i:Int)+1) then [] else [⟨9,(i:Int)+1,fu.getD i 0⟩]
def wG(fu os:List Int):List Dw:=kO fu os (aA fu)
theorem a6Q {fu os:List Int} {k:Nat}(hk:k<aA fu)(b:Bool)(hb:os.contains ((k:Int)+1)=b):kO fu os (k+1)=kO fu os k++if b then [] else [⟨9,(k:Int)+1,fu[k]⟩]:=by unfold kO;rw [List.range_succ,List.flatMap_append,aA2,hb,tC,iG hk];rfl
theorem Kz(fu os:List Int):∀k,aA (kO fu os k)<=k
 |0=>by simp [kO]
 |k+1=>by
  have:=Kz fu os k;unfold kO at*;rw [List.range_succ,List.flatMap_append,aA2,cN];have h9:aA (if os.contains ((k:Int)+1) then ([]:List Dw) else [⟨9,(k:Int)+1,fu.getD k 0⟩])<=1:=by split<;>simp
  omega
def fU(p:cA)(os:List Int):List (List Dw):=
 os.map (λm=> [⟨8,m,cV p.co m⟩])++os.map (λm=> [⟨9,m,cV p.fu m⟩])++ [wG p.fu os,[⟨3,0,p.line⟩],[⟨4,0,p.cap⟩]]
theorem Pq(W:aJ)(k m n:Int)(hn:aL n):M0 (aH (aC ⟨W.heap.size,0,aB⟩) 1 1) [⟨k,m,n⟩] (W.alloc (aK #[aG aF k,aG aF m,aG aF n] 196)):=
 ⟨_,_,rfl,λj u hu=>⟨W.heap.size,0,rfl,by simp,by rw [Nat.zero_add,cM _ _ _ j rfl,<-Array.getElem?_toList];simpa [gW,Dw.cells] using hu⟩,by simpa using hn,by simp⟩
theorem aJ6 {fu os:List Int}(h:∀x∈fu,aL x)(k:Nat):∀x∈kO fu os k,aL x.n:=by
 intro x hx;unfold kO at hx;obtain⟨i,_,hx⟩:=List.mem_flatMap.1 hx;split at hx
 ·simp at hx
 simp at hx;subst hx;show aL (fu[i]?.getD 0);rcases rZ i (aA fu) with hl|hl
 ·rw [iG hl];exact h _ (cK hl)
 rw [M4 hl];unfold aL;simp
theorem K5 {l:List Int} {s:Nat}(h:s<aA l):cV l ((s:Int)+1)=l[s]:=by unfold cV;rw [show ((s:Int)+1-1).toNat=s by omega,tC,iG h];rfl
theorem a5d {α β:Type}(f:α->β)(l:List α)(k:Nat):(l.take k).map f<+:l.map f:=⟨(l.drop k).map f,by rw [<-dh,List.take_append_drop]⟩
theorem aKv(p:cA)(os:List Int)(k:Nat):(os.take k).map (λm=> [(⟨8,m,cV p.co m⟩:Dw)])<+:fU p os:=by unfold fU;exact((a5d _ os k).trans (a0L _ _)).trans (a0L _ _)
theorem aKw(p:cA)(os:List Int)(k:Nat):os.map (λm=> [(⟨8,m,cV p.co m⟩:Dw)])++(os.take k).map (λm=> [(⟨9,m,cV p.fu m⟩:Dw)])<+:fU p os:=by unfold fU;exact((List.prefix_append_right_inj _).2 (a5d _ os k)).trans (a0L _ _)
theorem aKx(p:cA)(os:List Int):os.map (λm=> [(⟨8,m,cV p.co m⟩:Dw)])++os.map (λm=> [(⟨9,m,cV p.fu m⟩:Dw)])++ [wG p.fu os]<+:fU p os:=⟨[[⟨3,0,p.line⟩],[⟨4,0,p.cap⟩]],by simp [fU]⟩
theorem aKy(p:cA)(os:List Int):os.map (λm=> [(⟨8,m,cV p.co m⟩:Dw)])++os.map (λm=> [(⟨9,m,cV p.fu m⟩:Dw)])++ [wG p.fu os]++ [[⟨3,0,p.line⟩]]<+:fU p os:=⟨[[⟨4,0,p.cap⟩]],by simp [fU]⟩
theorem aKz(p:cA)(os:List Int):os.map (λm=> [(⟨8,m,cV p.co m⟩:Dw)])++os.map (λm=> [(⟨9,m,cV p.fu m⟩:Dw)])++ [wG p.fu os]++ [[⟨3,0,p.line⟩]]++ [[⟨4,0,p.cap⟩]]<+:fU p os:=⟨[],by simp [fU]⟩
theorem a7g(n n0 bo bp:Nat)(hn:3<=n)(p:cA)(os:List Int)(Ao:Option ai)(ko:Nat)(w:aJ)(hP:MB n0 w bo bp p os Ao ko)(ho:∀m∈os,1<=m/\m<=aA p.co)(hl:aA p.fu=aA p.co)(hc:aA p.co<=1000)(l9:aA os<=1000)(hIc:∀x∈p.co,aL x)(hIf:∀x∈p.fu,aL x)(hIl:aL p.line)(QU:aL p.cap):
 Hands LF n aM 221 #[π bo,π bp] M0 (ig n0 bo bp) (fU p os) w:=by
 intro l J W hW hJ hY h0;have ID:=hP.keep (ig.bY hW);have Te:=η hIc;have Ze:=η hIf;have uM:=η (kh hIl QU);have HJ:=η hJ;have HY:=η hY;have HO:=η ho;have ES:=η hl;have HP:=η ID;have gZ:aA p.fu<=aA p.co:=by omega
 have hfg:aA p.co<=aA p.fu:=by omega
 clear hP hJ hY ho hl hW hIc hIf hIl QU;refine callsIn_of_wp func221 rfl trivial ?_ rfl;simp only [ntmps221,List.size_toArray,uS,Eh,Nat.reduceAdd,Nat.reduceSub,Array.replicate_succ,Array.replicate_zero,List.push_toArray,List.append_toArray,Gi,List.cons_append];have o0:=ID.o;have c0:=ID.c0;have c1:=ID.c1;have c2:=ID.c2;have c3:=ID.c3;clear ID
 gi_wp2
 gi_loopw [13] (λi wr=>∃k:Nat,k<=aA os/\i=ν k/\Hid (J ((os.take k).map (λm=> [⟨8,m,cV p.co m⟩])) wr/\ig n0 bo bp W wr)) (λi _=>aA os-(ag i).toNat)
 case atStart=>exact⟨0,bM _,rfl,h0,ig.refl _ _ _ _⟩
 case round=>
  obtain⟨k,hk,rfl,HK⟩:=hrel;have kX:=HP.o.keep HK.o.2;have o0:=kX.o;have c0:=kX.c0;have c1:=kX.c1;have c2:=kX.c2;have c3:=kX.c3;by_cases hlt:k<aA os
  ·obtain⟨ba,oa,rfl,nG,ha⟩:=tZ kX.so hlt;obtain⟨tX,xW⟩:=HO.o _ (cK hlt);obtain⟨s,hs,hsm⟩:∃s:Nat,s<aA p.co/\os[k]=(s:Int)+1:=⟨(os[k]-1).toNat,by omega,by omega⟩;obtain⟨bc,oc,Mn,gH,hcc⟩:=tZ kX.sc hs;rw [Mn] at c0;rw [hsm] at ha;have Bh:aF.wrap ((s:Int)+1-1)=(s:Int):=by rw [sr _ (by omega)];omega
   have aGj:aF.wrap (s:Int)=(s:Int):=sr _ (by omega);have X5:(s:Int)<(aA p.co:Int):=by omega
   gi_wp2
   refine⟨trivial,λ_=>by omega, ?_⟩;refine(tH.2 (Pp _ _ _ _)).mono ?_;rintro e w2 ⟨rfl,hw2⟩;have gF:Hid (ig n0 bo bp W w2):=η (by rw [<-hw2];exact HK.o.2.alloc _);have LZ:Hid (J ((os.take k).map (λm=> [⟨8,m,cV p.co m⟩])) w2):=η (by rw [<-hw2];exact HJ.o _ _ _ aB HK.o.1 (Hh _ _ _) (λr e=>by cases e));have IU:=Pq wr 8 ((s:Int)+1) p.co[s] (Te.o _ (cK hs));rw [hw2] at IU;have cG:Hid ((os.take (k+1)).map (λm=> [⟨8,m,cV p.co m⟩])=(os.take k).map (λm=> [⟨8,m,cV p.co m⟩])++ [[(⟨8,(s:Int)+1,p.co[s]⟩:Dw)]]):=η (by rw [fH hlt,dh,aA7,hsm,K5 hs]);obtain⟨fn,tmps,assign,body,hy,hR⟩:=HY.o _ _ _ _ LZ.o IU (by rw [<-cG.o];exact aKv p os (k+1));clear IU hw2
   gi_wp2
   refine⟨λ_=>by omega, ?_⟩;refine hR.mono ?_;rintro e W3 ⟨rfl,hJ3,hk3⟩;rw [<-cG.o] at hJ3;have oh:=η (kh hJ3 (gF.o.trans hk3));clear hJ3 hk3
   gi_wp2
   go_roundw
   case rel=>exact⟨k+1,by omega,by go_num,oh⟩
   case measure=>simp [ag];omega
  obtain rfl:k=aA os:=by omega
  have Ce:Hid (J (os.map (λm=> [⟨8,m,cV p.co m⟩])++(os.take 0).map (λm=> [⟨9,m,cV p.fu m⟩])) wr/\ig n0 bo bp W wr):=η (by have:=HK.o;rw [cU] at this;rw [nW,List.map_nil,List.append_nil];exact this);clear HK kX
  gi_wp2
  gi_loopw [31] (λi wr=>∃k:Nat,k<=aA os/\i=ν k/\Hid (J (os.map (λm=> [⟨8,m,cV p.co m⟩])++(os.take k).map (λm=> [⟨9,m,cV p.fu m⟩])) wr/\ig n0 bo bp W wr)) (λi _=>aA os-(ag i).toNat)
  case atStart=>exact⟨0,bM _,rfl,Ce.o⟩
  case round=>
   clear Ce;obtain⟨k,hk,rfl,HK⟩:=hrel;have kX:=HP.o.keep HK.o.2;have o0:=kX.o;have c0:=kX.c0;have c1:=kX.c1;have c2:=kX.c2;have c3:=kX.c3;by_cases hlt:k<aA os
   ·obtain⟨ba,oa,rfl,nG,ha⟩:=tZ kX.so hlt;obtain⟨tX,xW⟩:=HO.o _ (cK hlt);obtain⟨s,hs,hsm⟩:∃s:Nat,s<aA p.co/\os[k]=(s:Int)+1:=⟨(os[k]-1).toNat,by omega,by omega⟩;have hs2:s<aA p.fu:=by omega
    obtain⟨bc,oc,Mn,gH,hcc⟩:=tZ kX.sf hs2;rw [Mn] at c1;rw [hsm] at ha;have Bh:aF.wrap ((s:Int)+1-1)=(s:Int):=by rw [sr _ (by omega)];omega
    have aGj:aF.wrap (s:Int)=(s:Int):=sr _ (by omega);have X5:(s:Int)<(aA p.fu:Int):=by omega
    gi_wp2
    refine⟨trivial,λ_=>by omega, ?_⟩;refine(tH.2 (Pp _ _ _ _)).mono ?_;rintro e w2 ⟨rfl,hw2⟩;have gF:Hid (ig n0 bo bp W w2):=η (by rw [<-hw2];exact HK.o.2.alloc _);have LZ:Hid (J (os.map (λm=> [⟨8,m,cV p.co m⟩])++(os.take k).map (λm=> [⟨9,m,cV p.fu m⟩])) w2):=η (by rw [<-hw2];exact HJ.o _ _ _ aB HK.o.1 (Hh _ _ _) (λr e=>by cases e));have IU:=Pq wr 9 ((s:Int)+1) p.fu[s] (Ze.o _ (cK hs2));rw [hw2] at IU;have cG:Hid ((os.take (k+1)).map (λm=> [⟨9,m,cV p.fu m⟩])=(os.take k).map (λm=> [⟨9,m,cV p.fu m⟩])++ [[(⟨9,(s:Int)+1,p.fu[s]⟩:Dw)]]):=η (by rw [fH hlt,dh,aA7,hsm,K5 hs2]);obtain⟨fn,tmps,assign,body,hy,hR⟩:=HY.o _ _ _ _ LZ.o IU (by rw [List.append_assoc,<-cG.o];exact aKw p os (k+1));clear IU hw2
    gi_wp2
    refine⟨λ_=>by omega, ?_⟩;refine hR.mono ?_;rintro e W3 ⟨rfl,hJ3,hk3⟩;rw [List.append_assoc,<-cG.o] at hJ3;have oh:=η (kh hJ3 (gF.o.trans hk3));clear hJ3 hk3
    gi_wp2
    go_roundw
    case rel=>exact⟨k+1,by omega,by go_num,oh⟩
    case measure=>simp [ag];omega
   obtain rfl:k=aA os:=by omega
   have Lb:=HK.o;rw [cU] at Lb;have Ce:=η Lb;clear HK Lb kX;obtain⟨wm,hwm⟩:∃wm,wm=wr:=⟨_,rfl⟩;subst hwm;have Zy:Hid (wm.ownsRow wm.heap.size 196 3 (aH aB 0 0) (aA (kO p.fu os 0)) (gW (kO p.fu os 0))):=η ⟨by simp [kO,gW],aS ⟨rfl,rfl⟩⟩;obtain⟨i0,bu,hz0,fw,hz2⟩:=dP QC;obtain⟨Af,Vq⟩:∃A,A=p.Af:=⟨_,rfl⟩;rw [<-Vq] at c1;have HAF:=η Vq;clear Vq
   gi_wp2
   gi_loopw [8,50] (λu i wr=>∃k:Nat,k<=aA p.fu/\i=ν k/\Hid (wr.ownsRow wm.heap.size 196 3 u (aA (kO p.fu os k)) (gW (kO p.fu os k)))/\Hid (β wm wr)) (λ_ i _=>aA p.fu-(ag i).toNat)
   case atStart=>exact⟨0,bM _,rfl,Zy.o,aX _ _⟩
   case round=>
    obtain⟨k,hk,rfl,cD,af⟩:=hrel;have hsz:=af.o.size;have kX:=(HP.o.keep Ce.o.2).keep (ig.bY af.o);have o0:=kX.o;have c0:=kX.c0;have c1:=kX.c1;have c2:=kX.c2;have c3:=kX.c3;by_cases hlt:k<aA p.fu
    ·have X6:=kX.sf;rw [<-HAF.o] at X6 c1;obtain⟨bf,of,rfl,hbf,nj⟩:=tZ X6 hlt;clear X6;have TK:=η (a2X os Ao ko ((k:Int)+1) wr (kX.so.mono kX.ln) (by omega));have cG:=η (λb=>a6Q (os:=os) hlt b);have Bn:=Kz p.fu os k;have Bh:aF.wrap ((k:Int)+1)=(k:Int)+1:=sr _ (by omega);have hkb:(k:Int)<(aA p.fu:Int):=by omega
     have ej:(0:Int)<=(k:Int):=by omega
     clear kX
     gi_wp2
     refine⟨trivial,λ_=>by omega, ?_⟩;refine(tH.2 TK.o).mono ?_;rintro e w9 ⟨rfl,rfl⟩;cases IK:os.contains ((k:Int)+1) with
     |true=>
      have Vx:=cD.o;have zQ:=cG.o aO IK;simp only [if_true,List.append_nil] at zQ;rw [<-zQ] at Vx;have wk:=η Vx;clear Vx zQ cD IK
      gi_wp2
      go_roundw
      case rel=>exact⟨k+1,by omega,by go_num,wk,af⟩
      case measure=>simp [ag];omega
     |false=>
      have zQ:=η (cG.o aP IK);clear IK;generalize kO p.fu os k=ys at*
      gi_wp2_with (gi_at_builtin;refine wpListIn_append_own _ rfl _ _ 257 rfl wm.heap.size 196 i0 _ 3 24 underlying257 bu hz0 fw hz2 rfl (by decide) _ (aA ys) (gW ys) rfl (cD.o.alloc _) ⟨wr.heap.size,0,aB⟩ 1 1 (Dw.cells ⟨9,(k:Int)+1,p.fu[k]⟩) rfl rfl (dS _ _ #[_,_,_] (by simp)) (VX ⟨9,(k:Int)+1,p.fu[k]⟩) (by simp only [bO];omega) (by omega) (by simp;omega) ?_)
      intro v' w4 hown1 dK _;have dY:Hid (w4.ownsRow wm.heap.size 196 3 v' (aA (kO p.fu os (k+1))) (gW (kO p.fu os (k+1)))):=η (by rw [zQ.o];simp only [Yy,if_false];rw [a2x,cN,uT];exact hown1);have ar:Hid (β wm w4):=η ((af.o.alloc hsz _).grown dK (by simp;omega) (λj hj=>eU cD.o j hj));clear hown1 dK
      gi_wp2
      go_roundw
      case rel=>exact⟨k+1,by omega,by go_num,dY,ar⟩
      case measure=>simp [ag];omega
    obtain rfl:k=aA p.fu:=by omega
    obtain⟨A8,c8,rfl⟩:=bL cD.o;have Zk:=η (HJ.o _ _ _ aB Ce.o.1 (show wm.grownBy wr aB from⟨af.o.os,af.o.tape,af.o.output,af.o.size,λj hj _=>af.o.block j hj⟩) (λr e=>by cases e));have zS:Hid (ig n0 bo bp W wr):=η (Ce.o.2.trans (ig.bY af.o));have EN:Hid (M0 (aH A8 (aA (kO p.fu os (aA p.fu))) c8) (wG p.fu os) wr):=η ⟨A8,c8,rfl,aW.cB cD.o,aJ6 Ze.o _,by have:=Kz p.fu os (aA p.fu);show aA (kO p.fu os (aA p.fu))<=1000;omega⟩;clear kX o0 c0 c1 c2 c3 cD af Ce Zy;obtain⟨fn,tmps,assign,body,hy,hR⟩:=HY.o _ _ _ _ Zk.o EN.o (aKx p os)
    gi_wp2
    refine⟨λ_=>by omega, ?_⟩;refine hR.mono ?_;rintro e W3 ⟨rfl,hJ3,hk3⟩;clear hR hy EN Zk;have Th:=η hJ3;have mV:=η (zS.o.trans hk3);clear hJ3 hk3;have c2:=(HP.o.keep mV.o).c2
    gi_wp2
    refine⟨trivial,λ_=>by omega, ?_⟩;refine(tH.2 (Pp _ _ _ _)).mono ?_;rintro e W3a ⟨rfl,XE⟩;have a9l:Hid (ig n0 bo bp W W3a):=η (by rw [<-XE];exact mV.o.alloc _);have Zj:=η (HJ.o _ _ _ aB Th.o (Hh W3 (aK #[ν 3,ν 0,ν p.line] 196) _) (λr e=>by cases e));have WR:=Pq W3 3 0 p.line uM.o.1;rw [XE] at WR Zj;obtain⟨fn,tmps,assign,body,hy,hR⟩:=HY.o _ _ _ _ Zj.o WR (aKy p os);clear XE WR
    gi_wp2
    refine⟨λ_=>by omega, ?_⟩;refine hR.mono ?_;rintro e W5 ⟨rfl,a3q,a3s⟩;clear hR hy;have HJ5:=η a3q;have qH:=η (a9l.o.trans a3s);clear a3q a3s;have c3:=(HP.o.keep qH.o).c3
    gi_wp2
    refine⟨trivial,λ_=>by omega, ?_⟩;refine(tH.2 (Pp _ _ _ _)).mono ?_;rintro e W5a ⟨rfl,XF⟩;have a9m:Hid (ig n0 bo bp W W5a):=η (by rw [<-XF];exact qH.o.alloc _);have Zl:=η (HJ.o _ _ _ aB HJ5.o (Hh W5 (aK #[ν 4,ν 0,ν p.cap] 196) _) (λr e=>by cases e));have WS:=Pq W5 4 0 p.cap uM.o.2;rw [XF] at WS Zl;obtain⟨fn,tmps,assign,body,hy,hR⟩:=HY.o _ _ _ _ Zl.o WS (aKz p os);clear XF WS
    gi_wp2
    refine⟨λ_=>by omega, ?_⟩;refine hR.mono ?_;rintro e W7 ⟨rfl,a3r,a3t⟩;clear hR hy;have HJ7:=η a3r;have HW7:=η (a9m.o.trans a3t);clear a3r a3t
    gi_wp2
    go_end0
    refine⟨⟨_,rfl⟩, ?_⟩;have e9:fU p os=os.map (λm=> [⟨8,m,cV p.co m⟩])++os.map (λm=> [⟨9,m,cV p.fu m⟩])++ [wG p.fu os]++ [[⟨3,0,p.line⟩]]++ [[⟨4,0,p.cap⟩]]:=by simp [fU]
    rw [e9];exact HJ7.o
end
structure Au(w:aJ)(A:Option ai)(c:Nat)(zs:List Int):Prop where
 eA:aW w w.heap.size A (zs.map (aG aF))
 nil:A=aB->aA zs=0/\c=0
theorem Au.below {w w':aJ} {A:Option ai} {c:Nat} {zs:List Int}(h:Au w A c zs)(hb:aa w.heap.size w w'):Au w' A c zs:=⟨(h.eA.below hb).mono hb.size,h.nil⟩
theorem aCk(zs:List Int):∀u∈zs.map (aG aF),u.oneCell'=aO:=by intro u hu;obtain⟨x,_,rfl⟩:=di.1 hu;rfl
theorem Uz:(aM.info? 2).map (λi=>(i.zero,i.size,i.bytes))=aC (aC (aG aF 0),1,8):=by kernel_rfl
theorem Yq {w:aJ} {ops:Array Oper} {rest:List Oper} {o:Oper} {a:Act} {Q:Exit->Act->aJ->Prop}(hgd:o.guard=aB)(s x:Operand)
 (ho:o.op= .call {callee:= .builtin .append,args:= #[s,x],argTypes:= #[53,53]}) (base:Nat)
 (v:aN) (n:Nat) (xs:List aN) (hs:a.eval s=v) (hown:w.ownsRow base 2 1 v n xs)
 (A:Option ai) (c:Nat) (L:List Int) (hx:a.eval x=aH A (aA L) c) (hz:Au w A c L) (hlen:n+aA L<=1000000) (hbase:base<=w.heap.size)
 (h:∀v' w',w'.ownsRow base 2 1 v' (n+aA L) (xs++L.map (aG aF))->w.grownBy w' v.ownBlock->wpList aM ops Q rest (a.put o.dst v') w'):wpList aM ops Q (o::rest) a w:=by
 obtain⟨i0,bu,hz0,hz1,hz2⟩:=dP Uz;cases A with
 |none=>
  obtain⟨h1,rfl⟩:=hz.nil rfl;obtain rfl:L= []:=nU h1;refine wpList_append_own_none hgd s x 53 ho base 2 i0 1 mX bu v n xs hs hown hx (h v w (by simpa using hown) ⟨rfl,rfl,rfl,aZ _,λ_ _ _=>rfl⟩)
 |some ad=>
  refine jC w hgd s x 53 ho base 2 i0 _ 1 8 mX bu hz0 hz1 hz2 rfl (by decide) v n xs hs hown ad (aA L) c (L.map (aG aF)) hx (by simp) ?_ (aCk L) (by simp only [bO];omega) (by omega) hbase ?_
  ·intro j u hu;obtain⟨b,o',e,_,hc⟩:=hz.eA j u hu;have e:=pH e;subst e;have ea:(⟨b,o',aB⟩:ai).add j=⟨b,o'+j,aB⟩:=by unfold Addr.add;split<;>simp_all
   rw [ea];exact hc
  intro v' w' h1 h2 _;exact h v' w' h1 h2
theorem aG4(w:aJ)(n:Nat)(hn:n<=1000000):kF (w.drew.alloc (aK (([]:List aN).toArray++EH (aG aF 0).cells (0+n-0)++EH (aG aF 0).cells (xR w (0+n) 0 2-(0+n))) 2)) w.heap.size 2 1 (aH (aC ⟨w.heap.size,0,aB⟩) 0 (xR w (0+n) 0 2)) 0 []:=a3k w _ n 1 _ rfl hn
def Z9(l:List Int)(w:aJ)(e:dX)(w':aJ):Prop:=∃A c,e=aT (aH A (aA l) c)/\aW w' w'.heap.size A (l.map (aG aF))/\aa w.heap.size w w'
theorem aEO(z1 z2:List Int)(x y:Int)(A1 A2 A3:Option ai)(c1 c2 c3 g:Nat)(w:aJ)(h1:Au w A1 c1 z1)(h2:Au w A2 c2 z2)(h3:Au w A3 c3 [x,y])(g0:w.cell? ⟨g,0,aB⟩=aC (aH A1 (aA z1) c1))(g1:w.cell? ⟨g,1,aB⟩=aC (aH A2 (aA z2) c2))(g2:w.cell? ⟨g,2,aB⟩=aC (aH A3 2 c3))(hg:g<w.heap.size)(oO:aA z1<=1000)(hl2:aA z2<=1000):
 aQ aM 253 #[aH (aC ⟨g,0,aB⟩) 3 3] w (Z9 (z1++z2++ [x,y]) w):=by
 have H1:=η h1;have H2:=η h2;have H3:=η h3;clear h1 h2 h3;have G1:=η g1;have G2:=η g2;have yj:aF.wrap ((aA z1:Int)+aA z2)=(aA z1:Int)+aA z2:=sr _ (by omega);have hw2:aF.wrap ((aA z1:Int)+aA z2+2)=(aA z1:Int)+aA z2+2:=sr _ (by omega);obtain⟨i0,bu,hz0,hz1,hz2⟩:=dP Uz;go_enter func253,ntmps253
 go_wp2_with fail
 refine ux 4 ?_;rw [eI];go_wp2_with fail
 rw [eI];go_wp2_with fail
 rw [eI];go_wp2_with fail
 rw [eI];go_wp2_with fail
 clear yj hw2;rw [show ((aA z1:Int)+(aA z2:Int)+2)=((aA z1+aA z2+2:Nat):Int) from by omega];refine(Any8.slices_Grow_grow growA i0 (ν 0) bu hz0 (by rw [hz1];decide) aB 0 0 (aA z1+aA z2+2) [] _ (by omega) (by omega) (by rw [hz2];omega) (by omega) (by simp) (λ_=>rfl) (λa h=>by cases h)).mono ?_;rintro e w2 ⟨rfl,hw2⟩;have qZ:Hid (w2.ownsRow w.heap.size 2 1 (aH (aC ⟨w.heap.size,0,aB⟩) 0 (xR w (0+(aA z1+aA z2+2)) 0 2)) 0 []):=by show kF _ _ _ _ _ _ _;rw [hw2];exact aG4 w (aA z1+aA z2+2) (by omega)
 have pC:Hid (β w w2):=by show RowKit.Below _ _ _;rw [hw2];exact(aX _ _).drew.alloc (aZ _) _
 have HZ:=η pC.o.size;have wR:=η (H1.o.below pC.o);have p0:w2.cell? ⟨g,0,aB⟩=aC (aH A1 (aA z1) c1):=(pC.o.cell (p:=⟨g,0,aB⟩) hg).trans g0;clear hw2 g0 g1 g2;rw [show (growA_ren.t 25)=2 from rfl];generalize xR w (0+(aA z1+aA z2+2)) 0 2=cap at*;go_wp2_with fail
 refine ux 4 ?_;rw [eI];go_wp2_with (at_builtin;refine Yq rfl _ _ rfl w.heap.size _ 0 [] rfl qZ.o A1 c1 z1 rfl wR.o (by omega) HZ.o ?_)
 intro v3 w3 j7 hg3;have cD:Hid (w3.ownsRow w.heap.size 2 1 v3 (aA z1) (z1.map (aG aF))):=by show kF _ _ _ _ _ _ _;simpa using j7
 have mV:Hid (β w w3):=η (pC.o.trans ((aX _ _).grown hg3 HZ.o (λj hj=>eU qZ.o j hj)));have q1:w3.cell? ⟨g,1,aB⟩=aC (aH A2 (aA z2) c2):=(mV.o.cell (p:=⟨g,1,aB⟩) hg).trans G1.o;have CU:=η (H2.o.below mV.o);have vK:=η mV.o.size;clear j7 hg3;go_wp2_with fail
 rw [eI];go_wp2_with (at_builtin;refine Yq rfl _ _ rfl w.heap.size _ (aA z1) (z1.map (aG aF)) rfl cD.o A2 c2 z2 rfl CU.o (by omega) vK.o ?_)
 intro v4 w4 iC hg4;have dY:Hid (w4.ownsRow w.heap.size 2 1 v4 (aA z1+aA z2) ((z1++z2).map (aG aF))):=by show kF _ _ _ _ _ _ _;rw [dh];exact iC
 have zS:Hid (β w w4):=η (mV.o.trans ((aX _ _).grown hg4 vK.o (λj hj=>eU cD.o j hj)));have q2:w4.cell? ⟨g,2,aB⟩=aC (aH A3 2 c3):=(zS.o.cell (p:=⟨g,2,aB⟩) hg).trans G2.o;have a9K:=η (H3.o.below zS.o);have HZ4:=η zS.o.size;clear iC hg4 q1;generalize hzz:(z1++z2).map (aG aF)=zz at*;have HZZ:=η hzz;clear hzz;go_wp2_with fail
 rw [eI];go_wp2_with (at_builtin;refine Yq rfl _ _ rfl w.heap.size _ (aA z1+aA z2) zz rfl dY.o A3 c3 [x,y] rfl a9K.o (by simp;omega) HZ4.o ?_)
 intro v5 w5 iY fA;have fP:Hid (w5.ownsRow w.heap.size 2 1 v5 (aA (z1++z2++ [x,y])) ((z1++z2++ [x,y]).map (aG aF))):=by show kF _ _ _ _ _ _ _;rw [dh,HZZ.o,cN,cN];exact iY
 have qH:Hid (β w w5):=η (zS.o.trans ((aX _ _).grown fA HZ4.o (λj hj=>eU dY.o j hj)));clear iY fA q2;go_wp2_with fail
 rw [eI];go_wp2_with fail
 go_ret;obtain⟨A4,c4,rfl⟩:=bL fP.o;exact⟨A4,c4,rfl,aW.cB fP.o,qH.o⟩
theorem aKX(w:aJ)(t:bZ)(xs:List aN) {b:Nat}(hb:b=w.heap.size):aW (w.alloc (aK xs.toArray t)) (w.alloc (aK xs.toArray t)).heap.size (aC ⟨b,0,aB⟩) xs:=λj u hu=>
 ⟨b,0,rfl,by rw [hb];simp,by rw [Nat.zero_add,cM _ _ _ j hb,<-Array.getElem?_toList];exact hu⟩
def cA.val(p:cA):aN:=bP #[aH p.Ac (aA p.co) p.cc,aH p.Af (aA p.fu) p.cf,aG aF p.line,aG aF p.cap]
structure D7(w:aJ)(p:cA):Prop where
 c:Au w p.Ac p.cc p.co
 f:Au w p.Af p.cf p.fu
theorem D7.below {w w':aJ} {p:cA}(h:D7 w p)(hb:aa w.heap.size w w'):D7 w' p:=⟨h.c.below hb,h.f.below hb⟩
def xx(n:Int):Bool:=decide (0<=n)&&decide (n<=1099511627776)
def gT(p:cA):List Int:=p.co++p.fu++ [p.line,p.cap]
def Fq(p:cA):Bool:=decide (aA p.co=aA p.fu)&&(decide (aA p.co<=16)&&(gT p).all xx)
def jB(p:cA):Int:=if Fq p then 0 else 1
theorem aJi {p:cA}(h:¬aA p.co=aA p.fu):jB p=1:=by unfold jB Fq;rw [decide_eq_false h];rfl
theorem aJh {p:cA}(h:¬aA p.co<=16):jB p=1:=by unfold jB Fq;rw [decide_eq_false h,Bool.false_and,JF];rfl
theorem aJg {p:cA} {k:Nat}(hk:k<aA (gT p))(h:xx (gT p)[k]=aP):jB p=1:=by
 have:(gT p).all xx=aP:=by rw [Jt];exact⟨_,cK hk,by rw [h];decide⟩
 unfold jB Fq;rw [this,JF,JF];rfl
theorem Xx {p:cA}(h1:aA p.co=aA p.fu)(h2:aA p.co<=16)(h:∀k (hk:k<aA (gT p)),xx (gT p)[k]=aO):jB p=0:=by
 have:(gT p).all xx=aO:=by rw [List.all_eq_true];intro x hx;obtain⟨k,hk,rfl⟩:=List.getElem_of_mem hx;exact h k hk
 unfold jB Fq;rw [this,decide_eq_true h1,decide_eq_true h2];rfl
theorem aJQ(p:cA)(w:aJ)(h:D7 w p)(hc:aA p.co<=bO):
 aQ aM 220 #[p.val] w λe w'=>e=aT (ν (jB p))/\β w w':=by
 unfold bO at hc;have aY:Hid (β w (w.alloc (aK #[aH p.Ac (aA p.co) p.cc,aH p.Af (aA p.fu) p.cf,ν p.line,ν p.cap] 193))):=η σ;have HP:=η h;clear h;unfold cA.val;by_cases h1:aA p.co=aA p.fu
 ·by_cases h2:aA p.co<=16
  ·have HC:Hid (∀(W:aJ) (A3:Option ai) (c3 g:Nat),β w W->Au W A3 c3 [p.line,p.cap]->W.cell? ⟨g,0,aB⟩=aC (aH p.Ac (aA p.co) p.cc)->W.cell? ⟨g,1,aB⟩=aC (aH p.Af (aA p.fu) p.cf)->W.cell? ⟨g,2,aB⟩=aC (aH A3 2 c3)->g<W.heap.size->aQ aM 253 #[aH (aC ⟨g,0,aB⟩) 3 3] W (Z9 (gT p) W)):=η λW A3 c3 g hW h3 g0 g1 g2 hg=>aEO p.co p.fu p.line p.cap p.Ac p.Af A3 p.cc p.cf c3 g W (HP.o.c.below hW) (HP.o.f.below hW) h3 g0 g1 g2 hg (by omega) (by omega)
   have HG:=η (Xx h1 h2);have iw:=η (λk hk=>aJg (p:=p) (k:=k) hk);have hpl:aA (gT p)<=100:=by unfold gT;simp;omega
   have hne:((aA p.co:Int) !=(aA p.fu:Int))=aP:=by rw [h1];simp
   have IP:decide ((16:Int)<(aA p.co:Int))=aP:=decide_eq_false (by omega);clear h1;generalize gT p=L at*;generalize jB p=pe at*;go_enter a0h,a1B
   go_wp2_with fail
   refine(HC.o _ (aC ⟨w.heap.size+1,0,aB⟩) 2 (w.heap.size+2) ?_ ⟨?_,λe=>by cases e⟩ ?_ ?_ ?_ (by simp)).mono ?_
   ·exact(σ.alloc (by simp) _).alloc (by simp;omega) _
   ·exact((aKX _ 2 [ν p.line,ν p.cap] (by simp)).below σ).mono (by simp)
   ·rw [cM _ _ _ _ (by simp)];rfl
   ·rw [cM _ _ _ _ (by simp)];rfl
   ·rw [cM _ _ _ _ (by simp)];rfl
   rintro e w1 ⟨A1,c1,rfl,hs1,hb1⟩;have cj:=η hs1;have aR:Hid (β w w1):=η (((σ.alloc (by simp) _).alloc (by simp;omega) _).trans (hb1.mono (by simp;omega)));clear hs1 hb1 HC;go_wp2_with fail
   go_loop [30] (λi=>∃k:Nat,k<=aA L/\i=ν k/\Hid (∀j (hj:j<aA L),j<k->xx L[j]=aO)) (λi=>aA L-(ag i).toNat)
   case atStart=>exact⟨0,bM _,rfl,λj _ h=>absurd h (Nat.not_lt_zero _)⟩
   case round=>
    obtain⟨k,hk,rfl,HK⟩:=hrel;by_cases hlt:k<aA L
    ·obtain⟨b,o,rfl,hb,d0⟩:=tZ cj.o hlt;have dT:Hid (xx L[k]=(decide (0<=L[k])&&decide (L[k]<=1099511627776))):=η rfl;have Cg:=η (iw.o k hlt);have lq:Hid (xx L[k]=aO->∀j (hj:j<aA L),j<k+1->xx L[j]=aO):=η λh j hj hjk=>by
      by_cases e:j=k
      ·subst e;exact h
      exact HK.o j hj (by omega)
     generalize xx L[k]=ok at*;generalize L[k]=x at*;by_cases hx0:x<0
     ·have hE:ok=aP:=by rw [dT.o,decide_eq_false (by omega)];rfl
      have HE:=η (Cg.o hE);clear hE;go_wp2_with fail
      go_ret;exact⟨cW HE.o.symm,aR.o⟩
     have hxd:decide (x<0)=aP:=decide_eq_false hx0;by_cases hx1:1099511627776<x
     ·have hE:ok=aP:=by rw [dT.o,decide_eq_false (by omega:¬x<=1099511627776),JF]
      have HE:=η (Cg.o hE);clear hE;go_wp2_with fail
      go_ret;exact⟨cW HE.o.symm,aR.o⟩
     have RM:decide (1099511627776<x)=aP:=decide_eq_false hx1;have hE:ok=aO:=by rw [dT.o,decide_eq_true (by omega:0<=x),decide_eq_true (by omega:x<=1099511627776)];rfl
     have oh:=η (lq.o hE);clear hE;go_wp2_with fail
     go_round
     case rel=>exact⟨k+1,by omega,by go_num,oh⟩
     case measure=>simp [ag];omega
    obtain rfl:k=aA L:=by omega
    have HE:=η (HG.o λj hj=>HK.o j hj hj);go_wp2_with fail
    go_ret;exact⟨cW HE.o.symm,aR.o⟩
  have HE:=η (aJh h2);have hne:((aA p.co:Int) !=(aA p.fu:Int))=aP:=by rw [h1];simp
  have IP:decide ((16:Int)<(aA p.co:Int))=aO:=decide_eq_true (by omega);clear h1 HP;generalize jB p=pe at*;go_enter a0h,a1B
  go_wp2_with fail
  go_ret;exact⟨cW HE.o.symm,aY.o⟩
 have HE:=η (aJi h1);have hne:((aA p.co:Int) !=(aA p.fu:Int))=aO:=by simp [bne];omega
 clear h1 HP;generalize jB p=pe at*;go_enter a0h,a1B
 go_wp2_with fail
 go_ret;exact⟨cW HE.o.symm,aY.o⟩
def th(n:Nat)(os:List Int)(k:Nat):Bool:=decide (os.getD k 0<1)||(decide ((n:Int)<os.getD k 0)||(decide (0<k)&&decide (os.getD k 0<=os.getD (k-1) 0)))
def gJ(p:cA)(os:List Int):Int:=if jB p≠0 then jB p else if (dQ (aA os)).any (th (aA p.co) os) then 9 else 0
theorem Xb {p:cA} {os:List Int} {k:Nat}(h0:jB p=0)(hk:k<aA os)(h:th (aA p.co) os k=aO):gJ p os=9:=by unfold gJ;rw [ifN (by omega),ifP (kE.2 ⟨k,nV.2 hk,h⟩)]
theorem a5g {p:cA} {os:List Int}(h0:jB p=0)(h:∀k,k<aA os->th (aA p.co) os k=aP):gJ p os=0:=by unfold gJ;rw [ifN (by omega),ifN];rw [kE];rintro⟨k,hk,h9⟩;rw [h k (nV.1 hk)] at h9;cases h9
theorem getD_at {l:List Int} {k:Nat}(h:k<aA l):l.getD k 0=l[k]:=by rw [tC,iG h];rfl
theorem a5h(p:cA)(os:List Int)(A:Option ai)(c:Nat)(w:aJ)(h:D7 w p)(hc:aA p.co<=bO)(hs:aW w w.heap.size A (os.map (aG aF)))(hl:aA os<=100000)(hI:∀x∈os,aL x):
 aQ aM 183 #[p.val,aH A (aA os) c] w λe w'=>e=aT (ν (gJ p os))/\β w w':=by
 have aY:Hid (β w (w.alloc (aK #[aH p.Ac (aA p.co) p.cc,aH p.Af (aA p.fu) p.cf,ν p.line,ν p.cap] 193))):=η σ;have HC:Hid (∀W,β w W->aQ aM 220 #[p.val] W λe w'=>e=aT (ν (jB p))/\β W w'):=η λW hW=>aJQ p W (h.below hW) hc
 have bU:(w.alloc (aK #[aH p.Ac (aA p.co) p.cc,aH p.Af (aA p.fu) p.cf,ν p.line,ν p.cap] 193)).cell? ⟨w.heap.size,0,aB⟩=aC (aH p.Ac (aA p.co) p.cc):=by rw [cM _ _ _ _ rfl];rfl
 have hbl:w.heap.size<(w.alloc (aK #[aH p.Ac (aA p.co) p.cc,aH p.Af (aA p.fu) p.cf,ν p.line,ν p.cap] 193)).heap.size:=by simp
 have dJ:=η (kh bU hbl);have HS:=η hs;have HD:Hid (gJ p os=if jB p≠0 then jB p else if (dQ (aA os)).any (th (aA p.co) os) then 9 else 0):=η rfl;have HG:=η (λ(h0:jB p=0)=>a5g (p:=p) (os:=os) h0);have iw:=η (λ(h0:jB p=0) k (hk:k<aA os)=>Xb (p:=p) (os:=os) (k:=k) h0 hk);unfold bO at hc;generalize gJ p os=me at*;unfold cA.val at*;go_enter func183,ntmps183
 go_wp2_with fail
 generalize w.alloc (aK #[aH p.Ac (aA p.co) p.cc,aH p.Af (aA p.fu) p.cf,ν p.line,ν p.cap] 193)=w0 at*;refine(HC.o _ aY.o).mono ?_;rintro e w1 ⟨rfl,hb1⟩;have aR:Hid (β w w1):=τ aY hb1;have bU:w1.cell? ⟨w.heap.size,0,aB⟩=aC (aH p.Ac (aA p.co) p.cc):=(hb1.cell (p:=⟨w.heap.size,0,aB⟩) dJ.o.2).trans dJ.o.1;by_cases h0:jB p=0
 ·rw [h0];have HG:=η (HG.o h0);have iw:=η (iw.o h0);go_wp2_with fail
  go_loop [6,16] (λla i=>∃k:Nat,∃lv:Int,k<=aA os/\i=ν k/\la=ν lv/\0<=lv/\Hid (lv=if k=0 then 0 else os.getD (k-1) 0)/\Hid (∀j,j<k->th (aA p.co) os j=aP)) (λ_ i=>aA os-(ag i).toNat)
  case atStart=>exact⟨0,0,bM _,rfl,rfl,dM _,rfl,λj h=>absurd h (Nat.not_lt_zero _)⟩
  case round=>
   obtain⟨k,lv,hk,rfl,rfl,hlv,lR,HK⟩:=hrel;by_cases hlt:k<aA os
   ·obtain⟨b,o,rfl,hb,d0⟩:=tZ (HS.o.below aR.o) hlt;have uO:Hid (th (aA p.co) os k=(decide (os[k]<1)||(decide ((aA p.co:Int)<os[k])||(decide (0<k)&&decide (os[k]<=os.getD (k-1) 0))))):=η (by unfold th;rw [getD_at hlt]);have Cg:=η (iw.o k hlt);have Cj:Hid (os.getD k 0=os[k]):=η (getD_at hlt);generalize os[k]=x at*;by_cases h1:x<=lv
    ·have hE:th (aA p.co) os k=aO:=by
      rw [uO.o];have:=lR.o;by_cases ej:k=0
      ·rw [ifP ej] at this;rw [decide_eq_true (by omega:x<1)];rfl
      rw [ifN ej] at this;rw [decide_eq_true (by omega:0<k),decide_eq_true (by omega:x<=os.getD (k-1) 0)];simp
     have HE:=η (Cg.o hE);go_wp2_with fail
     go_ret;exact⟨cW HE.o.symm,aR.o⟩
    have h1d:decide (x<=lv)=aP:=decide_eq_false h1;by_cases h2:(aA p.co:Int)<x
    ·have hE:th (aA p.co) os k=aO:=by
      rw [uO.o,decide_eq_true h2];simp
     have HE:=η (Cg.o hE);go_wp2_with fail
     go_ret;exact⟨cW HE.o.symm,aR.o⟩
    have Vn:decide ((aA p.co:Int)<x)=aP:=decide_eq_false h2;have hE:th (aA p.co) os k=aP:=by
     rw [uO.o];have:=lR.o;by_cases ej:k=0
     ·subst ej;rw [decide_eq_false (by omega:¬x<1),Vn];rfl
     rw [ifN ej] at this;rw [decide_eq_false (by omega:¬x<1),Vn,decide_eq_false (by omega:¬x<=os.getD (k-1) 0)];simp
    have lq:Hid (∀j,j<k+1->th (aA p.co) os j=aP):=η λj hj=>by
     by_cases e:j=k
     ·subst e;exact hE
     exact HK.o j (by omega)
    have Ci:Hid (x=if k+1=0 then 0 else os.getD (k+1-1) 0):=η (by rw [ifN (by omega),Nat.add_sub_cancel];exact Cj.o.symm);go_wp2_with fail
    go_round
    case rel=>exact⟨k+1,x,by omega,by go_num,rfl,by omega,Ci,lq⟩
    case measure=>simp [ag];omega
   obtain rfl:k=aA os:=by omega
   have HE:=η (HG.o HK.o);go_wp2_with fail
   go_ret;exact⟨cW HE.o.symm,aR.o⟩
 have HE:Hid (me=jB p):=η (by rw [HD.o,ifP h0]);generalize jB p=pe at*;have Ie:(pe !=0)=aO:=by simpa [bne] using h0
 go_wp2_with fail
 go_ret;exact⟨cW HE.o.symm,aR.o⟩
section
open Go.Shelf
attribute [local go_sem] Oper.semAt_some
theorem a7f(p:cA)(A:Option ai)(n c:Nat)(w:aJ):
 aQ aM 187 #[p.val,aH A n c] w λe w'=>e=aT (.func (.func 221) #[] #[π (w.heap.size+1),π w.heap.size])/\(w.alloc (aK #[aH p.Ac (aA p.co) p.cc,aH p.Af (aA p.fu) p.cf,ν p.line,ν p.cap] 193)).alloc (aK #[aH A n c] 46)=w':=by
 unfold cA.val;go_enter func187,ntmps187
 go_wp2
 go_ret;exact⟨rfl,rfl⟩
theorem a6e(p:cA)(os:List Int)(A:Option ai)(c n1:Nat)(w:aJ)(h:D7 w p)(hs:aW w w.heap.size A (os.map (aG aF)))(hn:w.heap.size=n1):
 ∀W,ig n1 n1 n1 w W->MB n1 ((W.alloc (aK #[aH p.Ac (aA p.co) p.cc,aH p.Af (aA p.fu) p.cf,ν p.line,ν p.cap] 193)).alloc (aK #[aH A (aA os) c] 46)) (W.heap.size+1) W.heap.size p os A c:=by
 intro W hW;subst hn;have hsz:=hW.size;have hk:∀q:ai,q.block<w.heap.size->((W.alloc (aK #[aH p.Ac (aA p.co) p.cc,aH p.Af (aA p.fu) p.cf,ν p.line,ν p.cap] 193)).alloc (aK #[aH A (aA os) c] 46)).cell? q=w.cell? q:=λq hq=>by rw [qp _ _ _ (by simp;omega),qp _ _ _ (by omega)];exact gu (hW.keep q.block (.inl hq) hq)
 refine⟨by rw [cM _ _ _ _ (by simp)];rfl, ?_, ?_, ?_, ?_,hs.keep hk,h.c.eA.keep hk,h.f.eA.keep hk,by simp,by simp;omega,by simp;omega⟩
 all_goals
  rw [BU _ _ _ (by simp),cM _ _ _ _ rfl];rfl
def CE(ys:List (List Dw)):Int:=ys.foldl (λn y=>aF.wrap (n+sU y)) 0
theorem aK6(ys:List (List Dw))(y:List Dw):CE (ys++ [y])=aF.wrap (CE ys+sU y):=by simp [CE]
def rH(p:cA)(os:List Int):Int:=if gJ p os=0 then CE (fU p os) else 0
structure Gk(p:cA)(os:List Int):Prop where
 len:aA p.fu=aA p.co
 big:aA p.co<=16
 os1:∀m∈os,1<=m/\m<=aA p.co
 all:∀x∈gT p,0<=x/\x<=1099511627776
theorem AW {p:cA} {os:List Int}(h:gJ p os=0):Gk p os:=by
 have h0:jB p=0:=by
  unfold gJ at h;by_cases h0:jB p=0
  ·exact h0
  rw [ifP h0] at h;exact h
 have hb:Fq p=aO:=by
  unfold jB at h0;by_cases hb:Fq p=aO
  ·exact hb
  rw [ifN hb] at h0;exact absurd h0 (by decide)
 unfold Fq at hb;simp only [ji,decide_eq_true_eq] at hb;refine⟨hb.1.symm,hb.2.1,λm hm=> ?_,λx hx=> ?_⟩
 ·obtain⟨k,hk,rfl⟩:=List.getElem_of_mem hm;by_cases FD:th (aA p.co) os k=aO
  ·rw [Xb h0 hk FD] at h;exact absurd h (by decide)
  have hf:th (aA p.co) os k=aP:=by simpa using FD
  unfold th at hf;rw [getD_at hk] at hf;simp only [Bool.or_eq_false_iff,decide_eq_false_iff_not] at hf;omega
 have:=List.all_eq_true.1 hb.2.2 x hx;unfold xx at this;simp only [ji,decide_eq_true_eq] at this;exact this
theorem Gk.i64 {p:cA} {os:List Int}(h:Gk p os):(∀x∈p.co,aL x)/\(∀x∈p.fu,aL x)/\aL p.line/\aL p.cap:=by
 have k:∀x∈gT p,aL x:=λx hx=>by have:=h.all x hx;unfold aL;omega
 exact⟨λx hx=>k x (by simp [gT,hx]),λx hx=>k x (by simp [gT,hx]),k _ (by simp [gT]),k _ (by simp [gT])⟩
theorem a5L {n1 bo bp:Nat} {A B C:aJ}(h:ig n1 bo bp A B)(k:ig n1 bo bp B C):ig n1 bo bp A C:=h.trans k
theorem a5K {n1 bo bp B:Nat}(h1:n1<=B)(h2:bo<B)(h3:bp<B):∀(W:aJ) (l:Nat) (o o':Obj),B<=l->W.heap[l]? =aC o->o.isCells=aP->o.isWalk=aP->ig n1 bo bp W (W.putObj l o'):=λ_ _ _ _ hl _ _ _=>
 ⟨by simp [aCR],λ_ hk _=>Pj (by omega)⟩
theorem a4O(v:aN)(y:List Dw)(W:aJ)(l:Nat)(o o':Obj)(h:M0 v y W)(hl:W.heap[l]? =aC o)(ho:o.isCells=aP):M0 v y (W.putObj l o'):=by
 obtain⟨A,c,e,hs,h1,h2⟩:=h;refine⟨A,c,e,λj u hu=> ?_,h1,h2⟩;obtain⟨b,o9,e9,hb,hc⟩:=hs j u hu;refine⟨b,o9,e9,by simpa [aCR] using hb, ?_⟩;have hne:b≠l:=λe=>by subst e;unfold World.cell? at hc;rw [hl] at hc;cases o<;>simp [Obj.isCells] at ho hc
 rw [<-hc];exact gu (w:=W) (w':=W.putObj l o') (a:=⟨b,o9+j,aB⟩) (Pj (by simpa using hne))
theorem a5H {W W':aJ}(h:aa W.heap.size W W'):KeepsOthers W W':=⟨h.size,λk _ hk _=>(h.block k (fY.1 hk).1).trans hk⟩
theorem aKB {w W w':aJ} {bn:Nat} {pre:List (List Dw)} {y:List Dw} {a:Act} {z:Int}(hb:aa W.heap.size W w')(hw:w.heap.size<=bn)(ez:aa w.heap.size w W)(hcw:∃u,w'.cell? ⟨bn,0,aB⟩=aC u)(hfw:w'.frozen? ⟨bn,0,aB⟩=aP)(hz:CE (pre++ [y])=z):
 a4A (ig w.heap.size (bn+1+1) (bn+1)) (λpre W=>(W.cell? ⟨bn,0,aB⟩=aC (ν (CE pre))/\W.frozen? ⟨bn,0,aB⟩=aP)/\β w W) (pre++ [y]) W .normal a (w'.setCell ⟨bn,0,aB⟩ (ν z)):=by
 obtain⟨u,hu⟩:=hcw;refine⟨(a5H hb).trans (a0G _ _ _),(ig.bY hb).trans ⟨by simp [Em],λk hk _=>nR _ _ _ _ (by simp only [ne_eq];omega)⟩,⟨?_, ?_⟩,(ez.trans (hb.mono ez.size)).setCell (by simpa using hw) _⟩
 ·rw [hz];exact a1X _ _ _ (by rw [hu];rfl)
 rw [a1Z];exact hfw
theorem aKA(p:cA)(os:List Int)(A:Option ai)(c:Nat)(w:aJ)(h:D7 w p)(hc:aA p.co<=bO)(hs:aW w w.heap.size A (os.map (aG aF)))(hl:aA os<=1000)(hI:∀x∈os,aL x):
 aQ aM 132 #[p.val,aH A (aA os) c] w λe w'=>e=aT (bC #[ν (rH p os),ν (gJ p os)])/\β w w':=by
 have aY:Hid (β w (w.alloc (aK #[aH p.Ac (aA p.co) p.cc,aH p.Af (aA p.fu) p.cf,ν p.line,ν p.cap] 193))):=η σ;have HM:Hid (∀W,β w W->aQ aM 183 #[p.val,aH A (aA os) c] W λe w'=>e=aT (ν (gJ p os))/\β W w'):=η λW hW=>a5h p os A c W (h.below hW) hc ((hs.below hW).mono hW.size) (by omega) hI
 have EY:=η (a6e p os A c w.heap.size w h hs rfl);have rU:Hid (∀W,aQ aM 187 #[p.val,aH A (aA os) c] W λe w'=>e=aT (.func (.func 221) #[] #[π (W.heap.size+1),π W.heap.size])/\(W.alloc (aK #[aH p.Ac (aA p.co) p.cc,aH p.Af (aA p.fu) p.cf,ν p.line,ν p.cap] 193)).alloc (aK #[aH A (aA os) c] 46)=w'):=η λW=>a7f p A (aA os) c W
 have Oz:Hid (rH p os=if gJ p os=0 then CE (fU p os) else 0):=η rfl;have Tm:=η (λh=>AW (p:=p) (os:=os) h);generalize rH p os=rv at*;unfold cA.val at*;by_cases h0:gJ p os=0
 ·have F:=Tm.o h0;rw [h0] at HM ⊢;rw [ifP h0] at Oz;have HF:=η F;refine(tH (n:=9)).1 ?_;refine callsIn_of_wp_marks aAl rfl trivial ?_ rfl;simp only [aBY,List.size_toArray,uS,Eh,Nat.reduceAdd,Nat.reduceSub,Array.replicate_succ,Array.replicate_zero,List.push_toArray,List.append_toArray,Gi,List.cons_append]
  gi_wp2
  refine⟨trivial, ?_⟩;refine(tH.2 (HM.o _ aY.o)).mono ?_;rintro e w1 ⟨rfl,hb1⟩;have aR:Hid (β w w1):=τ aY hb1;have q0:w1.cell? ⟨w.heap.size,0,aB⟩=aC (aH p.Ac (aA p.co) p.cc):=(hb1.cell (p:=⟨w.heap.size,0,aB⟩) (by simp)).trans (by rw [cM _ _ _ _ rfl];rfl);have q1:w1.cell? ⟨w.heap.size,1,aB⟩=aC (aH p.Af (aA p.fu) p.cf):=(hb1.cell (p:=⟨w.heap.size,1,aB⟩) (by simp)).trans (by rw [cM _ _ _ _ rfl];rfl);have q2:w1.cell? ⟨w.heap.size,2,aB⟩=aC (ν p.line):=(hb1.cell (p:=⟨w.heap.size,2,aB⟩) (by simp)).trans (by rw [cM _ _ _ _ rfl];rfl);have q3:w1.cell? ⟨w.heap.size,3,aB⟩=aC (ν p.cap):=(hb1.cell (p:=⟨w.heap.size,3,aB⟩) (by simp)).trans (by rw [cM _ _ _ _ rfl];rfl);have FO:w.heap.size<w1.heap.size:=by have:=hb1.size;simp at this;omega
  gi_wp2
  refine⟨trivial, ?_⟩;refine(tH.2 (rU.o _)).mono ?_;rintro e w3 ⟨rfl,hw3⟩;have Du:(w1.alloc (aK #[ν 0] 2)).heap.size=w1.heap.size+1:=by simp
  have fF:Hid (β w (w1.alloc (aK #[ν 0] 2))):=η (aR.o.alloc aR.o.size _);have zM:=EY.o _ (ig.bY fF.o);rw [hw3,Du] at zM;have aH1:w3.heap.size=w1.heap.size+3:=by rw [<-hw3];simp
  have af:Hid (β w w3):=η (by rw [<-hw3];exact(fF.o.alloc fF.o.size _).alloc (bz fF.o.size (by simp)) _);have nu:w3.cell? ⟨w1.heap.size,0,aB⟩=aC (ν 0):=by rw [<-hw3,qp _ _ _ (by simp;omega),qp _ _ _ (by simp),cM _ _ _ _ rfl];rfl
  have hf3:w3.frozen? ⟨w1.heap.size,0,aB⟩=aP:=by rw [<-hw3,Ph _ _ _ (by simp;omega),Ph _ _ _ (by simp),a1Y _ _ _ _ rfl]
  have NS:=aR.o.size;rw [Du]
  gi_wp2
  refine a8c (β:=List Dw) rfl (by omega) (gf:=221) (lb:= #[bD (aC ⟨w1.heap.size+1+1,0,aB⟩),π (w1.heap.size+1)]) rfl trivial (enters_of func221 (by kernel_rfl) rfl)
   (a7g 8 w.heap.size (w1.heap.size+1+1) (w1.heap.size+1) (by omega) p os A c w3 zM HF.o.os1 HF.o.len (by have:=HF.o.big;omega) hl HF.o.i64.1 HF.o.i64.2.1 HF.o.i64.2.2.1 HF.o.i64.2.2.2)
   a5L (a5K (by omega) (by omega) (by omega)) (aX _ _) a4O
   (λpre W=>(W.cell? ⟨w1.heap.size,0,aB⟩=aC (ν (CE pre))/\W.frozen? ⟨w1.heap.size,0,aB⟩=aP)/\β w W)
   (OwnFrom.and (Own.from (λs A B row hs hg hr=>⟨cell_kept hs.1 hg hr,(frozen_kept hs.1 hg hr).trans hs.2⟩) _) (ownFrom_below (aZ _) (by omega)))
   ⟨⟨nu,hf3⟩,af.o⟩ ?a1 ?assign ?body ?done
  case assign=>
   intro l v W K hK
   gi_wp2
   exact hK
  case body=>
   rintro l pre y v W ⟨⟨xT,KU⟩,ez⟩ ⟨Ay,cy,rfl,NN,Vs,hly⟩ _;have hmx:aM.follows .mixedOrders=aO:=by kernel_rfl
   have N8:w1.heap.size<W.heap.size:=by
    rcases rZ w1.heap.size W.heap.size with hh|hh
    ·exact hh
    unfold World.cell? at xT;rw [JE hh] at xT;cases xT
   have UC:Hid (∀W2,β W W2->aQ aM 186 #[aH Ay (aA y) cy] W2 λe w'=>e=aT (ν (sU y))/\β W2 w'):=η λW2 hW2=>a8N y Ay cy W2 ((NN.below hW2).mono hW2.size) Vs (by omega)
   have GZ:=η (aK6 pre y);generalize CE pre=rp at*;generalize sU y=ty at*
   gi_wp2
   gi_region_with_o (refine⟨trivial, ?_⟩;gi_at_call 186;refine(CallsIn.inRound l (tH.2 (UC.o _ (by first|exact aX _ _|exact(aX _ _).drew|exact(aX _ _).drew.drew)))).mono ?_;rintro e w' ⟨rfl,dZ⟩;have hcw:=(dZ.cell (p:=⟨w1.heap.size,0,aB⟩) N8).trans xT;have hfw:=(dZ.frozen (p:=⟨w1.heap.size,0,aB⟩) N8).trans KU)
   all_goals gi_wp2
   all_goals exact aKB (((aX _ _).drew).trans dZ) NS ez ⟨_,hcw⟩ hfw GZ.o
  case done=>
   rintro D W hD ⟨⟨xT,KU⟩,ez⟩ hK
   gi_wp2
   refine⟨by simp,.inl ⟨_,_,rfl,run_takeDeferred hK, ?_⟩⟩;exact⟨_,results_tmp2 rfl _ _ _,by rw [Oz.o];rfl,ez.trans (belowK_b (w:=w) (aZ _) W D _ _ (by omega) hK rfl rfl)⟩
 have HE:=η h0;rw [ifN h0] at Oz;have hen:(gJ p os !=0)=aO:=by simpa [bne] using h0
 generalize gJ p os=me at*;go_enter aAl,aBY
 go_wp2_with fail
 refine(HM.o _ aY.o).mono ?_;rintro e w1 ⟨rfl,hb1⟩;have aR:Hid (β w w1):=τ aY hb1;go_wp2_with fail
 go_ret2;exact⟨by rw [Oz.o];rfl,aR.o⟩
end
theorem aCf(T:Int)(l:List Int):aA (dN T l)<=aA l:=by
 unfold dN uV;split
 ·simp
 split
 ·exact aZ _
 split
 ·simp
 split
 ·simp
 rw [rI];exact aZ _
theorem aCe {T:Int} {l:List Int}(hl:∀x∈l,aL x):∀x∈dN T l,aL x:=by
 intro x hx;by_cases h:iP T l=0
 ·have G:=F5 h;obtain⟨i,hi,rfl⟩:=List.getElem_of_mem hx;have hi':i<aA l:=by rw [<-G.len];exact hi
  have:=G.bd i hi hi';have h2:=hl _ (cK hi');unfold aL at*;omega
 unfold dN at hx;rw [ifP h] at hx;simp at hx
def fj(s:List Dw):List Int:=s.map (·.n)
theorem aFC {s:List Dw} {k:Nat}(hk:k<aA s):fj (s.take (k+1))=fj (s.take k)++ [s[k].n]:=by unfold fj;rw [fH hk,dh];rfl
def iz(s:List Dw)(xs:List Int):List Dw:=(kV (λ(x:Dw) n=>(⟨x.k,x.m,n⟩:Dw)) s xs).filter λx=>decide (0<x.n)
theorem aFF {s:List Dw} {xs:List Int} {k:Nat}(h:k<aA s)(h':k<aA xs):iz (s.take (k+1)) (xs.take (k+1))=iz (s.take k) (xs.take k)++if 0<xs[k] then [⟨s[k].k,s[k].m,xs[k]⟩] else []:=by unfold iz;rw [fH h,fH h',List.zipWith_append (by simp;omega),List.filter_append];by_cases hp:0<xs[k]<;>simp [hp]
theorem aFE(s:List Dw)(xs:List Int)(k:Nat):aA (iz (s.take k) (xs.take k))<=k:=by unfold iz;refine bz (qo _ _) ?_;rw [Ei,vN];omega
theorem a8i {α β γ:Type}(f:α->β->γ):∀(s:List α) (xs:List β),aA xs<=aA s->kV f (s.take (aA xs)) xs=kV f s xs
 |_,[],_=>by simp
 | [],_::_,h=>by simp at h
 |x::s,y::xs,h=>by rw [uS,List.take_succ_cons,Ek,Ek,a8i f s xs (by simpa using h)]
theorem aFD(s:List Dw)(xs:List Int)(h:aA xs<=aA s):iz (s.take (aA xs)) (xs.take (aA xs))=iz s xs:=by unfold iz;rw [cU,a8i _ _ _ h]
def nE(s:List Dw)(need:Int):List Dw:=iz s (dN need (fj s))
def ZA(l:List Dw)(w:aJ)(e:dX)(w':aJ):Prop:=∃A c,e=aT (aH A (aA l) c)/\w'.ownsRow w.heap.size 196 3 (aH A (aA l) c) (aA l) (gW l)/\aa w.heap.size w w'
theorem aFz(s:List Dw)(need:Int)(A:Option ai)(c:Nat)(w:aJ)(hs:aW w w.heap.size A (gW s))(hI:∀x∈s,aL x.n)(hN:aL need)(hl:aA s<=1000):
 aQ aM 185 #[aH A (aA s) c,ν need] w (ZA (nE s need) w):=by
 obtain⟨i0,bu,hz0,hz1,hz2⟩:=dP QC;obtain⟨j0,AE,jz0,jz1,jz2⟩:=dP (show (aM.info? 2).map (λi=>(i.zero,i.size,i.bytes))=aC (aC (ν 0),1,8) by kernel_rfl);have HS:=η hs;have HI:=η hI;have HN:=η hN;go_enter func185,ntmps185
 go_wp2
 go_loopw [5,15] (λu i wr=>∃k:Nat,k<=aA s/\i=ν k/\Hid (wr.ownsRow w.heap.size 2 1 u k ((fj (s.take k)).map (aG aF)))/\Hid (β w wr)) (λ_ i _=>aA s-(ag i).toNat)
 ·exact⟨0,bM _,rfl,gG _ _ _ _,aX _ _⟩
 ·
  obtain⟨k,hk,rfl,HO,HB⟩:=hrel;have hsz:=HB.o.size;by_cases hlt:k<aA s
  ·obtain⟨b,o,rfl,hb,d0,d1,d2⟩:=QB (HS.o.below HB.o) hlt;have cG:=η (aFC hlt);generalize s[k].n=n at*;generalize s[k].k=kk at*;generalize s[k].m=mm at*;generalize fj (s.take k)=ys at*;have cF:Hid (∀ob,(wr.alloc ob).ownsRow w.heap.size 2 1 _ k (ys.map (aG aF))):=η λob=>HO.o.alloc ob
   have aR:Hid (∀ob,β w (wr.alloc ob)):=η λob=>HB.o.alloc hsz ob
   go_wp2_with (at_builtin;refine jC _ rfl _ _ 53 rfl w.heap.size 2 j0 _ 1 8 mX AE jz0 jz1 jz2 rfl (by decide) _ k (ys.map (aG aF)) rfl ((cF.o _).alloc _) ⟨wr.heap.size+1,0,aB⟩ 1 1 [ν n] rfl rfl (dS _ _ #[_] (by simp)) xy (by simp only [bO];omega) (by omega) (by simp;omega) ?_)
   intro v' w4 hown1 dK _;have dY:Hid (w4.ownsRow w.heap.size 2 1 v' (k+1) ((fj (s.take (k+1))).map (aG aF))):=η (by rw [cG.o,dh];exact hown1);have ar:=η (((aR.o _).alloc (by simp;omega) _).grown dK (by simp;omega) (λj hj=>eU HO.o j hj));go_wp2
   go_roundw
   ·exact⟨k+1,by omega,by go_num,dY,ar⟩
   simp [ag];omega
  obtain rfl:k=aA s:=by omega
  have hO:=HO.o;rw [cU] at hO;obtain⟨A1,c1,rfl⟩:=bL hO;have pP:aA (fj s)=aA s:=by simp [fj]
  have Az:=η (Yu need (fj s) A1 c1 wr HN.o (λz hz=>by obtain⟨y,hy,rfl⟩:=di.1 hz;exact HI.o y hy) (aW.cB hO) (by unfold bO;omega));rw [pP] at Az;have rz:=aCf need (fj s);rw [pP] at rz;have HG:Hid (nE s need=iz s (dN need (fj s))):=η rfl;generalize dN need (fj s)=zs at*;generalize za need (fj s)=ze at*;go_wp2_with (go_at_call 194;refine Az.o.mono ?_;rintro e w2 ⟨A2,c2,rfl,hs2,hb2⟩;have cO:=η hs2;have aV:=η (HB.o.trans (hb2.mono hsz)))
  have Ij:=aV.o.size;go_loopw [10,33] (λu i wr=>∃k:Nat,k<=aA zs/\i=ν k/\Hid (wr.ownsRow w2.heap.size 196 3 u (aA (iz (s.take k) (zs.take k))) (gW (iz (s.take k) (zs.take k))))/\Hid (β w2 wr)) (λ_ i _=>aA zs-(ag i).toNat)
  ·exact⟨0,bM _,rfl,⟨by simp [iz,gW],aS ⟨rfl,rfl⟩⟩,aX _ _⟩
  ·
   obtain⟨k,hk,rfl,HO,HB⟩:=hrel;have hsz:=HB.o.size;have cC:=η (aV.o.trans (HB.o.mono Ij));by_cases hlt:k<aA zs
   ·have AK:k<aA s:=by omega
    obtain⟨b,o,rfl,hb,d0,d1,d2⟩:=QB (HS.o.below cC.o) AK;obtain⟨b2,o2,rfl,hb2,hc2⟩:=tZ (cO.o.below HB.o) hlt;have cG:=η (aFF AK hlt);have Bn:=aFE s zs k;have hkb:(k:Int)<(aA s:Int):=by omega
    have ej:(0:Int)<=(k:Int):=by omega
    generalize s[k].k=kk at*;generalize s[k].m=mm at*;generalize iz (s.take k) (zs.take k)=ys at*;generalize zs[k]=z at*;by_cases hp:0<z
    ·rw [ifP hp] at cG;go_wp2_with (at_builtin;refine jC _ rfl _ _ 257 rfl w2.heap.size 196 i0 _ 3 24 underlying257 bu hz0 hz1 hz2 rfl (by decide) _ (aA ys) (gW ys) rfl (HO.o.alloc _) ⟨wr.heap.size,0,aB⟩ 1 1 (Dw.cells ⟨kk,mm,z⟩) rfl rfl (dS _ _ #[_,_,_] (by simp)) (VX ⟨kk,mm,z⟩) (by simp only [bO];omega) (by omega) (by simp;omega) ?_)
     intro v' w4 hown1 dK _;have dY:Hid (w4.ownsRow w2.heap.size 196 3 v' (aA (iz (s.take (k+1)) (zs.take (k+1)))) (gW (iz (s.take (k+1)) (zs.take (k+1))))):=η (by rw [cG.o,a2x,cN,uT];exact hown1);have ar:=η ((HB.o.alloc hsz _).grown dK (by simp;omega) (λj hj=>eU HO.o j hj));go_wp2
     go_roundw
     ·exact⟨k+1,by omega,by go_num,dY,ar⟩
     simp [ag];omega
    rw [ifN hp,List.append_nil] at cG;have jq:=HO.o;rw [<-cG.o] at jq;have cF:=η jq;go_wp2
    go_roundw
    ·exact⟨k+1,by omega,by go_num,cF,HB⟩
    simp [ag];omega
   obtain rfl:k=aA zs:=by omega
   have hO:=HO.o;rw [aFD s zs (by omega)] at hO;obtain⟨A3,c3,rfl⟩:=bL hO;have cD:=η (iD hO Ij);go_wp2
   go_ret;exact⟨A3,c3,by rw [HG.o];rfl,by rw [HG.o];exact cD.o,cC.o⟩
theorem aKN(ty:bZ)(v x:aN)(w:aJ):(Sx #[189,257] ty #[v,x]).run aM w=(Sx #[189,189] ty #[v,x]).run aM w:=by obtain⟨i0,bu,_,_,_⟩:=dP QC;cases v<;>simp [Sx,run_underlying a1Q,run_underlying underlying257,Go.sizeOf,typeInfo,bu]
theorem aFI(L:List Dw):∀u∈gW L,u.oneCell'=aO:=by intro u hu;obtain⟨x,_,hx⟩:=List.mem_flatMap.1 hu;exact VX x u hx
theorem aFH(L:List Dw):aA (gW L)=aA L*3:=by
 unfold gW;induction L with
 |nil=>rfl
 |cons x L ih=>rw [xB,cN,ih,uS];simp [Dw.cells];omega
theorem aLw {w:aJ} {ops:Array Oper} {rest:List Oper} {o:Oper} {a:Act} {Q:Exit->Act->aJ->Prop}(hgd:o.guard=aB)(s x:Operand)
 (ho:o.op= .call {callee:= .builtin .append,args:= #[s,x],argTypes:= #[189,257]}) (base:Nat)
 (v:aN) (n:Nat) (xs:List aN) (hs:a.eval s=v) (hown:w.ownsRow base 196 3 v n xs)
 (lo:Nat) (xv:aN) (L:List Dw) (hx:a.eval x=xv) (hz:w.ownsRow lo 196 3 xv (aA L) (gW L)) (hlen:n+aA L<=1000000) (hbase:base<=w.heap.size)
 (h:∀v' w',w'.ownsRow base 196 3 v' (n+aA L) (xs++gW L)->w.grownBy w' v.ownBlock->wpList aM ops Q rest (a.put o.dst v') w'):wpList aM ops Q (o::rest) a w:=by
 obtain⟨i0,bu,hz0,hz1,hz2⟩:=dP QC;refine wpList_plain hgd λK hK=> ?_
 have hrun:∃v' w',(Sx #[189,189] o.type #[v,xv]).run aM w= .ok v' w'/\w'.ownsRow base 196 3 v' (n+aA L) (xs++gW L)/\w.grownBy w' v.ownBlock:=by
  rcases hz.2 with⟨rfl,h0⟩|⟨g,cap,cur,rfl,_⟩
  ·obtain rfl:L= []:=nU h0;exact⟨v,w,run_append_owned_none (P:=aM) (w:=w) base 189 o.type 196 i0 3 a1Q bu v n xs hown,by simpa [gW] using hown,⟨rfl,rfl,rfl,aZ _,λ_ _ _=>rfl⟩⟩
  obtain⟨v',w',h1,h2,h3,_⟩:=run_append_own (P:=aM) w base 189 o.type 196 i0 _ 3 24 a1Q bu hz0 hz1 hz2 rfl (by decide) v n xs hown ⟨g,0,aB⟩ (aA L) cap (gW L) (aFH L) (λj u hu=>by
   have Kg:=aW.cB hz;obtain⟨b,o',e,_,hc⟩:=Kg j u hu;have e:=pH e;injection e with e1 e2;subst e1 e2;have ea:(⟨g,0,aB⟩:ai).add j=⟨g,0+j,aB⟩:=by unfold Addr.add;split<;>simp_all
   rw [ea];exact hc) (aFI L) (by simp only [bO];omega) (by omega) hbase
  exact⟨v',w',h1,h2,h3⟩
 obtain⟨v',w',hr,Ka,Di⟩:=hrun;rw [<-aKN] at hr;unfold Oper.wp;simp [execOp,ho,resolve,invoke,builtin,hs,hx,hr,uU];exact hK _ _ (h v' w' Ka Di)
theorem Xq {w:aJ} {base:Nat} {e:bZ} {size n:Nat} {v:aN} {xs:List aN}(h:w.ownsRow base e size v n xs) {p:ai}(hp:v.ownBlock≠aC p.block)(u:aN):(w.setCell p u).ownsRow base e size v n xs:=
 h.kept ⟨rfl,rfl,rfl,by simp [Em],λi _ hi=>nR _ _ _ _ (λe=>hi (by rw [e]))⟩ (Or.inr hp)
theorem a6T {w:aJ} {base:Nat} {e:bZ} {size n:Nat} {v:aN} {xs:List aN}(h:w.ownsRow base e size v n xs):∀(j:Nat) (o:Obj),v.ownBlock=aC j->w.heap[j]? =aC o->o.isCells=aO:=by
 intro j o hj ho;rcases h.2 with⟨rfl,_⟩|⟨g,cap,cur,rfl,_,hh,_⟩
 ·cases hj
 have e2:g=j:=by simpa [eF] using hj
 subst e2;rw [hh] at ho;cases ho;rfl
structure Gs(lo:Nat)(W:aJ)(bn bl:Nat)(nd:Int)(u:aN)(L:List Dw):Prop where
 cn:W.cell? ⟨bn,0,aB⟩=aC (ν nd)
 fn:W.frozen? ⟨bn,0,aB⟩=aP
 cl:W.cell? ⟨bl,0,aB⟩=aC u
 fl:W.frozen? ⟨bl,0,aB⟩=aP
 own:W.ownsRow lo 196 3 u (aA L) (gW L)
 ne:bn≠bl
 ln:bn<lo
 ll:bl<lo
 sz:lo<=W.heap.size
structure UL(bn bl:Nat)(u:aN)(W W':aJ):Prop where
 size:W.heap.size<=W'.heap.size
 keep:∀k,k<W.heap.size->k≠bn->k≠bl->aC k≠u.ownBlock->W'.heap[k]? =W.heap[k]?
 oth:KeepsOthers W W'
 os:W'.os=W.os
 tape:W'.tape=W.tape
 output:W'.output=W.output
def yv(st:Int×List Dw)(y:List Dw):Int×List Dw:=(aF.wrap (st.1-sU (nE y st.1)),st.2++nE y st.1)
theorem aFy {s:List Dw} {need:Int}(h:∀x∈s,aL x.n):∀x∈nE s need,aL x.n:=by intro x hx;unfold nE iz at hx;have hx:=(jG.1 hx).1;obtain⟨i,hi,rfl⟩:=List.getElem_of_mem hx;rw [List.getElem_zipWith];refine aCe (T:=need) (l:=fj s) (λz hz=> ?_) _ (cK (by rw [Ei] at hi;omega));obtain⟨y,hy,rfl⟩:=di.1 hz;exact h y hy
theorem a3c(s:List Dw)(need:Int):aA (nE s need)<=aA s:=by unfold nE iz;refine bz (qo _ _) ?_;rw [Ei];omega
theorem aJV(lo bn bl:Nat)(nd:Int)(u:aN)(L s:List Dw)(A:Option ai)(c:Nat)(W:aJ)(h:Gs lo W bn bl nd u L)(hs:aW W W.heap.size A (gW s))(hI:∀x∈s,aL x.n)(hl:aA s<=1000)(hN:aL nd)(hL:aA L<=100000):
 aQ aM 184 #[aH A (aA s) c,π bn,π bl] W λe W'=>(∃v,e=aT v)/\∃u',Gs lo W' bn bl (yv (nd,L) s).1 u' (yv (nd,L) s).2/\UL bn bl u W W':=by
 have HG:Hid (aQ aM 185 #[aH A (aA s) c,ν nd] W (ZA (nE s nd) W)):=η (aFz s nd A c W hs hI hN hl);have HP:=η h;have Cc:=η (aFy (need:=nd) hI);have jr:=a3c s nd;have Ll:Hid (yv (nd,L) s=(aF.wrap (nd-sU (nE s nd)),L++nE s nd)):=η rfl;have cn:=h.cn;have N8:bn<W.heap.size:=cL h.ln h.sz;have hlW:bl<W.heap.size:=cL h.ll h.sz;clear h hs hI;rw [Ll.o];generalize nE s nd=G at*;obtain⟨tg,XA⟩:∃t,t=sU G:=⟨_,rfl⟩;rw [<-XA];have HTG:=η XA;clear XA;go_enter func184,ntmps184
 go_wp2_with fail
 refine HG.o.mono ?_;rintro e w1 ⟨A1,c1,rfl,eT,hb1⟩;have cF:=η eT;have aR:=η hb1;have hz1:=hb1.size;have cn1:=(hb1.cell (p:=⟨bn,0,aB⟩) N8).trans cn;have fn1:=(hb1.frozen (p:=⟨bn,0,aB⟩) N8).trans HP.o.fn;clear hb1 eT cn;have UC:Hid (∀W2,β w1 W2->aQ aM 186 #[aH A1 (aA G) c1] W2 λe w'=>e=aT (ν tg)/\β W2 w'):=η λW2 hW2=>by rw [HTG.o];exact a8N G A1 c1 W2 (((aW.cB cF.o).below hW2).mono hW2.size) Cc.o (by omega)
 have kM:bn<w1.heap.size:=by omega
 go_wp2_with fail
 go_region_with (go_at_call 186;refine(UC.o _ (by first|exact aX _ _|exact(aX _ _).drew|exact(aX _ _).drew.drew)).mono ?_;rintro e w2 ⟨rfl,dZ⟩;have hcw:=(dZ.cell (p:=⟨bn,0,aB⟩) kM).trans cn1;have hfw:=(dZ.frozen (p:=⟨bn,0,aB⟩) kM).trans fn1)
 all_goals
  have hb2:β w1 w2:=((aX _ _).drew).trans dZ;have hz2:=hb2.size;have Il:∀g,g<lo->u.ownBlock≠aC g:=λg hg e=>by have:=(HP.o.own.lt g e).1;omega
  have XC:=HP.o.ln;have a4j:=HP.o.ll;have hgb:(aH A1 (aA G) c1).ownBlock≠aC bn:=λe=>by have:=(cF.o.lt bn e).1;omega
  have hne:=HP.o.ne;have np:=HP.o.sz;have qF:Hid (w2.ownsRow lo 196 3 u (aA L) (gW L)):=η (Nu (Nu HP.o.own aR.o) hb2);have Jn:Hid ((w2.setCell ⟨bn,0,aB⟩ (ν (aF.wrap (nd-tg)))).ownsRow lo 196 3 u (aA L) (gW L)):=η (Xq qF.o (Il bn XC) _);have B9:Hid ((w2.setCell ⟨bn,0,aB⟩ (ν (aF.wrap (nd-tg)))).ownsRow W.heap.size 196 3 (aH A1 (aA G) c1) (aA G) (gW G)):=η (Xq (Nu cF.o hb2) hgb _);have cl5:(w2.setCell ⟨bn,0,aB⟩ (ν (aF.wrap (nd-tg)))).cell? ⟨bl,0,aB⟩=aC u:=(gu (a:=⟨bl,0,aB⟩) (nR _ _ _ _ (by simp only [ne_eq];omega))).trans ((hb2.cell (p:=⟨bl,0,aB⟩) (by show bl<w1.heap.size;omega)).trans ((aR.o.cell (p:=⟨bl,0,aB⟩) hlW).trans HP.o.cl));have fl5:(w2.setCell ⟨bn,0,aB⟩ (ν (aF.wrap (nd-tg)))).frozen? ⟨bl,0,aB⟩=aP:=(MM (a:=⟨bl,0,aB⟩) (nR _ _ _ _ (by simp only [ne_eq];omega))).trans ((hb2.frozen (p:=⟨bl,0,aB⟩) (by show bl<w1.heap.size;omega)).trans ((aR.o.frozen (p:=⟨bl,0,aB⟩) hlW).trans HP.o.fl));have cn5:(w2.setCell ⟨bn,0,aB⟩ (ν (aF.wrap (nd-tg)))).cell? ⟨bn,0,aB⟩=aC (ν (aF.wrap (nd-tg))):=a1X _ _ _ (by rw [hcw];rfl);have fn5:(w2.setCell ⟨bn,0,aB⟩ (ν (aF.wrap (nd-tg)))).frozen? ⟨bn,0,aB⟩=aP:=by rw [a1Z];exact hfw
  have hs5:W.heap.size<=(w2.setCell ⟨bn,0,aB⟩ (ν (aF.wrap (nd-tg)))).heap.size:=by simp [Em];omega
  have ER:Hid (UL bn bl u W (w2.setCell ⟨bn,0,aB⟩ (ν (aF.wrap (nd-tg))))):=η (by
   have j6:=aR.o.trans (hb2.mono hz1);refine⟨hs5,λk hk h1 _ _=>(nR _ _ _ _ (by simp only [ne_eq];omega)).trans (j6.block k hk),(a5H j6).trans (a0G _ _ _), ?_, ?_, ?_⟩
   ·exact j6.os
   ·exact j6.tape
   exact j6.output)
  clear dZ hcw hfw hb2;generalize w2.setCell ⟨bn,0,aB⟩ (ν (aF.wrap (nd-tg)))=w5 at*;go_wp2_with (at_builtin;refine aLw rfl _ _ rfl lo u (aA L) (gW L) rfl Jn.o W.heap.size _ G rfl B9.o (by omega) (by omega) ?_)
  intro v' w6 sB xV;obtain⟨A7,c7,rfl⟩:=bL sB;have Ia:bn<w5.heap.size:=by omega
  have hl5:bl<w5.heap.size:=by omega
  have VZ:=xV.block bn Ia (λe=>Il bn XC e.symm);have VY:=xV.block bl hl5 (λe=>Il bl a4j e.symm);have cl6:w6.cell? ⟨bl,0,aB⟩=aC u:=(gu (a:=⟨bl,0,aB⟩) VY).trans cl5;have fl6:w6.frozen? ⟨bl,0,aB⟩=aP:=(MM (a:=⟨bl,0,aB⟩) VY).trans fl5;have cn6:=(gu (a:=⟨bn,0,aB⟩) VZ).trans cn5;have fn6:=(MM (a:=⟨bn,0,aB⟩) VZ).trans fn5;have HF:Hid (Gs lo (w6.setCell ⟨bl,0,aB⟩ (aH A7 (aA L+aA G) c7)) bn bl (aF.wrap (nd-tg)) (aH A7 (aA L+aA G) c7) (L++G)/\UL bn bl u W (w6.setCell ⟨bl,0,aB⟩ (aH A7 (aA L+aA G) c7))):=η (by
   have hvb:(aH A7 (aA L+aA G) c7).ownBlock≠aC bl:=λe=>by have:=(sB.lt bl e).1;omega
   have e7n:(w6.setCell ⟨bl,0,aB⟩ (aH A7 (aA L+aA G) c7)).heap[bn]? =w6.heap[bn]? :=nR _ _ _ _ (by simp only [ne_eq];omega);refine⟨⟨(gu (a:=⟨bn,0,aB⟩) e7n).trans cn6,(MM (a:=⟨bn,0,aB⟩) e7n).trans fn6,a1X _ _ _ (by rw [cl6];rfl),by rw [a1Z];exact fl6, ?_,hne,XC,a4j, ?_⟩,⟨?_,λk hk h1 h2 h3=> ?_, ?_, ?_, ?_, ?_⟩⟩
   ·rw [cN,show gW (L++G)=gW L++gW G by simp [gW]];exact Xq sB hvb _
   ·have:=xV.size;simp [Em];omega
   ·have:=xV.size;simp [Em];omega
   ·exact(nR _ _ _ _ (by simp only [ne_eq];omega)).trans ((xV.block k (by have:=ER.o.size;omega) h3).trans (ER.o.keep k hk h1 h2 h3))
   ·exact(ER.o.oth.trans (KeepsOthers.of_grownBy xV (a6T Jn.o))).trans (a0G _ _ _)
   ·exact xV.os.trans ER.o.os
   ·exact xV.tape.trans ER.o.tape
   exact xV.output.trans ER.o.output)
  clear sB xV VZ VY;go_wp2_with fail
  go_end0
  exact⟨⟨_,rfl⟩,_,HF.o⟩
section
open Go.Shelf
attribute [local go_sem] Oper.semAt_some
def tj(need:Int)(ys:List (List Dw)):Int×List Dw:=ys.foldl yv (need,[])
theorem a6a(need:Int)(ys:List (List Dw))(y:List Dw):tj need (ys++ [y])=yv (tj need ys) y:=by unfold tj;rw [List.foldl_append];rfl
theorem aLz(n:Int):aL (aF.wrap n):=by rw [fh];unfold aL;omega
theorem aJR {need:Int}(h:aL need)(ys:List (List Dw)):aL (tj need ys).1:=by
 rcases PF ys with rfl|⟨zs,y,rfl⟩
 ·exact h
 rw [PE,a6a];exact aLz _
theorem a6b(ys:List (List Dw)):∀st:Int×List Dw,(ys.foldl yv st).2.length<=aA st.2+(ys.map List.length).sum:=by
 induction ys with
 |nil=>intro st;simp
 |cons y ys ih=>
  intro st;rw [D3,yS,Ej];have h1:=ih (yv st y);have h2:(yv st y).2.length<=aA st.2+aA y:=by unfold yv;rw [cN];have:=a3c y st.1;omega
  omega
theorem aLC {α:Type}(f:α->List Dw)(l:List α)(h:∀a,aA (f a)=1):(l.map λa=>aA (f a)).sum=aA l:=by
 induction l with
 |nil=>rfl
 |cons a l ih=>rw [yS,Ej,ih,h,uS];omega
theorem a7l(p:cA)(os:List Int):((fU p os).map List.length).sum<=aA os+aA os+aA p.fu+2:=by unfold fU;rw [dh,dh,D6,D6,M5,M5];have h1:=aLC (λm=> [(⟨8,m,cV p.co m⟩:Dw)]) os (λ_=>rfl);have h3:=Kz p.fu os (aA p.fu);simp only [Function.comp_def,yS,List.map_nil,Ej,List.sum_nil,uS,Eh] at*;unfold wG;omega
theorem aJS {p:cA} {os:List Int} {pre:List (List Dw)} {y:List Dw}(need:Int)(h:(pre++ [y])<+:fU p os):(tj need pre).2.length<=aA os+aA os+aA p.fu+2:=by have h1:=a6b pre (need,[]);have h2:=a7l p os;obtain⟨t,ht⟩:=h;rw [<-ht,dh,dh,D6,D6] at h2;unfold tj;simp only [Eh,Nat.zero_add] at h1;omega
def sS(p:cA)(os:List Int)(need:Int):Int:=if gJ p os≠0 then gJ p os else if need<0 then 1 else 0
def oU(p:cA)(os:List Int)(need:Int):List Dw:=if sS p os need=0 then (tj need (fU p os)).2 else []
def a9C(l:List Dw)(err:Int)(w:aJ)(e:dX)(w':aJ):Prop:=∃A c,e=aT (bC #[aH A (aA l) c,aG aF err])/\w'.ownsRow w.heap.size 196 3 (aH A (aA l) c) (aA l) (gW l)/\aa w.heap.size w w'
theorem Gs.grown {lo B:Nat} {W W':aJ} {bn bl:Nat} {nd:Int} {u:aN} {L:List Dw} {row:Option Nat}(h:Gs lo W bn bl nd u L)(hg:W.grownBy W' row)(hr:∀r,row=aC r->B<=r/\∃o:Obj,W.heap[r]? =aC o/\o.isCells=aP):Gs lo W' bn bl nd u L:=by
 have FY:∀r,row=aC r->∃o:Obj,W.heap[r]? =aC o/\o.isCells=aP:=λr e=>(hr r e).2
 refine⟨cell_kept h.cn hg FY,(frozen_kept h.cn hg FY).trans h.fn,cell_kept h.cl hg FY,(frozen_kept h.cl hg FY).trans h.fl,h.own.kept hg ?_,h.ne,h.ln,h.ll,bz h.sz hg.size⟩;cases hu:u.ownBlock with
 |none=>exact .inl rfl
 |some g=>
  refine .inr λe=> ?_
  obtain⟨o,ho,hc⟩:=FY g e.symm;rw [a6T h.own g o hu ho] at hc;cases hc
theorem aJX(p:cA)(os:List Int)(need:Int)(A:Option ai)(c:Nat)(w:aJ)(h:D7 w p)(hc:aA p.co<=bO)(hs:aW w w.heap.size A (os.map (aG aF)))(hl:aA os<=1000)(hI:∀x∈os,aL x)(hN:aL need):
 aQ aM 127 #[p.val,aH A (aA os) c,ν need] w (a9C (oU p os need) (sS p os need) w):=by
 have aY:Hid (β w ((w.alloc (aK #[aH p.Ac (aA p.co) p.cc,aH p.Af (aA p.fu) p.cf,ν p.line,ν p.cap] 193)).alloc (aK #[ν need] 2))):=η (σ.alloc (by simp) _);have HM:Hid (∀W,β w W->aQ aM 183 #[p.val,aH A (aA os) c] W λe w'=>e=aT (ν (gJ p os))/\β W w'):=η λW hW=>a5h p os A c W (h.below hW) hc ((hs.below hW).mono hW.size) (by omega) hI
 have EY:=η (a6e p os A c w.heap.size w h hs rfl);have rU:Hid (∀W,aQ aM 187 #[p.val,aH A (aA os) c] W λe w'=>e=aT (.func (.func 221) #[] #[π (W.heap.size+1),π W.heap.size])/\(W.alloc (aK #[aH p.Ac (aA p.co) p.cc,aH p.Af (aA p.fu) p.cf,ν p.line,ν p.cap] 193)).alloc (aK #[aH A (aA os) c] 46)=w'):=η λW=>a7f p A (aA os) c W
 have HE:Hid (sS p os need=if gJ p os≠0 then gJ p os else if need<0 then 1 else 0):=η rfl;have HL:Hid (oU p os need=if sS p os need=0 then (tj need (fU p os)).2 else []):=η rfl;have Tm:=η (λh=>AW (p:=p) (os:=os) h);have HN:=η hN;generalize oU p os need=pl at*;generalize sS p os need=pe at*;unfold cA.val at*;by_cases h0:gJ p os=0
 ·rw [ifN (by omega)] at HE;have F:=Tm.o h0;rw [h0] at HM;have HF:=η F;by_cases hn:need<0
  ·rw [ifP hn] at HE;rw [HE.o,ifN (by decide)] at HL;rw [HE.o,HL.o];go_enter a0a,a0u
   go_wp2_with fail
   refine(HM.o _ aY.o).mono ?_;rintro e w1 ⟨rfl,hb1⟩;have aR:Hid (β w w1):=τ aY hb1;have qn:w1.cell? ⟨w.heap.size+1,0,aB⟩=aC (ν need):=(hb1.cell (p:=⟨w.heap.size+1,0,aB⟩) (by simp)).trans (by rw [cM _ _ _ _ (by simp)];rfl);go_wp2_with fail
   go_ret2;exact⟨aB,0,rfl,gG _ _ _ _,aR.o⟩
  rw [ifN hn] at HE;rw [HE.o,ifP rfl] at HL;rw [HE.o];refine(tH (n:=9)).1 ?_;refine callsIn_of_wp_marks a0a rfl trivial ?_ rfl;simp only [a0u,List.size_toArray,uS,Eh,Nat.reduceAdd,Nat.reduceSub,Array.replicate_succ,Array.replicate_zero,List.push_toArray,List.append_toArray,Gi,List.cons_append]
  gi_wp2
  refine⟨trivial, ?_⟩;refine(tH.2 (HM.o _ aY.o)).mono ?_;rintro e w1 ⟨rfl,hb1⟩;have aR:Hid (β w w1):=τ aY hb1;have q0:w1.cell? ⟨w.heap.size,0,aB⟩=aC (aH p.Ac (aA p.co) p.cc):=(hb1.cell (p:=⟨w.heap.size,0,aB⟩) (by simp;omega)).trans (by rw [BU _ _ _ (by simp),cM _ _ _ _ rfl];rfl);have q1:w1.cell? ⟨w.heap.size,1,aB⟩=aC (aH p.Af (aA p.fu) p.cf):=(hb1.cell (p:=⟨w.heap.size,1,aB⟩) (by simp;omega)).trans (by rw [BU _ _ _ (by simp),cM _ _ _ _ rfl];rfl);have q2:w1.cell? ⟨w.heap.size,2,aB⟩=aC (ν p.line):=(hb1.cell (p:=⟨w.heap.size,2,aB⟩) (by simp;omega)).trans (by rw [BU _ _ _ (by simp),cM _ _ _ _ rfl];rfl);have q3:w1.cell? ⟨w.heap.size,3,aB⟩=aC (ν p.cap):=(hb1.cell (p:=⟨w.heap.size,3,aB⟩) (by simp;omega)).trans (by rw [BU _ _ _ (by simp),cM _ _ _ _ rfl];rfl);have qn:w1.cell? ⟨w.heap.size+1,0,aB⟩=aC (ν need):=(hb1.cell (p:=⟨w.heap.size+1,0,aB⟩) (by simp)).trans (by rw [cM _ _ _ _ (by simp)];rfl);have qf:w1.frozen? ⟨w.heap.size+1,0,aB⟩=aP:=(hb1.frozen (p:=⟨w.heap.size+1,0,aB⟩) (by simp)).trans (by rw [a1Y _ _ _ _ (by simp)]);have FO:w.heap.size+1<w1.heap.size:=by have:=hb1.size;simp at this;omega
  have aMx:w.heap.size<w1.heap.size:=by omega
  gi_wp2
  refine⟨trivial, ?_⟩;refine(tH.2 (rU.o _)).mono ?_;rintro e w3 ⟨rfl,hw3⟩;have Du:((w1.alloc (aK #[aH aB 0 0] 189)).alloc (aK #[.func (.func 184) #[] #[π (w.heap.size+1),π w1.heap.size]] 260)).heap.size=w1.heap.size+2:=by simp
  have fF:Hid (β w1 ((w1.alloc (aK #[aH aB 0 0] 189)).alloc (aK #[.func (.func 184) #[] #[π (w.heap.size+1),π w1.heap.size]] 260))):=η (σ.alloc (by simp) _);have zM:=EY.o _ (ig.bY (aR.o.trans (fF.o.mono (by omega))));rw [hw3,Du] at zM;have aH1:w3.heap.size=w1.heap.size+4:=by rw [<-hw3];simp
  have TH:Hid (β w1 w3):=η (by rw [<-hw3];exact(fF.o.alloc (by simp;omega) _).alloc (by simp;omega) _);have af:Hid (β w w3):=η (aR.o.trans (TH.o.mono (by omega)));have cn3:=(TH.o.cell (p:=⟨w.heap.size+1,0,aB⟩) FO).trans qn;have fn3:=(TH.o.frozen (p:=⟨w.heap.size+1,0,aB⟩) FO).trans qf;have cl3:w3.cell? ⟨w1.heap.size,0,aB⟩=aC (aH aB 0 0):=by rw [<-hw3,qp _ _ _ (by simp;try omega),qp _ _ _ (by simp;try omega),qp _ _ _ (by simp),cM _ _ _ _ rfl];rfl
  have fl3:w3.frozen? ⟨w1.heap.size,0,aB⟩=aP:=by rw [<-hw3,Ph _ _ _ (by simp;omega),Ph _ _ _ (by simp;try omega),Ph _ _ _ (by simp),a1Y _ _ _ _ rfl]
  have cf3:w3.cell? ⟨w1.heap.size+1,0,aB⟩=aC (.func (.func 184) #[] #[π (w.heap.size+1),π w1.heap.size]):=by rw [<-hw3,qp _ _ _ (by simp;try omega),qp _ _ _ (by simp;try omega),cM _ _ _ _ (by simp)];rfl
  rw [Du]
  gi_wp2
  refine a8c (β:=List Dw) rfl (by omega) (gf:=221) (lb:= #[bD (aC ⟨w1.heap.size+2+1,0,aB⟩),π (w1.heap.size+2)]) rfl trivial (enters_of func221 (by kernel_rfl) rfl)
   (a7g 8 w.heap.size (w1.heap.size+2+1) (w1.heap.size+2) (by omega) p os A c w3 zM HF.o.os1 HF.o.len (by have:=HF.o.big;omega) hl HF.o.i64.1 HF.o.i64.2.1 HF.o.i64.2.2.1 HF.o.i64.2.2.2)
   a5L (a5K (by omega) (by omega) (by omega)) (aX _ _) a4O
   (λpre W=>((∃u,Gs (w1.heap.size+4) W (w.heap.size+1) w1.heap.size (tj need pre).1 u (tj need pre).2)/\W.cell? ⟨w1.heap.size+1,0,aB⟩=aC (.func (.func 184) #[] #[π (w.heap.size+1),π w1.heap.size]))/\β w W)
   (OwnFrom.and (λs W W' row hs hg hr=>⟨hs.1.imp λu hu=>hu.grown hg hr,cell_kept hs.2 hg (λr e=>(hr r e).2)⟩) (ownFrom_below (aZ _) (by omega)))
   ⟨⟨⟨_,cn3,fn3,cl3,fl3,gG _ _ _ _,by omega,by omega,by omega,by omega⟩,cf3⟩,af.o⟩ ?a1 ?assign ?body ?done
  case assign=>
   intro l v W K hK
   gi_wp2
   exact hK
  case body=>
   rintro l pre y v W ⟨⟨⟨u,hp⟩,nj⟩,ez⟩ ⟨Ay,cy,rfl,NN,Vs,hly⟩ X2;have hlen:=aJS need X2;have l7:=HF.o.big;have gZ:=HF.o.len;have eR:=η (aJV (w1.heap.size+4) (w.heap.size+1) w1.heap.size (tj need pre).1 u (tj need pre).2 y Ay cy W hp NN Vs hly (aJR HN.o pre) (by omega));have cG:=η (a6a need pre y);have Cm:=η hp;have hfW:w1.heap.size+1<W.heap.size:=by have:=hp.sz;omega
   gi_wp2
   refine⟨trivial, ?_⟩;refine(CallsIn.inRound l (tH.2 eR.o)).mono ?_;rintro e W' ⟨⟨v9,rfl⟩,u',nw,mC⟩
   gi_wp2
   have Il:∀g,g<w1.heap.size+4->aC g≠u.ownBlock:=λg hg e=>by have:=(Cm.o.own.lt g e.symm).1;omega
   refine⟨mC.oth,⟨mC.size,λk hk eK=>mC.keep k eK (by omega) (by omega) (Il k (by omega))⟩,⟨⟨u',by rw [cG.o];exact nw⟩,(gu (a:=⟨w1.heap.size+1,0,aB⟩) (mC.keep (w1.heap.size+1) hfW (by omega) (by omega) (Il _ (by omega)))).trans nj⟩, ?_⟩;exact⟨mC.os.trans ez.os,mC.tape.trans ez.tape,mC.output.trans ez.output,bz ez.size mC.size,λk hk=>(mC.keep k (cL hk ez.size) (by omega) (by omega) (Il k (by omega))).trans (ez.block k hk)⟩
  case done=>
   rintro D W hD ⟨⟨⟨u,hp⟩,nj⟩,ez⟩ hK;obtain⟨A9,c9,rfl⟩:=bL hp.own;have Cm:=η hp;have cl9:=hp.cl
   gi_wp2
   refine⟨by simp,.inl ⟨_,_,rfl,run_takeDeferred hK, ?_⟩⟩;have hgr:=Cm.o.grown (B:=w3.heap.size) (grownBy_putObj' W D (.deferred aB)) (λr e=>by cases e;exact⟨hD,_,hK,rfl⟩);exact⟨_,results_tmp2 rfl _ _ _,A9,c9,by rw [HL.o];rfl,by rw [HL.o];exact iD hgr.own (by have:=aR.o.size;omega),ez.trans (belowK_b (w:=w) (aZ _) W D _ _ (by omega) hK rfl rfl)⟩
 have Ie:pe=gJ p os:=by rw [HE.o,ifP h0]
 subst Ie;rw [ifN h0] at HL;have hen:(gJ p os !=0)=aO:=by simpa [bne] using h0
 rw [HL.o];generalize gJ p os=me at*;go_enter a0a,a0u
 go_wp2_with fail
 refine(HM.o _ aY.o).mono ?_;rintro e w1 ⟨rfl,hb1⟩;have aR:Hid (β w w1):=τ aY hb1;go_wp2_with fail
 go_ret2;exact⟨aB,0,rfl,gG _ _ _ _,aR.o⟩
end
end Go.Proofs.YtdokipdchlcmeaaGreat
