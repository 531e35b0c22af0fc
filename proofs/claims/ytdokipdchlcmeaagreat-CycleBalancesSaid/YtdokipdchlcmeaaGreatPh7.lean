/-
  Several texts in one, for one claim (printed by pack.py).
-/
import Derived.Test.YtdokipdchlcmeaaGreatPh6
import Derived.RangeFuncNested
import Derived.RangeFuncBound
import Derived.RangeFuncCalls
import Derived.RangeFuncLeaves
import Derived.RangeFuncFrom
import Derived.Shelf.Abstract
import Derived.Shelf.RegionOpen
import Derived.OwnWalkIn
import Derived.TacticsInMore
import Derived.LoopNIn
import Derived.LoopIn
import Derived.TacticsIn
import Derived.RegionIn
set_option linter.all false
set_option maxRecDepth 100000
set_option maxHeartbeats 12800000
open And renaming intro→kX
open Array renaming getElem?_eq_some_iff→fX,getElem?_eq_none→Iy
open Bool renaming true→aO,false→aP,and_eq_true→je,and_false→Iz,not_eq_true'→Sa,false_eq_true→Yk
open Go renaming World→aJ,Value→aN,Calls→aQ,Addr→aj,maxLen→bM,TypeId→bY,heap_alloc_new→cO,info_parts→dJ,Ending→dU,rounds_succ→eB,wpList_append_own→iZ,callsIn_wide→tF,wp_loop_rounds→um,grownCap→xM
open Go.Builtin renaming zeroCells→EA,append_→Sb
open Go.Ending renaming returned→aT
open Go.Fence renaming wide→Ko
open Go.IntKind renaming i64→aF,wrap_i64→fg
open Go.IntWalk renaming i64_in→sj
open Go.KeepsOthers renaming setCell→a0D
open Go.Obj renaming cells→aK
open Go.Proofs renaming intOf→af
open Go.Proofs.Tryz renaming prog→aM,underlying53→mP,func127→a0X,func220→a0e,ntmps127→a0r,ntmps220→a0y,underlying189→a1N,func119→aAZ,func132→aAd,func27→aAw,func35→aB3,func59→aB6,ntmps119→aBM,ntmps132→aBQ,ntmps27→aBj,ntmps35→aBo,ntmps59→aBs
open Go.Result renaming andThen→uN
open Go.RowKit renaming Below→aY
open Go.RowKit.Below renaming refl→aX,size→gV,trans→jy,heap_setCell→nK
open Go.Value renaming int→aG,slice→aH,tuple→bB,pointer→bF,bool→bJ,agg→bQ,ownBlock→dy
open Go.World renaming ownsRow_nil→fh,cell?_of_block→gu,ownsRow→kB,cell?_alloc_lt→qh,size_alloc→DB,setCell→Ee,grownBy_alloc→Gm,frozen?_of_block→Lx,frozen?_alloc_past→PQ,putObj_heap_other→PR,cell?_setCell_same'→a1U,frozen?_alloc_at→a1V,frozen?_setCell→a1W,putObj→aCK,putObj_heap_same→aCL
open Int renaming le_refl→dM
open List renaming length→aA,getElem_mem→cH,length_append→cN,take_length→cT,range→dR,map_append→dZ,mem_map→df,mem_cons→fE,take_succ_eq_append_getElem→fF,getElem?_eq_getElem→iE,length_map→iV,mem_filter→jD,any_eq_true→kA,zipWith→kR,eq_nil_of_length_eq_zero→nO,mem_range→nP,take_zero→nQ,length_filter_le→qg,getD_eq_getElem?_getD→tA,length_cons→uL,length_singleton→uM,length_take→vD,flatMap_cons→wZ,map_cons→yM,foldl_cons→Cr,sum_append→Ct,length_nil→EY,length_zipWith→EZ,sum_cons→Ea,zipWith_cons_cons→Eb,nil_append→GQ,all_eq_false→Jc,drop_eq_getElem_cons→Jd,getElem?_eq_none→Ld,map_map→Le,concat_eq_append→P0,eq_nil_or_concat→P1,prefix_append→a0I,flatMap_singleton→a9t,map_singleton→a9y
open Nat renaming le_refl→aa,zero_le→bK,le_trans→bz,lt_of_lt_of_le→cP,lt_or_ge→rW
open Option renaming none→aB,some→aC
open Option.some renaming inj→pF
open Or renaming inl→aS
namespace Go.Proofs.YtdokipdchlcmeaaGreat
open Go.Proofs.Tryz Go.RowKit
structure fY(D:Dk):Prop where
 lI:∀y∈D.l,aL y
 hl:aA D.h<=100
 wl:aA D.who<=100
 gl:aA D.log<=90000
 ob:sT D.ob
 bl:aA D.bx<=1000
 st:aL D.st
def bj(D:Dk)(fk fm tk tm a n:Int):List Int:=if lZ (aA D.x.ms) (aA D.x.ss+1) D.l D.h (l9 fk fm tk tm a n)=0 then kH (aA D.x.ms) (aA D.x.ss+1) D.l (l9 fk fm tk tm a n) else D.l
def ug(D:Dk)(fk fm tk tm a n:Int):Int:=lZ (aA D.x.ms) (aA D.x.ss+1) D.l D.h (l9 fk fm tk tm a n)
theorem bW.moved {w w':aJ} {db:Nat} {p:Dp} {D:Dk} {es:List En} {E:dU}(H:bW w db p D)(h:Uh p.vb p.vp (aA D.x.ms) (aA D.x.ss+1) (aA D.x.ms) D.l D.h es w E w'):E=aT (aG aF (lZ (aA D.x.ms) (aA D.x.ss+1) D.l D.h es))/\aq db p {D with l:=if lZ (aA D.x.ms) (aA D.x.ss+1) D.l D.h es=0 then kH (aA D.x.ms) (aA D.x.ss+1) D.l es else D.l} w w':=by
 obtain⟨SS,rfl,hv,hu,hs⟩:=h;refine⟨rfl, {p with vp:=SS},H.a8M (hu.mono (λk hk=> .inl (.inl hk))) hv,rfl,rfl,rfl,rfl,hu.mono (λk hk=> .inl (.inr (.inl (.inl hk)))), ?_⟩;rintro k (e|e|e|e|e|e)
 ·exact .inl (.inl e)
 ·exact(hs k e).imp (λh=> .inr (.inl h)) id
 ·exact .inl (.inr (.inr (.inl e)))
 ·exact .inl (.inr (.inr (.inr (.inl e))))
 ·exact .inl (.inr (.inr (.inr (.inr (.inl e)))))
 exact .inl (.inr (.inr (.inr (.inr (.inr e)))))
theorem Hb(db:Nat)(p:Dp)(D:Dk)(fk fm tk tm a n:Int)(w:aJ)(H:bW w db p D)(hO:fY D)(hf:aL fk/\aL fm)(ht:aL tk/\aL tm)(ha:aL a)(hn:aL n)(ku:0<=n):
 aQ aM 87 #[π p.vb,bQ #[ν fk,ν fm],bQ #[ν tk,ν tm],ν a,ν n] w λe w'=>e=aT (ν (ug D fk fm tk tm a n))/\aq db p {D with l:=bj D fk fm tk tm a n} w w'/\w'.cell? ⟨db,8,aB⟩=aC (π p.vb):=by
 refine(aLc p.vb p.vp (aA D.x.ms) (aA D.x.ss+1) (aA D.x.ms) D.l D.h fk fm tk tm a n w H.vt hf ht ha hn ku hO.lI (by have:=hO.hl;omega)).mono ?_;intro e w' h;obtain⟨h1,h2⟩:=H.moved h;refine⟨h1,h2, ?_⟩;obtain⟨p1,H1,e1,_⟩:=h2;rw [<-e1];exact H1.cells.c8
def E4(D:Dk)(m n:Int):Int:=if nk D m n≠0 then nk D m n else if 0<pS n (1099511627776-balA (aA D.x.ms) (aA D.x.ss+1) D.l 8 m 0) then 2 else 0
def Nt(D:Dk)(m n:Int):Dk:= {D with l:=bj D 7 m 8 m 0 n,log:=D.log++ [⟨17,m,0,n,0⟩]}
def Aa(D:Dk)(m n:Int):Dk:=if E4 D m n=0 then Nt D m n else D
def SN(D:Dk)(m n:Int):Int:=if E4 D m n=0 then balA (aA D.x.ms) (aA D.x.ss+1) (Nt D m n).l 8 m 0 else 0
def CM(db:Nat)(p:Dp)(D':Dk)(v er:Int)(w:aJ)(e:dU)(w':aJ):Prop:=e=aT (bB #[aG aF v,aG aF er])/\aq db p D' w w'
theorem aEn(db:Nat)(p:Dp)(D:Dk)(m n:Int)(w:aJ)(H:bW w db p D)(hO:fY D)(hm:aL m)(hn:aL n)(K8:aL (1099511627776-balA (aA D.x.ms) (aA D.x.ss+1) D.l 8 m 0)):
 aQ aM 36 #[π db,ν m,ν n] w (CM db p (Aa D m n) (SN D m n) (E4 D m n) w):=by
 have HE:Hid (E4 D m n=if nk D m n≠0 then nk D m n else if 0<pS n (1099511627776-balA (aA D.x.ms) (aA D.x.ss+1) D.l 8 m 0) then 2 else 0):=η rfl;have oh:Hid (nk D m n=0->1<=n):=η (by
  intro h;unfold nk at h;split at h
  ·rename_i h1;exact absurd h h1
  split at h
  ·cases h
  split at h
  ·cases h
  omega)
 have HM:=η (a2l db p D m n w H hm (by have:=hO.wl;omega));have HF:=η H;have HO:=η hO;have ew:=η (λW (hW:β w W)=>zm db p D 8 m 0 W (H.below hW) (by decide) hm);have zI:=η (λW=>VA n (1099511627776-balA (aA D.x.ms) (aA D.x.ss+1) D.l 8 m 0) hn K8 W);have hb1:=K8.1;have hb2:=K8.2;generalize nk D m n=me at*;generalize Vq:balA (aA D.x.ms) (aA D.x.ss+1) D.l 8 m 0=bq at*;generalize pS n (1099511627776-bq)=ov at*;go_enter func36,ntmps36
 go_upto_region 2 with (go_at_call 85;refine kW HM.o λw1 aR=> ?_)
 by_cases h1:me=0
 case neg=>
  have hb:(me==0)=aP:=by simpa using h1
  have HT:Hid (E4 D m n=me):=η (by rw [HE.o,ifP h1]);have mK:Hid (me≠0):=η h1;go_wp2
  go_ret2;refine⟨?_, ?_⟩
  ·unfold SN;rw [HT.o,ifN mK.o];rfl
  unfold Aa;rw [HT.o,ifN mK.o];exact aq.bZ HF.o aR.o
 have jJ:=oh.o h1;subst h1;have Z6:=η (λW (hW:β w1 W)=>ew.o W (aR.o.trans (hW.mono aR.o.size)));by_cases h2:0<ov
 ·have HT:Hid (E4 D m n=2):=η (by rw [HE.o,ifN (by simp),ifP h2]);go_wp2_with (first|(go_at_call 47;refine kW (zg m _) λw2 aV=> ?_)|(go_at_call 46;refine κ (Z6.o _ aV.o) aV λw3 ag=> ?_)|(go_at_call 86;refine(zI.o _).mono ?_;rintro e w4 ⟨rfl,hb4⟩;have ar:=η (aR.o.trans ((ag.o.trans (hb4.mono ag.o.size)).mono aR.o.size))))
  go_ret2;refine⟨?_, ?_⟩
  ·unfold SN;rw [HT.o];rfl
  unfold Aa;rw [HT.o];exact aq.bZ HF.o ar.o
 have HT:Hid (E4 D m n=0):=η (by rw [HE.o,ifN (by simp),ifN h2]);go_upto_region 6 with (first|(go_at_call 47;refine kW (zg m _) λw2 aV=> ?_)|(go_at_call 46;refine κ (Z6.o _ aV.o) aV λw3 ag=> ?_)|(go_at_call 86;refine(zI.o _).mono ?_;rintro e w4 ⟨rfl,hb4⟩;have ar:=η (aR.o.trans ((ag.o.trans (hb4.mono ag.o.size)).mono aR.o.size))))
 have lN:=η (HF.o.below ar.o);have lj:=η (λW (hW:β w4 W)=>Hb db p D 7 m 8 m 0 n W (lN.o.below hW) HO.o ⟨by decide,hm⟩ ⟨by decide,hm⟩ (by decide) hn (by omega));have bO:=η (λW (hW:β w4 W)=>(lN.o.below hW).cells.c8);have bP:β w4 w4.drew:=(aX _ _).drew;have hdd:=bO.o _ bP;go_region_held3 (λW=>W.cell? ⟨db,8,aB⟩=aC (π p.vb)) (first|(with_reducible assumption)) (first|(go_at_call 47;refine(zg m _).mono ?_;rintro e w5 ⟨rfl,gF⟩;have qK:β w4 w5:=jy (by with_reducible assumption) (gF.mono (gV (by with_reducible assumption)));have hcc:=bO.o _ qK)|(go_at_call 49;refine(Ej m _).mono ?_;rintro e w6 ⟨rfl,tR⟩;have xN:β w4 w6:=jy (by with_reducible assumption) (tR.mono (gV (by with_reducible assumption)));have qw:=bO.o _ xN)|(go_at_call 87;refine(lj.o _ (by with_reducible assumption)).mono ?_;rintro e w7 ⟨rfl,dF,hcm⟩))
 have gC:Hid (aq db p {D with l:=bj D 7 m 8 m 0 n} w w7):=η (aq.trans (bC.bZ _ (ar.o.trans (Below.mono (by with_reducible assumption) ar.o.size))) (λ_ h=> .inl h) ⟨rfl,rfl,rfl,rfl⟩ dF);obtain⟨p1,H1,e1,e2,e3,e4,dA,hs1⟩:=gC.o;have kY:=η (H1.below ((aX w7.heap.size w7).alloc (aa _) (aK #[ν 17,ν m,ν 0,ν n,ν 0] 45)));have kZ:=η (xK db p1 {D with l:=bj D 7 m 8 m 0 n} [⟨17,m,0,n,0⟩] w7.heap.size 1 _ kY.o (dK w7 45 #[ν 17,ν m,ν 0,ν n,ν 0] rfl) (by simp) (by simp) (by have:=HO.o.gl;simp only;omega));have pd:Hid (∀W,aq db p1 {D with l:=bj D 7 m 8 m 0 n,log:=D.log++ [⟨17,m,0,n,0⟩]} (w7.alloc (aK #[ν 17,ν m,ν 0,ν n,ν 0] 45)) W->aq db p (Nt D m n) w W):=η (λW h=>aq.trans dA hs1 ⟨e1,e2,e3,e4⟩ (aq.trans (bC.bZ _ σ) (λ_ h=> .inl h) ⟨rfl,rfl,rfl,rfl⟩ h));go_wp2_with (first|(go_at_call 55;refine kZ.o.mono ?_;rintro e w8 ⟨rfl,h8⟩;have dw:=η (pd.o _ h8))|(go_at_call 47;refine(zg m _).mono ?_;rintro e w9 ⟨rfl,gM⟩;have rO:=η (dw.o.below gM);obtain⟨p2,h2,_⟩:=rO.o;have H2:=η h2)|(go_at_call 46;refine(zm db p2 (Nt D m n) 8 m 0 _ H2.o (by decide) hm).mono ?_;rintro e tu ⟨rfl,zv⟩;have G8:=η (rO.o.below zv)))
 go_ret2;refine⟨?_, ?_⟩
 ·unfold SN;rw [HT.o];rfl
 unfold Aa;rw [HT.o];exact G8.o
def Fk(D:Dk)(m n:Int):Int:=if nk D m n≠0 then nk D m n else ug D 8 m 7 m 0 n
def Ns(D:Dk)(m n:Int):Dk:= {D with l:=bj D 8 m 7 m 0 n,log:=D.log++ [⟨18,m,0,n,0⟩]}
def AZ(D:Dk)(m n:Int):Dk:=if Fk D m n=0 then Ns D m n else D
def SH(D:Dk)(m n:Int):Int:=if Fk D m n=0 then balA (aA D.x.ms) (aA D.x.ss+1) (Ns D m n).l 8 m 0 else 0
theorem a5d {D:Dk} {m n:Int}(h:nk D m n=0):1<=n:=by
 unfold nk at h;split at h
 ·rename_i h1;exact absurd h h1
 split at h
 ·cases h
 split at h
 ·cases h
 omega
theorem aEm(db:Nat)(p:Dp)(D:Dk)(m n:Int)(w:aJ)(H:bW w db p D)(hO:fY D)(hm:aL m)(hn:aL n):
 aQ aM 37 #[π db,ν m,ν n] w (CM db p (AZ D m n) (SH D m n) (Fk D m n) w):=by
 have HE:Hid (Fk D m n=if nk D m n≠0 then nk D m n else ug D 8 m 7 m 0 n):=η rfl;have oh:Hid (nk D m n=0->1<=n):=η a5d;have HM:=η (a2l db p D m n w H hm (by have:=hO.wl;omega));have HF:=η H;have HO:=η hO;generalize nk D m n=me at*;go_enter func37,ntmps37
 go_upto_region 2 with (go_at_call 85;refine kW HM.o λw4 ar=> ?_)
 by_cases h1:me=0
 case neg=>
  have hb:(me==0)=aP:=by simpa using h1
  have HT:Hid (Fk D m n=me):=η (by rw [HE.o,ifP h1]);have mK:Hid (me≠0):=η h1;go_wp2
  go_ret2;refine⟨?_, ?_⟩
  ·unfold SH;rw [HT.o,ifN mK.o];rfl
  unfold AZ;rw [HT.o,ifN mK.o];exact aq.bZ HF.o ar.o
 have jJ:=oh.o h1;subst h1;have HT:Hid (Fk D m n=ug D 8 m 7 m 0 n):=η (by rw [HE.o,ifN (by simp)]);go_upto_region 4 with (fail)
 have lN:=η (HF.o.below ar.o);have lj:=η (λW (hW:β w4 W)=>Hb db p D 8 m 7 m 0 n W (lN.o.below hW) HO.o ⟨by decide,hm⟩ ⟨by decide,hm⟩ (by decide) hn (by omega));have bO:=η (λW (hW:β w4 W)=>(lN.o.below hW).cells.c8);have bP:β w4 w4.drew:=(aX _ _).drew;have hdd:=bO.o _ bP;have wU:Hid (ug D 8 m 7 m 0 n≠0->bj D 8 m 7 m 0 n=D.l):=η (λh=>by unfold bj;rw [ifN];exact h);generalize ug D 8 m 7 m 0 n=XR at*;go_region_held3 (λW=>W.cell? ⟨db,8,aB⟩=aC (π p.vb)) (first|(with_reducible assumption)) (first|(go_at_call 47;refine(zg m _).mono ?_;rintro e w5 ⟨rfl,gF⟩;have qK:β w4 w5:=jy (by with_reducible assumption) (gF.mono (gV (by with_reducible assumption)));have hcc:=bO.o _ qK)|(go_at_call 49;refine(Ej m _).mono ?_;rintro e w6 ⟨rfl,tR⟩;have xN:β w4 w6:=jy (by with_reducible assumption) (tR.mono (gV (by with_reducible assumption)));have qw:=bO.o _ xN)|(go_at_call 87;refine(lj.o _ (by with_reducible assumption)).mono ?_;rintro e w7 ⟨rfl,dF,hcm⟩))
 have gC:Hid (aq db p {D with l:=bj D 8 m 7 m 0 n} w w7):=η (aq.trans (bC.bZ _ (ar.o.trans (Below.mono (by with_reducible assumption) ar.o.size))) (λ_ h=> .inl h) ⟨rfl,rfl,rfl,rfl⟩ dF);by_cases h2:XR=0
 case neg=>
  have hb:(XR==0)=aP:=by simpa using h2
  have mK:Hid (XR≠0):=η h2;have JQ:Hid (aq db p D w w7):=η (by have h:=gC.o;rw [wU.o h2] at h;exact h);go_wp2
  go_ret2;refine⟨?_, ?_⟩
  ·unfold SH;rw [HT.o,ifN mK.o];rfl
  unfold AZ;rw [HT.o,ifN mK.o];exact JQ.o
 subst h2;obtain⟨p1,H1,e1,e2,e3,e4,dA,hs1⟩:=gC.o;have kY:=η (H1.below ((aX w7.heap.size w7).alloc (aa _) (aK #[ν 18,ν m,ν 0,ν n,ν 0] 45)));have kZ:=η (xK db p1 {D with l:=bj D 8 m 7 m 0 n} [⟨18,m,0,n,0⟩] w7.heap.size 1 _ kY.o (dK w7 45 #[ν 18,ν m,ν 0,ν n,ν 0] rfl) (by simp) (by simp) (by have:=HO.o.gl;simp only;omega));have pd:Hid (∀W,aq db p1 {D with l:=bj D 8 m 7 m 0 n,log:=D.log++ [⟨18,m,0,n,0⟩]} (w7.alloc (aK #[ν 18,ν m,ν 0,ν n,ν 0] 45)) W->aq db p (Ns D m n) w W):=η (λW h=>aq.trans dA hs1 ⟨e1,e2,e3,e4⟩ (aq.trans (bC.bZ _ σ) (λ_ h=> .inl h) ⟨rfl,rfl,rfl,rfl⟩ h));go_wp2_with (first|(go_at_call 55;refine kZ.o.mono ?_;rintro e w8 ⟨rfl,h8⟩;have dw:=η (pd.o _ h8))|(go_at_call 47;refine(zg m _).mono ?_;rintro e w9 ⟨rfl,gM⟩;have rO:=η (dw.o.below gM);obtain⟨p2,h2,_⟩:=rO.o;have H2:=η h2)|(go_at_call 46;refine(zm db p2 (Ns D m n) 8 m 0 _ H2.o (by decide) hm).mono ?_;rintro e tu ⟨rfl,zv⟩;have G8:=η (rO.o.below zv)))
 go_ret2;refine⟨?_, ?_⟩
 ·unfold SH;rw [HT.o];rfl
 unfold AZ;rw [HT.o];exact G8.o
section
theorem a5e {M A:Nat} {l:List Int} {es:List En} {y:Int}:∀(qs:List (Int×Int×Int)) (acc:List Int),y∈lC acc (qs.map (kD M A l es))->y∈acc\/∃q∈qs,y=ki M A l q+fB es q
 | [],acc,h=> .inl h
 |q::qs,acc,h=>by
  have e:lC acc ((q::qs).map (kD M A l es))=lC (acc.set (kD M A l es q).p.toNat (kD M A l es q).n) (qs.map (kD M A l es)):=by grind [lC]
  rw [e] at h;rcases a5e qs _ h with h|⟨q',h1,h2⟩
  ·rcases List.mem_or_eq_of_mem_set h with h|h
   ·exact .inl h
   exact .inr ⟨q,by simp,h⟩
  grind
theorem aIK {M A:Nat} {l:List Int} {es:List En}(h:xt M A l es)(hl:∀y∈l,aL y):∀y∈kH M A l es,aL y:=by
 intro y hy;unfold kH kj at hy;rcases a5e _ _ hy with hy|⟨q,hq,rfl⟩
 ·exact hl y hy
 exact(h.ovr q hq).2
structure nN(M A:Nat)(l:List Int):Prop where
 len:aA l=A*(6+3*M)
 row:∀a,a<A->sumI (oQ M l a)=0
 pos:∀k m a n,plcA M A k m a=aC n->qJ k=aP->0<=balA M A l k m a
 I:∀y∈l,aL y
theorem YX {M A:Nat} {l:List Int} {h:List Hr} {es:List En}(hv:lZ M A l h es=0):xt M A l es/\(∀q∈dB es,qJ q.1=aP->fB es q<0->0<=ki M A l q+fB es q):=by
 unfold lZ at hv;split at hv
 ·omega
 rename_i h1;have h1:nT M A l es=0:=by omega
 unfold nT at h1;split at h1
 ·omega
 rename_i h2;split at h1
 ·cases h1
 rename_i h3;refine⟨aDk (by omega), ?_⟩;intro q hq hf hs;have hb:rh (kD M A l es q)=aP:=by
  cases hb:rh (kD M A l es q) with
  |false=>rfl
  |true=>exact absurd (kA.2 ⟨_,df.2 ⟨q,hq,rfl⟩,hb⟩) h3
 grind [rh,kD]
theorem nN.post {M A:Nat} {l:List Int} {h:List Hr} {es:List En}(H:nN M A l)(hA:A<=9)(hv:lZ M A l h es=0):nN M A (kH M A l es):=by
 obtain⟨hc,hf⟩:=YX hv;refine⟨(aIL _ _ _ _).trans H.len,λa ha=>(aIM H.len hc (by omega)).trans (H.row a ha), ?_,aIK hc H.I⟩;intro k m a n hn hk;have e:=KV H.len hc (q:=(k,m,a)) hn;have h0:=H.pos k m a n hn hk;have e1:ki M A (kH M A l es) (k,m,a)=balA M A (kH M A l es) k m a:=rfl;have e2:ki M A l (k,m,a)=balA M A l k m a:=rfl;rw [<-e1,e];by_cases hs:fB es (k,m,a)<0
 ·grind [YM]
 rw [e2];omega
theorem SC(fk fm tk tm a n:Int)(q:Int×Int×Int):fB (l9 fk fm tk tm a n) q=(if q=(fk,fm,a) then-n else 0)+(if q=(tk,tm,a) then n else 0):=by have e:l9 fk fm tk tm a n=([]++ [⟨fk,fm,a,-n⟩])++ [⟨tk,tm,a,n⟩]:=rfl;rw [e,Ip,Ip];have:fB [] q=0:=rfl;rw [this,Int.zero_add];rfl
theorem aDM(fk fm tk tm a n:Int)(i:Nat):sumI (gy (l9 fk fm tk tm a n) i)=0:=by grind [gy,l9,sumI]
theorem a5c {fk fm tk tm a n:Int} {q:Int×Int×Int}(h:q∈dB (l9 fk fm tk tm a n)):q=(fk,fm,a)\/q=(tk,tm,a):=by
 obtain⟨x,hx,e⟩:=KU.1 h;simp only [l9,fE,List.not_mem_nil,or_false] at hx;rcases hx with rfl|rfl
 ·exact .inl e.symm
 exact .inr e.symm
section
variable {D:Dk}
theorem NP {fk fm tk tm a n:Int} {i j:Nat}(hf:plcA (aA D.x.ms) (aA D.x.ss+1) fk fm a=aC i)(ht:plcA (aA D.x.ms) (aA D.x.ss+1) tk tm a=aC j)(hne:¬(fk=tk/\fm=tm))(ku:0<=n)(hn:aL n)
 (h1:qJ fk=aO\/(n<=balA (aA D.x.ms) (aA D.x.ss+1) D.l fk fm a/\iP D.h fk fm a<=balA (aA D.x.ms) (aA D.x.ss+1) D.l fk fm a-n)) (hr1:aL (balA (aA D.x.ms) (aA D.x.ss+1) D.l fk fm a-n)) (hr2:aL (balA (aA D.x.ms) (aA D.x.ss+1) D.l tk tm a+n)) (hlen:aA D.l=((aA D.x.ss+1))*(6+3*(aA D.x.ms))):ug D fk fm tk tm a n=0:=by
 have Mq:aL (-n):=by grind [aL]
 have hqn:((fk,fm,a):Int×Int×Int)≠(tk,tm,a):=λe=>hne ⟨congrArg Prod.fst e,congrArg (λx=>x.2.1) e⟩
 have hs1:fB (l9 fk fm tk tm a n) (fk,fm,a)= -n:=by grind [SC]
 have hs2:fB (l9 fk fm tk tm a n) (tk,tm,a)=n:=by grind [SC]
 have hc:xt (aA D.x.ms) (aA D.x.ss+1) D.l (l9 fk fm tk tm a n):=by
  refine⟨by simp [l9], ?_,λi _=>aDM _ _ _ _ _ _ i, ?_⟩
  ·intro x hx;simp only [l9,fE,List.not_mem_nil,or_false] at hx;rcases hx with rfl|rfl
   ·exact⟨i,hf⟩
   exact⟨j,ht⟩
  intro q hq;rcases a5c hq with rfl|rfl
  ·rw [hs1];exact⟨Mq,hr1⟩
  rw [hs2];exact⟨hn,hr2⟩
 unfold ug lZ;have hb:nT (aA D.x.ms) (aA D.x.ss+1) D.l (l9 fk fm tk tm a n)=0:=by unfold nT;rw [ifN (by rw [a2F hc];simp),ifN];intro ha;obtain⟨c,hc1,hc2⟩:=kA.1 ha;obtain⟨q,hq,rfl⟩:=df.1 hc1;grind [a5c,rh,kD,ki]
 rw [ifN (by rw [hb];simp),ifN];intro ha;obtain⟨x,hx,hx2⟩:=kA.1 ha;simp only [l9,fE,List.not_mem_nil,or_false] at hx;rcases hx with rfl|rfl
 ·unfold sJ at hx2;simp only [je,decide_eq_true_eq,Sa] at hx2;obtain⟨⟨a1,a2⟩,a3⟩:=hx2;have e:=KV hlen hc (q:=(fk,fm,a)) hf;rw [hs1] at e;have e2:ki (aA D.x.ms) (aA D.x.ss+1) D.l (fk,fm,a)=balA (aA D.x.ms) (aA D.x.ss+1) D.l fk fm a:=rfl;have a3':ki (aA D.x.ms) (aA D.x.ss+1) (kH (aA D.x.ms) (aA D.x.ss+1) D.l (l9 fk fm tk tm a n)) (fk,fm,a)<iP D.h fk fm a:=a3;grind
 unfold sJ at hx2;simp only [je,decide_eq_true_eq,Sa] at hx2;obtain⟨⟨a1,a2⟩,a3⟩:=hx2;have e:=KV hlen hc (q:=(tk,tm,a)) ht;rw [hs2] at e;have a2':ki (aA D.x.ms) (aA D.x.ss+1) (kH (aA D.x.ms) (aA D.x.ss+1) D.l (l9 fk fm tk tm a n)) (tk,tm,a)<ki (aA D.x.ms) (aA D.x.ss+1) D.l (tk,tm,a):=a2;omega
theorem aI8 {fk fm tk tm a n:Int}(h:ug D fk fm tk tm a n=0)(hlen:aA D.l=((aA D.x.ss+1))*(6+3*(aA D.x.ms))) {k m b:Int} {i:Nat}(hp:plcA (aA D.x.ms) (aA D.x.ss+1) k m b=aC i):balA (aA D.x.ms) (aA D.x.ss+1) (bj D fk fm tk tm a n) k m b=balA (aA D.x.ms) (aA D.x.ss+1) D.l k m b+((if (k,m,b)=(fk,fm,a) then-n else 0)+(if (k,m,b)=(tk,tm,a) then n else 0)):=by have h':lZ (aA D.x.ms) (aA D.x.ss+1) D.l D.h (l9 fk fm tk tm a n)=0:=h;unfold bj;rw [ifP h',<-SC];exact KV hlen (YX h').1 (q:=(k,m,b)) hp
theorem nN.mv {fk fm tk tm a n:Int}(H:nN (aA D.x.ms) (aA D.x.ss+1) D.l)(hA:aA D.x.ss<=8):nN (aA D.x.ms) (aA D.x.ss+1) (bj D fk fm tk tm a n):=by
 by_cases h:lZ (aA D.x.ms) (aA D.x.ss+1) D.l D.h (l9 fk fm tk tm a n)=0
 ·unfold bj;rw [ifP h];exact H.post (by omega) h
 grind [bj]
end
end
def Bl(m a:Int)(L:List Ob):Int:=if dT m a L<(aA L) then 0 else 8
def Bn(m a:Int)(L:List Ob):Int:=match L[dT m a L]? with
 |none=>0
 |some x=>x.size-x.done
theorem a6o {k:IntKind} {a b c d:Int}(h:a=c)(h':b=d):
 aT (bB #[aG k a,aG k b])=aT (bB #[aG k c,aG k d]):=by rw [h,h']
theorem a5r(L:List Ob)(m a:Int)(v:aN)(bs base:Nat)(w:aJ)(h:fM w bs base v L)(hL:sT L):
 aQ aM 119 #[π bs,ν m,ν a] w λe w'=>e=aT (bB #[ν (Bn m a L),ν (Bl m a L)])/\β w w':=by
 have hl:aA L<=1000000:=by have:=hL.len;omega
 have HH:=η h;by_cases hi:dT m a L<aA L
 ·have HI:=η (VR hi);have hE:Bl m a L=0:=by unfold Bl;rw [ifP hi]
  have hV:Bn m a L=L[dT m a L].size-L[dT m a L].done:=by unfold Bn;rw [iE hi]
  obtain⟨o1,o2,o3,o4,o5⟩:=hL.each _ (cH hi);have HE:=η hE;have HV:=η hV;generalize dT m a L=i at*;have cF:=η o1;have hs2:L[i].size<=9223372036854775807:=by unfold Ob.size;unfold fw at o1;split<;>omega
  go_enter aAZ,aBM
  go_wp2_with fail
  refine(KX L m a v bs base _ HH.o hl).mono ?_;rintro e w1 ⟨rfl,hb1⟩;rw [HI.o];obtain⟨g,cap,rfl,hg,hgb,F5,vW,d0,d1,d2,d3,d4,d5⟩:=Ki (HH.o.below hb1) hi;have c0:=(HH.o.below hb1).c0;have FC:=(HH.o.below hb1).lt;have aR:=η hb1;have hz1:=hb1.size;have hkb:(i:Int)<(aA L:Int):=by omega
  have eY:(0:Int)<=(i:Int):=by omega
  have yf:aF.wrap (L[i].size-L[i].done)=L[i].size-L[i].done:=sj _ (by omega);go_wp2_with fail
  go_region_held3 (λw'=>w'.cell? ⟨bs,0,aB⟩=aC (aH (aC ⟨g,0,aB⟩) (aA L) cap)/\w'.cell? ⟨g,i*6,aB⟩=aC (ν L[i].c)/\w'.cell? ⟨g,i*6+1,aB⟩=aC (ν L[i].m)/\w'.cell? ⟨g,i*6+2,aB⟩=aC (ν L[i].a)/\w'.cell? ⟨g,i*6+3,aB⟩=aC (ν L[i].az)/\w'.cell? ⟨g,i*6+4,aB⟩=aC (ν L[i].done)/\w'.cell? ⟨g,i*6+5,aB⟩=aC (ν L[i].st))
   (first|exact⟨c0,d0,d1,d2,d3,d4,d5⟩|exact⟨(hb2.cell (p:=⟨bs,0,aB⟩) FC).trans c0,(hb2.cell (p:=⟨g,i*6,aB⟩) hg).trans d0,(hb2.cell (p:=⟨g,i*6+1,aB⟩) hg).trans d1,(hb2.cell (p:=⟨g,i*6+2,aB⟩) hg).trans d2,(hb2.cell (p:=⟨g,i*6+3,aB⟩) hg).trans d3,(hb2.cell (p:=⟨g,i*6+4,aB⟩) hg).trans d4,(hb2.cell (p:=⟨g,i*6+5,aB⟩) hg).trans d5⟩)
   (first|(go_at_call 176;refine(a5s L[i] _ cF.o o2).mono ?_;rintro e w2 ⟨rfl,vU⟩;have hb2:β w1 w2:=((aX _ _).drew).trans vU))
  have aV:=η hb2;go_wp2_with fail
  go_ret2;refine⟨a6o ?_ HE.o.symm,aR.o.trans (aV.o.mono hz1)⟩;rw [HV.o]
 have HI:=η (VS hi);have hE:Bl m a L=8:=by unfold Bl;rw [ifN hi]
 have hV:Bn m a L=0:=by unfold Bn;rw [Ld (by omega)]
 have HE:=η hE;have HV:=η hV;go_enter aAZ,aBM
 go_wp2_with fail
 refine(KX L m a v bs base _ HH.o hl).mono ?_;rintro e w1 ⟨rfl,hb1⟩;rw [HI.o];have aR:=η hb1;go_wp2_with fail
 go_ret2;exact⟨a6o HV.o.symm HE.o.symm,aR.o⟩
theorem aq.cell {db:Nat} {p:Dp} {D:Dk} {w w':aJ}(h:aq db p D w w') {k:Nat}(o:Nat)(hk:k<w.heap.size)(hn:¬eW db p k):w'.cell? ⟨k,o,aB⟩=w.cell? ⟨k,o,aB⟩:=by obtain⟨p1,_,_,_,_,_,hu,_⟩:=h;exact hu.cell o hk hn
theorem bW.Fh {w w':aJ} {db:Nat} {p:Dp} {D:Dk} {cR:List Ob} {E:Int} {e:dU}(H:bW w db p D)(h:Gc p.sb 0 p.sv cR E w e w'):e=aT (aG aF E)/\aq db p {D with ob:=cR} w w':=by
 obtain⟨SF,rfl,hs,ho,hf⟩:=h;refine⟨rfl, {p with sv:=SF},H.aKZ ho.upd hs,rfl,rfl,rfl,rfl,ho.upd.mono (λk hk=> .inl (.inr (.inr (.inl hk)))), ?_⟩;rintro k (e|e|(e|e)|e|e|e)
 ·exact .inl (.inl e)
 ·exact .inl (.inr (.inl e))
 ·exact .inl (.inr (.inr (.inl (.inl e))))
 ·exact(hf k e).imp (λh=> .inr (.inr (.inl (.inr h)))) id
 ·exact .inl (.inr (.inr (.inr (.inl e))))
 ·exact .inl (.inr (.inr (.inr (.inr (.inl e)))))
 exact .inl (.inr (.inr (.inr (.inr (.inr e)))))
def Bq(D:Dk)(m a E:Int)(cR:List Ob):Int:=if oT D m a≠0 then oT D m a else if E≠0 then E else Bl m a cR
def Br(D:Dk)(m a E:Int)(cR:List Ob):Int:=if oT D m a≠0 then 0 else if E≠0 then 0 else Bn m a cR
def pR(D:Dk)(m a n fk fm tk tm kd E:Int)(cR:List Ob):Dk:=if oT D m a≠0 then D else if E≠0 then {D with ob:=cR} else {D with ob:=cR,l:=bj D fk fm tk tm a n,log:=D.log++ [⟨kd,m,a,n,0⟩]}
theorem aF3(db:Nat)(p:Dp)(D:Dk)(m a n fk fm tk tm kd E:Int)(cR:List Ob)(w:aJ)(H:bW w db p D)(hO:fY D)(hm:aL m)(ha:aL a)(hn:aL n)(hf:aL fk/\aL fm)(ht:aL tk/\aL tm)
 (FD:sT cR) (ku:E=0->0<=n) (hS:∀W,bW W db p D->aQ aM 60 #[bF (aC ⟨p.sb,0,aB⟩),aG aF m,aG aF a,aG aF n] W (Gc p.sb 0 p.sv cR E W)):
 aQ aM 59 #[bF (aC ⟨db,0,aB⟩),aG aF m,aG aF a,aG aF n,.func (.func 60) #[bF (aC ⟨p.sb,0,aB⟩)] #[],bQ #[aG aF fk,aG aF fm],bQ #[aG aF tk,aG aF tm],aG aF kd] w (CM db p (pR D m a n fk fm tk tm kd E cR) (Br D m a E cR) (Bq D m a E cR) w):=by
 have HE:Hid (Bq D m a E cR=if oT D m a≠0 then oT D m a else if E≠0 then E else Bl m a cR):=η rfl;have HV:Hid (Br D m a E cR=if oT D m a≠0 then 0 else if E≠0 then 0 else Bn m a cR):=η rfl;have rI:Hid (pR D m a n fk fm tk tm kd E cR=if oT D m a≠0 then D else if E≠0 then {D with ob:=cR} else {D with ob:=cR,l:=bj D fk fm tk tm a n,log:=D.log++ [⟨kd,m,a,n,0⟩]}):=η rfl;have aZ:Hid (aY w.heap.size w ((w.alloc (aK #[aG aF fk,aG aF fm] 51)).alloc (aK #[aG aF tk,aG aF tm] 51))):=η (σ.alloc (by simp) _);have o7:Hid (((w.alloc (aK #[aG aF fk,aG aF fm] 51)).alloc (aK #[aG aF tk,aG aF tm] 51)).heap[w.heap.size]? =aC (aK #[aG aF fk,aG aF fm] 51 (0,0))):=η ((fG _ _ (by simp)).trans (cO w _));have kQ:Hid (((w.alloc (aK #[aG aF fk,aG aF fm] 51)).alloc (aK #[aG aF tk,aG aF tm] 51)).heap[w.heap.size+1]? =aC (aK #[aG aF tk,aG aF tm] 51 (0,0))):=η (by have h:=cO (w.alloc (aK #[aG aF fk,aG aF fm] 51)) (aK #[aG aF tk,aG aF tm] 51);rwa [DB] at h);have hz0:((w.alloc (aK #[aG aF fk,aG aF fm] 51)).alloc (aK #[aG aF tk,aG aF tm] 51)).heap.size=w.heap.size+2:=by simp
 have HF:=η H;have HO:=η hO;have uy:=η hS;have mi:Hid (∀k,eW db p k->k<w.heap.size):=η (λk hk=>H.tW hk);have jQ:=η (H.below aZ.o);have qX:=η (a2q db p D m a _ jQ.o hm ha);have uI:=η FD;have og:=η ku;clear H hO hS FD ku;generalize oT D m a=se at*;go_enter aB6,aBs
 go_upto_region 1 with (fail)
 generalize (w.alloc (aK #[aG aF fk,aG aF fm] 51)).alloc (aK #[aG aF tk,aG aF tm] 51)=w1 at*;obtain⟨bx,bU⟩:∃bx,bx=w.heap.size:=⟨_,rfl⟩;have dL:=η bU;rw [<-bU] at o7 kQ hz0 ⊢;clear bU;go_upto_region 2 with (go_at_call 118;refine qX.o.mono ?_;rintro e w2 ⟨rfl,hb2⟩;have aV:=η hb2;clear hb2)
 have cC:Hid (aY w.heap.size w w2):=η (aZ.o.trans (aV.o.mono aZ.o.size));have EU:Hid (w2.heap[bx]? =aC (aK #[aG aF fk,aG aF fm] 51 (0,0))):=η ((aV.o.block bx (by omega)).trans o7.o);have Cp:Hid (w2.heap[bx+1]? =aC (aK #[aG aF tk,aG aF tm] 51 (0,0))):=η ((aV.o.block (bx+1) (by omega)).trans kQ.o);have hz2:bx+1<w2.heap.size:=by have:=aV.o.size;omega
 have cK:=η (jQ.o.below aV.o);clear jQ aV o7 kQ aZ qX hz0;by_cases h1:se=0
 case neg=>
  have hb:(se==0)=aP:=by simpa using h1
  have mK:Hid (se≠0):=η h1;clear h1;go_wp2_with fail
  go_ret2;refine⟨?_, ?_⟩
  ·rw [HE.o,HV.o,ifP mK.o,ifP mK.o];rfl
  rw [rI.o,ifP mK.o];exact aq.bZ HF.o cC.o
 subst h1;rw [ifN (by simp)] at HE HV rI;have sZ:=η (uy.o w2 cK.o);go_upto_region 5 with (go_at_call 60;refine sZ.o.mono ?_;intro e w3 h3;obtain⟨rfl,h4⟩:=cK.o.Fh h3;have ot:=η h4;clear h3 h4)
 have LO:Hid (aq db p {D with ob:=cR} w w3):=η (aq.trans (bC.bZ _ cC.o) (λ_ h=> .inl h) ⟨rfl,rfl,rfl,rfl⟩ ot.o);by_cases h2:E=0
 case neg=>
  have hb:(E==0)=aP:=by simpa using h2
  have mK:Hid (E≠0):=η h2;clear h2;go_wp2_with fail
  go_ret2;refine⟨?_, ?_⟩
  ·rw [HE.o,HV.o,ifP mK.o,ifP mK.o];rfl
  rw [rI.o,ifP mK.o];exact LO.o
 subst h2;rw [ifN (by simp)] at HE HV rI;have jJ:=og.o rfl;have bX:Hid (∀k,eW db p k->k<bx):=η (λk hk=>by rw [dL.o];exact mi.o k hk);have GJ:Hid (w3.heap[bx]? =aC (aK #[aG aF fk,aG aF fm] 51 (0,0))):=η (by obtain⟨_,_,_,_,_,_,hu,_⟩:=ot.o;exact(hu.keep bx (by omega) (λh=>by have:=bX.o _ h;omega)).trans EU.o);have yJ:Hid (w3.heap[bx+1]? =aC (aK #[aG aF tk,aG aF tm] 51 (0,0))):=η (by obtain⟨_,_,_,_,_,_,hu,_⟩:=ot.o;exact(hu.keep (bx+1) hz2 (λh=>by have:=bX.o _ h;omega)).trans Cp.o);have hz3:bx+1<w3.heap.size:=by obtain⟨_,_,_,_,_,_,hu,_⟩:=ot.o;have:=hu.size;omega
 obtain⟨p3,H3,e1,e2,e3,e4,qN,hs3⟩:=ot.o;have wQ:=η H3;have dw:Hid (∀W D2,aq db p3 D2 w3 W->aq db p D2 w W):=η (λW D2 h=>aq.trans (bC.bZ _ cC.o) (λ_ h=> .inl h) ⟨rfl,rfl,rfl,rfl⟩ (aq.trans qN hs3 ⟨e1,e2,e3,e4⟩ h));have zH:Hid (∀k,eW db p3 k->k≠bx/\k≠bx+1):=η (by
  intro k hk;rcases hs3 k hk with h|h
  ·have:=bX.o k h;omega
  omega)
 have Mt:fY {D with ob:=cR}:=⟨HO.o.lI,HO.o.hl,HO.o.wl,HO.o.gl,uI.o,HO.o.bl,HO.o.st⟩;clear H3 e1 e2 e3 e4 qN hs3 ot LO cK EU Cp hz2 cC bX mi sZ uy og;go_upto_region 7 with (fail)
 have lj:=η (Hb db p3 {D with ob:=cR} fk fm tk tm a n w3.drew (wQ.o.below (aX _ _).drew) Mt hf ht ha hn jJ);have d0:w3.drew.cell? ⟨db,8,aB⟩=aC (bF (aC ⟨p3.vb,0,aB⟩)):=wQ.o.cells.c8;have d1:w3.drew.cell? ⟨bx,0,aB⟩=aC (aG aF fk):=ρ GJ.o;have d2:w3.drew.cell? ⟨bx,1,aB⟩=aC (aG aF fm):=ρ GJ.o;have d3:w3.drew.cell? ⟨bx+1,0,aB⟩=aC (aG aF tk):=ρ yJ.o;have d4:w3.drew.cell? ⟨bx+1,1,aB⟩=aC (aG aF tm):=ρ yJ.o;have hzd:bx+1<w3.drew.heap.size:=hz3;go_region_held3 (λW=>W.cell? ⟨db,8,aB⟩=aC (bF (aC ⟨p3.vb,0,aB⟩))/\W.cell? ⟨bx,0,aB⟩=aC (aG aF fk)/\W.cell? ⟨bx,1,aB⟩=aC (aG aF fm)/\W.cell? ⟨bx+1,0,aB⟩=aC (aG aF tk)/\W.cell? ⟨bx+1,1,aB⟩=aC (aG aF tm)) (first|(with_reducible exact⟨d0,d1,d2,d3,d4⟩)|(with_reducible exact⟨m0,m1,m2,m3,m4⟩)) ((go_at_call 87;refine lj.o.mono ?_;rintro e w7 ⟨rfl,dF,m0⟩;have m1:=(dF.cell 0 (by omega) (λh=>(zH.o bx h).1 rfl)).trans d1;have m2:=(dF.cell 1 (by omega) (λh=>(zH.o bx h).1 rfl)).trans d2;have m3:=(dF.cell 0 hzd (λh=>(zH.o (bx+1) h).2 rfl)).trans d3;have m4:=(dF.cell 1 hzd (λh=>(zH.o (bx+1) h).2 rfl)).trans d4))
 have gC:Hid (aq db p3 {D with ob:=cR,l:=bj {D with ob:=cR} fk fm tk tm a n} w3 w7):=η (aq.trans (bC.bZ _ (aX _ _).drew) (λ_ h=> .inl h) ⟨rfl,rfl,rfl,rfl⟩ dF);clear dF m0 m1 m2 m3 m4 d0 d1 d2 d3 d4 hzd lj GJ yJ hz3 zH Mt wQ;obtain⟨p4,H4,e1,e2,e3,e4,qO,j6⟩:=gC.o;have kY:=η (H4.below ((aX w7.heap.size w7).alloc (aa _) (aK #[aG aF kd,aG aF m,aG aF a,aG aF n,aG aF 0] 45)));have kZ:=η (xK db p4 {D with ob:=cR,l:=bj {D with ob:=cR} fk fm tk tm a n} [⟨kd,m,a,n,0⟩] w7.heap.size 1 _ kY.o (dK w7 45 #[aG aF kd,aG aF m,aG aF a,aG aF n,aG aF 0] rfl) (by simp) (by simp) (by have:=HO.o.gl;simp only;omega));have pd:Hid (∀W,aq db p4 {D with ob:=cR,l:=bj {D with ob:=cR} fk fm tk tm a n,log:=D.log++ [⟨kd,m,a,n,0⟩]} (w7.alloc (aK #[aG aF kd,aG aF m,aG aF a,aG aF n,aG aF 0] 45)) W->aq db p {D with ob:=cR,l:=bj {D with ob:=cR} fk fm tk tm a n,log:=D.log++ [⟨kd,m,a,n,0⟩]} w W):=η (λW h=>dw.o W _ (aq.trans qO j6 ⟨e1,e2,e3,e4⟩ (aq.trans (bC.bZ _ σ) (λ_ h=> .inl h) ⟨rfl,rfl,rfl,rfl⟩ h)));clear H4 e1 e2 e3 e4 qO j6 gC;go_upto_region 9 with (go_at_call 55;refine kZ.o.mono ?_;rintro e w8 ⟨rfl,h8⟩;have rO:=η (pd.o _ h8);clear h8)
 obtain⟨p5,h5,-⟩:=rO.o;have c9:=h5.cells.c9;have TQ:=η (a5r cR m a p5.sv p5.sb 0 w8 h5.sh uI.o);clear h5 pd kZ kY dw;generalize Bn m a cR=lv1 at*;generalize Bl m a cR=le1 at*;go_wp2_with (go_at_call 119;refine TQ.o.mono ?_;rintro e w9 ⟨rfl,gM⟩;have G8:=η (rO.o.below gM);clear gM)
 go_ret2;refine⟨?_, ?_⟩
 ·rw [HE.o,HV.o];rfl
 rw [rI.o];exact G8.o
theorem aF4(db:Nat)(p:Dp)(D:Dk)(m a n fk fm tk tm kd E:Int)(cR:List Ob)(w:aJ)(H:bW w db p D)(hO:fY D)(hm:aL m)(ha:aL a)(hn:aL n)(hf:aL fk/\aL fm)(ht:aL tk/\aL tm)
 (FD:sT cR) (ku:E=0->0<=n) (hS:∀W,bW W db p D->aQ aM 84 #[bF (aC ⟨p.sb,0,aB⟩),aG aF m,aG aF a,aG aF n] W (Gc p.sb 0 p.sv cR E W)):
 aQ aM 59 #[bF (aC ⟨db,0,aB⟩),aG aF m,aG aF a,aG aF n,.func (.func 84) #[bF (aC ⟨p.sb,0,aB⟩)] #[],bQ #[aG aF fk,aG aF fm],bQ #[aG aF tk,aG aF tm],aG aF kd] w (CM db p (pR D m a n fk fm tk tm kd E cR) (Br D m a E cR) (Bq D m a E cR) w):=by
 have HE:Hid (Bq D m a E cR=if oT D m a≠0 then oT D m a else if E≠0 then E else Bl m a cR):=η rfl;have HV:Hid (Br D m a E cR=if oT D m a≠0 then 0 else if E≠0 then 0 else Bn m a cR):=η rfl;have rI:Hid (pR D m a n fk fm tk tm kd E cR=if oT D m a≠0 then D else if E≠0 then {D with ob:=cR} else {D with ob:=cR,l:=bj D fk fm tk tm a n,log:=D.log++ [⟨kd,m,a,n,0⟩]}):=η rfl;have aZ:Hid (aY w.heap.size w ((w.alloc (aK #[aG aF fk,aG aF fm] 51)).alloc (aK #[aG aF tk,aG aF tm] 51))):=η (σ.alloc (by simp) _);have o7:Hid (((w.alloc (aK #[aG aF fk,aG aF fm] 51)).alloc (aK #[aG aF tk,aG aF tm] 51)).heap[w.heap.size]? =aC (aK #[aG aF fk,aG aF fm] 51 (0,0))):=η ((fG _ _ (by simp)).trans (cO w _));have kQ:Hid (((w.alloc (aK #[aG aF fk,aG aF fm] 51)).alloc (aK #[aG aF tk,aG aF tm] 51)).heap[w.heap.size+1]? =aC (aK #[aG aF tk,aG aF tm] 51 (0,0))):=η (by have h:=cO (w.alloc (aK #[aG aF fk,aG aF fm] 51)) (aK #[aG aF tk,aG aF tm] 51);rwa [DB] at h);have hz0:((w.alloc (aK #[aG aF fk,aG aF fm] 51)).alloc (aK #[aG aF tk,aG aF tm] 51)).heap.size=w.heap.size+2:=by simp
 have HF:=η H;have HO:=η hO;have uy:=η hS;have mi:Hid (∀k,eW db p k->k<w.heap.size):=η (λk hk=>H.tW hk);have jQ:=η (H.below aZ.o);have qX:=η (a2q db p D m a _ jQ.o hm ha);have uI:=η FD;have og:=η ku;clear H hO hS FD ku;generalize oT D m a=se at*;go_enter aB6,aBs
 go_upto_region 1 with (fail)
 generalize (w.alloc (aK #[aG aF fk,aG aF fm] 51)).alloc (aK #[aG aF tk,aG aF tm] 51)=w1 at*;obtain⟨bx,bU⟩:∃bx,bx=w.heap.size:=⟨_,rfl⟩;have dL:=η bU;rw [<-bU] at o7 kQ hz0 ⊢;clear bU;go_upto_region 2 with (go_at_call 118;refine qX.o.mono ?_;rintro e w2 ⟨rfl,hb2⟩;have aV:=η hb2;clear hb2)
 have cC:Hid (aY w.heap.size w w2):=η (aZ.o.trans (aV.o.mono aZ.o.size));have EU:Hid (w2.heap[bx]? =aC (aK #[aG aF fk,aG aF fm] 51 (0,0))):=η ((aV.o.block bx (by omega)).trans o7.o);have Cp:Hid (w2.heap[bx+1]? =aC (aK #[aG aF tk,aG aF tm] 51 (0,0))):=η ((aV.o.block (bx+1) (by omega)).trans kQ.o);have hz2:bx+1<w2.heap.size:=by have:=aV.o.size;omega
 have cK:=η (jQ.o.below aV.o);clear jQ aV o7 kQ aZ qX hz0;by_cases h1:se=0
 case neg=>
  have hb:(se==0)=aP:=by simpa using h1
  have mK:Hid (se≠0):=η h1;clear h1;go_wp2_with fail
  go_ret2;refine⟨?_, ?_⟩
  ·rw [HE.o,HV.o,ifP mK.o,ifP mK.o];rfl
  rw [rI.o,ifP mK.o];exact aq.bZ HF.o cC.o
 subst h1;rw [ifN (by simp)] at HE HV rI;have sZ:=η (uy.o w2 cK.o);go_upto_region 5 with (go_at_call 84;refine sZ.o.mono ?_;intro e w3 h3;obtain⟨rfl,h4⟩:=cK.o.Fh h3;have ot:=η h4;clear h3 h4)
 have LO:Hid (aq db p {D with ob:=cR} w w3):=η (aq.trans (bC.bZ _ cC.o) (λ_ h=> .inl h) ⟨rfl,rfl,rfl,rfl⟩ ot.o);by_cases h2:E=0
 case neg=>
  have hb:(E==0)=aP:=by simpa using h2
  have mK:Hid (E≠0):=η h2;clear h2;go_wp2_with fail
  go_ret2;refine⟨?_, ?_⟩
  ·rw [HE.o,HV.o,ifP mK.o,ifP mK.o];rfl
  rw [rI.o,ifP mK.o];exact LO.o
 subst h2;rw [ifN (by simp)] at HE HV rI;have jJ:=og.o rfl;have bX:Hid (∀k,eW db p k->k<bx):=η (λk hk=>by rw [dL.o];exact mi.o k hk);have GJ:Hid (w3.heap[bx]? =aC (aK #[aG aF fk,aG aF fm] 51 (0,0))):=η (by obtain⟨_,_,_,_,_,_,hu,_⟩:=ot.o;exact(hu.keep bx (by omega) (λh=>by have:=bX.o _ h;omega)).trans EU.o);have yJ:Hid (w3.heap[bx+1]? =aC (aK #[aG aF tk,aG aF tm] 51 (0,0))):=η (by obtain⟨_,_,_,_,_,_,hu,_⟩:=ot.o;exact(hu.keep (bx+1) hz2 (λh=>by have:=bX.o _ h;omega)).trans Cp.o);have hz3:bx+1<w3.heap.size:=by obtain⟨_,_,_,_,_,_,hu,_⟩:=ot.o;have:=hu.size;omega
 obtain⟨p3,H3,e1,e2,e3,e4,qN,hs3⟩:=ot.o;have wQ:=η H3;have dw:Hid (∀W D2,aq db p3 D2 w3 W->aq db p D2 w W):=η (λW D2 h=>aq.trans (bC.bZ _ cC.o) (λ_ h=> .inl h) ⟨rfl,rfl,rfl,rfl⟩ (aq.trans qN hs3 ⟨e1,e2,e3,e4⟩ h));have zH:Hid (∀k,eW db p3 k->k≠bx/\k≠bx+1):=η (by
  intro k hk;rcases hs3 k hk with h|h
  ·have:=bX.o k h;omega
  omega)
 have Mt:fY {D with ob:=cR}:=⟨HO.o.lI,HO.o.hl,HO.o.wl,HO.o.gl,uI.o,HO.o.bl,HO.o.st⟩;clear H3 e1 e2 e3 e4 qN hs3 ot LO cK EU Cp hz2 cC bX mi sZ uy og;go_upto_region 7 with (fail)
 have lj:=η (Hb db p3 {D with ob:=cR} fk fm tk tm a n w3.drew (wQ.o.below (aX _ _).drew) Mt hf ht ha hn jJ);have d0:w3.drew.cell? ⟨db,8,aB⟩=aC (bF (aC ⟨p3.vb,0,aB⟩)):=wQ.o.cells.c8;have d1:w3.drew.cell? ⟨bx,0,aB⟩=aC (aG aF fk):=ρ GJ.o;have d2:w3.drew.cell? ⟨bx,1,aB⟩=aC (aG aF fm):=ρ GJ.o;have d3:w3.drew.cell? ⟨bx+1,0,aB⟩=aC (aG aF tk):=ρ yJ.o;have d4:w3.drew.cell? ⟨bx+1,1,aB⟩=aC (aG aF tm):=ρ yJ.o;have hzd:bx+1<w3.drew.heap.size:=hz3;go_region_held3 (λW=>W.cell? ⟨db,8,aB⟩=aC (bF (aC ⟨p3.vb,0,aB⟩))/\W.cell? ⟨bx,0,aB⟩=aC (aG aF fk)/\W.cell? ⟨bx,1,aB⟩=aC (aG aF fm)/\W.cell? ⟨bx+1,0,aB⟩=aC (aG aF tk)/\W.cell? ⟨bx+1,1,aB⟩=aC (aG aF tm)) (first|(with_reducible exact⟨d0,d1,d2,d3,d4⟩)|(with_reducible exact⟨m0,m1,m2,m3,m4⟩)) ((go_at_call 87;refine lj.o.mono ?_;rintro e w7 ⟨rfl,dF,m0⟩;have m1:=(dF.cell 0 (by omega) (λh=>(zH.o bx h).1 rfl)).trans d1;have m2:=(dF.cell 1 (by omega) (λh=>(zH.o bx h).1 rfl)).trans d2;have m3:=(dF.cell 0 hzd (λh=>(zH.o (bx+1) h).2 rfl)).trans d3;have m4:=(dF.cell 1 hzd (λh=>(zH.o (bx+1) h).2 rfl)).trans d4))
 have gC:Hid (aq db p3 {D with ob:=cR,l:=bj {D with ob:=cR} fk fm tk tm a n} w3 w7):=η (aq.trans (bC.bZ _ (aX _ _).drew) (λ_ h=> .inl h) ⟨rfl,rfl,rfl,rfl⟩ dF);clear dF m0 m1 m2 m3 m4 d0 d1 d2 d3 d4 hzd lj GJ yJ hz3 zH Mt wQ;obtain⟨p4,H4,e1,e2,e3,e4,qO,j6⟩:=gC.o;have kY:=η (H4.below ((aX w7.heap.size w7).alloc (aa _) (aK #[aG aF kd,aG aF m,aG aF a,aG aF n,aG aF 0] 45)));have kZ:=η (xK db p4 {D with ob:=cR,l:=bj {D with ob:=cR} fk fm tk tm a n} [⟨kd,m,a,n,0⟩] w7.heap.size 1 _ kY.o (dK w7 45 #[aG aF kd,aG aF m,aG aF a,aG aF n,aG aF 0] rfl) (by simp) (by simp) (by have:=HO.o.gl;simp only;omega));have pd:Hid (∀W,aq db p4 {D with ob:=cR,l:=bj {D with ob:=cR} fk fm tk tm a n,log:=D.log++ [⟨kd,m,a,n,0⟩]} (w7.alloc (aK #[aG aF kd,aG aF m,aG aF a,aG aF n,aG aF 0] 45)) W->aq db p {D with ob:=cR,l:=bj {D with ob:=cR} fk fm tk tm a n,log:=D.log++ [⟨kd,m,a,n,0⟩]} w W):=η (λW h=>dw.o W _ (aq.trans qO j6 ⟨e1,e2,e3,e4⟩ (aq.trans (bC.bZ _ σ) (λ_ h=> .inl h) ⟨rfl,rfl,rfl,rfl⟩ h)));clear H4 e1 e2 e3 e4 qO j6 gC;go_upto_region 9 with (go_at_call 55;refine kZ.o.mono ?_;rintro e w8 ⟨rfl,h8⟩;have rO:=η (pd.o _ h8);clear h8)
 obtain⟨p5,h5,-⟩:=rO.o;have c9:=h5.cells.c9;have TQ:=η (a5r cR m a p5.sv p5.sb 0 w8 h5.sh uI.o);clear h5 pd kZ kY dw;generalize Bn m a cR=lv1 at*;generalize Bl m a cR=le1 at*;go_wp2_with (go_at_call 119;refine TQ.o.mono ?_;rintro e w9 ⟨rfl,gM⟩;have G8:=η (rO.o.below gM);clear gM)
 go_ret2;refine⟨?_, ?_⟩
 ·rw [HE.o,HV.o];rfl
 rw [rI.o];exact G8.o
theorem aq.c9 {db:Nat} {p:Dp} {D:Dk} {w w':aJ}(h:aq db p D w w'):w'.cell? ⟨db,9,aB⟩=aC (bF (aC ⟨p.sb,0,aB⟩)):=by obtain⟨p1,H1,_,e2,_⟩:=h;rw [<-e2];exact H1.cells.c9
theorem aJK {m a n:Int} {L:List Ob}(h:j7 m a n L=0):0<=n:=by
 unfold j7 at h;split at h
 ·cases h
 split at h
 ·cases h
 split at h
 ·cases h
 omega
theorem aLH {m a n:Int} {L:List Ob}(h:lG m a n L=0):0<=n:=by
 unfold lG at h;split at h
 ·cases h
 split at h
 ·cases h
 split at h
 ·cases h
 omega
def Jz(D:Dk)(er:Int):Int:=if D.st=1 then er else 11
def K0(D:Dk)(v:Int):Int:=if D.st=1 then v else 0
def zq(D D':Dk):Dk:=if D.st=1 then D' else D
theorem a2a(db:Nat)(p:Dp)(D:Dk)(m a n:Int)(w:aJ)(H:bW w db p D)(hO:fY D)(hm:aL m)(ha:aL a)(hn:aL n):
 aQ aM 27 #[π db,ν m,ν a,ν n] w (CM db p (zq D (pR D m a n 7 m 1 0 5 (j7 m a n D.ob) (kV m a n D.ob))) (K0 D (Br D m a (j7 m a n D.ob) (kV m a n D.ob))) (Jz D (Bq D m a (j7 m a n D.ob) (kV m a n D.ob))) w):=by
 have hb0:β w (w.alloc (aK #[ν 1] 3)):=(aX _ _).alloc (aa _) _;have jR:=η (Ju db p D 1 (aC ⟨w.heap.size,0,aB⟩) 1 _ (H.below hb0) (λj u hu=>⟨w.heap.size,0,rfl,by simp,by
  match j,hu with
  |0,hu=>exact(cL w #[ν 1] 3 0 rfl).trans (by simpa using hu)
  |j+1,hu=>simp at hu⟩))
 have lj:=η (λW (hW:β w W)=>aF3 db p D m a n 7 m 1 0 5 (j7 m a n D.ob) (kV m a n D.ob) W (H.below hW) hO hm ha hn ⟨by decide,hm⟩ ⟨by decide,by decide⟩ (aFc m a n hO.ob).1 aJK (λW' Ex=>aIa D.ob m a n p.sv p.sb 0 W' Ex.sh hO.ob hn.2));have HF:=η H;have aZ:=η hb0;unfold zq K0 Jz;generalize pR D m a n 7 m 1 0 5 (j7 m a n D.ob) (kV m a n D.ob)=D' at*;generalize Br D m a (j7 m a n D.ob) (kV m a n D.ob)=mv at*;generalize Bq D m a (j7 m a n D.ob) (kV m a n D.ob)=me at*;by_cases h1:D.st=1
 case neg=>
  rw [ifN h1] at jR ⊢;rw [ifN h1,ifN h1];go_enter aAw,aBj
  go_wp2_with (go_at_call 51;refine κ jR.o aZ λw1 aR=> ?_)
  go_ret2;exact⟨rfl,aq.bZ HF.o aR.o⟩
 rw [ifP h1] at jR ⊢;rw [ifP h1,ifP h1];go_enter aAw,aBj
 go_upto_region 4 with (go_at_call 51;refine κ jR.o aZ λw4 ar=> ?_)
 have lN:=η (HF.o.below ar.o);have bO:=η (λW (hW:β w4 W)=>(lN.o.below hW).cells.c9);have eI:=η (λW (hW:β w4 W)=>lj.o W (ar.o.trans (hW.mono ar.o.size)));have bP:β w4 w4.drew:=(aX _ _).drew;have hdd:=bO.o _ bP;go_region_held3 (λW=>W.cell? ⟨db,9,aB⟩=aC (π p.sb)) (first|(with_reducible assumption)) (first|(go_at_call 61;refine(xG _).mono ?_;rintro e w5 ⟨rfl,gF⟩;have qK:β w4 w5:=jy (by with_reducible assumption) (gF.mono (gV (by with_reducible assumption)));have hcc:=bO.o _ qK)|(go_at_call 49;refine(Ej m _).mono ?_;rintro e w6 ⟨rfl,tR⟩;have xN:β w4 w6:=jy (by with_reducible assumption) (tR.mono (gV (by with_reducible assumption)));have qw:=bO.o _ xN)|(go_at_call 59;refine(eI.o _ (by with_reducible assumption)).mono ?_;rintro e w7 ⟨rfl,dF⟩;have hcm:=dF.c9))
 all_goals
  have gC:Hid (aq db p D' w w7):=η (aq.trans (bC.bZ _ (ar.o.trans (Below.mono (by with_reducible assumption) ar.o.size))) (λ_ h=> .inl h) ⟨rfl,rfl,rfl,rfl⟩ dF);go_wp2
  go_ret2;exact⟨rfl,gC.o⟩
theorem aEl(db:Nat)(p:Dp)(D:Dk)(m a n:Int)(w:aJ)(H:bW w db p D)(hO:fY D)(hm:aL m)(ha:aL a)(hn:aL n):
 aQ aM 35 #[π db,ν m,ν a,ν n] w (CM db p (zq D (pR D m a n 1 0 7 m 6 (lG m a n D.ob) (nw m a n D.ob))) (K0 D (Br D m a (lG m a n D.ob) (nw m a n D.ob))) (Jz D (Bq D m a (lG m a n D.ob) (nw m a n D.ob))) w):=by
 have hb0:β w (w.alloc (aK #[ν 1] 3)):=(aX _ _).alloc (aa _) _;have jR:=η (Ju db p D 1 (aC ⟨w.heap.size,0,aB⟩) 1 _ (H.below hb0) (λj u hu=>⟨w.heap.size,0,rfl,by simp,by
  match j,hu with
  |0,hu=>exact(cL w #[ν 1] 3 0 rfl).trans (by simpa using hu)
  |j+1,hu=>simp at hu⟩))
 have lj:=η (λW (hW:β w W)=>aF4 db p D m a n 1 0 7 m 6 (lG m a n D.ob) (nw m a n D.ob) W (H.below hW) hO hm ha hn ⟨by decide,by decide⟩ ⟨by decide,hm⟩ (aFd m a n hO.ob).1 aLH (λW' Ex=>aIb D.ob m a n p.sv p.sb 0 W' Ex.sh hO.ob hn.2));have HF:=η H;have aZ:=η hb0;unfold zq K0 Jz;generalize pR D m a n 1 0 7 m 6 (lG m a n D.ob) (nw m a n D.ob)=D' at*;generalize Br D m a (lG m a n D.ob) (nw m a n D.ob)=mv at*;generalize Bq D m a (lG m a n D.ob) (nw m a n D.ob)=me at*;by_cases h1:D.st=1
 case neg=>
  rw [ifN h1] at jR ⊢;rw [ifN h1,ifN h1];go_enter aB3,aBo
  go_wp2_with (go_at_call 51;refine κ jR.o aZ λw1 aR=> ?_)
  go_ret2;exact⟨rfl,aq.bZ HF.o aR.o⟩
 rw [ifP h1] at jR ⊢;rw [ifP h1,ifP h1];go_enter aB3,aBo
 go_upto_region 4 with (go_at_call 51;refine κ jR.o aZ λw4 ar=> ?_)
 have lN:=η (HF.o.below ar.o);have bO:=η (λW (hW:β w4 W)=>(lN.o.below hW).cells.c9);have eI:=η (λW (hW:β w4 W)=>lj.o W (ar.o.trans (hW.mono ar.o.size)));have bP:β w4 w4.drew:=(aX _ _).drew;have hdd:=bO.o _ bP;go_region_held3 (λW=>W.cell? ⟨db,9,aB⟩=aC (π p.sb)) (first|(with_reducible assumption)) (first|(go_at_call 61;refine(xG _).mono ?_;rintro e w5 ⟨rfl,gF⟩;have qK:β w4 w5:=jy (by with_reducible assumption) (gF.mono (gV (by with_reducible assumption)));have hcc:=bO.o _ qK)|(go_at_call 49;refine(Ej m _).mono ?_;rintro e w6 ⟨rfl,tR⟩;have xN:β w4 w6:=jy (by with_reducible assumption) (tR.mono (gV (by with_reducible assumption)));have qw:=bO.o _ xN)|(go_at_call 59;refine(eI.o _ (by with_reducible assumption)).mono ?_;rintro e w7 ⟨rfl,dF⟩;have hcm:=dF.c9))
 all_goals
  have gC:Hid (aq db p D' w w7):=η (aq.trans (bC.bZ _ (ar.o.trans (Below.mono (by with_reducible assumption) ar.o.size))) (λ_ h=> .inl h) ⟨rfl,rfl,rfl,rfl⟩ dF);go_wp2
  go_ret2;exact⟨rfl,gC.o⟩
def E5(L:List Lg)(a:Int):Bool:=decide (yq L a≠0)||(decide (jv L a>kU a)||decide (lY L a>kU a))
def oU(L:List Lg):List Nat->Int->Int
 | [],r=>r
 |a::ks,r=>if E5 L (a:Int)=aO then 2 else if jv L (a:Int)=lY L (a:Int) then oU L ks r else oU L ks 17
theorem aJp(A k:Nat)(h:k<A):(dR A).drop k=k::(dR A).drop (k+1):=by rw [Jd (by simpa using h)];simp
theorem aFE(db:Nat)(p:Dp)(D:Dk)(L:List Lg)(A:Option aj)(c:Nat)(w:aJ)(H:bW w db p D)(hs:aW w w.heap.size A (bA L))(hl:aA L<=100000)(hI:∀x∈L,aL x.n)(Qu:aA D.x.ss<=100000):
 aQ aM 53 #[π db,aH A (aA L) c] w λe w'=>e=aT (ν (oU L (dR (aA D.x.ss+1)) 0))/\β w w':=by
 have qX:=η (λW (hW:β w W) (k:Nat)=>aIP L (k:Int) A c W ((hs.below hW).mono hW.size) hl hI);have c1:=H.cells.c1;obtain⟨ee,he⟩:=xq (oU L (dR (aA D.x.ss+1)) 0);rw [<-he];have wP:Hid (oU L ((dR (aA D.x.ss+1)).drop 0) 0=ee):=η (by rw [he,List.drop_zero]);have aZ:Hid (β w w):=η (aX _ _);generalize (aA D.x.ss)=n at*;go_enter func53,ntmps53
 go_wp2
 go_loopw [5,6,7,8,9,17] (λr _ _ _ _ i wr=>∃(k:Nat) (z:Int),k<=n+1/\i=ν (k:Int)/\r=ν z/\Hid (oU L ((dR (n+1)).drop k) z=ee)/\Hid (β w wr)) (λ_ _ _ _ _ i _=>n+1-(af i).toNat)
 ·exact⟨0,0,bK _,rfl,rfl,wP,aZ⟩
 ·
  obtain⟨k,z,hk,rfl,rfl,HK,HB⟩:=hrel;by_cases hlt:k<n+1
  ·have rz:(k:Int)<(n:Int)+1:=by omega
   have HN:=η (qX.o wr HB.o k);have lh:Hid ((if E5 L (k:Int)=aO then 2 else if jv L (k:Int)=lY L (k:Int) then oU L ((dR (n+1)).drop (k+1)) z else oU L ((dR (n+1)).drop (k+1)) 17)=ee):=η (by rw [<-HK.o,aJp _ _ hlt];rfl);have HW:Hid (E5 L (k:Int)=(decide (yq L (k:Int)≠0)||(decide (jv L (k:Int)>kU (k:Int))||decide (lY L (k:Int)>kU (k:Int))))):=η rfl;have ux:=η (λW=>aEB (k:Int) W);unfold Z1 at HN;generalize E5 L (k:Int)=wb at*;generalize yq L (k:Int)=se at*;generalize jv L (k:Int)=so at*;generalize lY L (k:Int)=sc at*;generalize kU (k:Int)=mo at*;by_cases h1:se=0
   ·subst h1;rw [ifP rfl,ifP rfl] at HN;by_cases h2:so>mo
    ·have HF:Hid (2=ee):=η (by rw [<-lh.o,HW.o,ifP (by simp [h2])]);go_wp2_with (first|(go_at_call 105;refine κ HN.o HB λw1 aR=> ?_)|(go_at_call 106;refine(ux.o _).mono ?_;rintro e w2 ⟨rfl,rfl⟩))
     go_ret;exact⟨cj HF.o,aR.o⟩
    by_cases h3:sc>mo
    ·have HF:Hid (2=ee):=η (by rw [<-lh.o,HW.o,ifP (by simp [h3])]);go_wp2_with (first|(go_at_call 105;refine κ HN.o HB λw1 aR=> ?_)|(go_at_call 106;refine(ux.o _).mono ?_;rintro e w2 ⟨rfl,rfl⟩))
     go_ret;exact⟨cj HF.o,aR.o⟩
    have HWF:Hid (wb=aP):=η (by rw [HW.o];simp;omega);rw [HWF.o,ifN (by simp)] at lh;by_cases h4:so=sc
    ·subst h4;rw [ifP rfl] at lh;go_wp2_with (first|(go_at_call 105;refine κ HN.o HB λw1 aR=> ?_)|(go_at_call 106;refine(ux.o _).mono ?_;rintro e w2 ⟨rfl,rfl⟩))
     go_roundw
     ·exact⟨k+1,z,by omega,by go_num,rfl,lh,aR⟩
     simp [af];omega
    rw [ifN h4] at lh;go_wp2_with (first|(go_at_call 105;refine κ HN.o HB λw1 aR=> ?_)|(go_at_call 106;refine(ux.o _).mono ?_;rintro e w2 ⟨rfl,rfl⟩))
    go_roundw
    ·exact⟨k+1,17,by omega,by go_num,rfl,lh,aR⟩
    simp [af];omega
   have hb:(se==0)=aP:=by simpa using h1
   rw [ifN h1,ifN h1] at HN;have HF:Hid (2=ee):=η (by rw [<-lh.o,HW.o,ifP (by simp [h1])]);go_wp2_with (first|(go_at_call 105;refine κ HN.o HB λw1 aR=> ?_)|(go_at_call 106;refine(ux.o _).mono ?_;rintro e w2 ⟨rfl,rfl⟩))
   go_ret;exact⟨cj HF.o,aR.o⟩
  obtain rfl:k=n+1:=by omega
  have HF:Hid (z=ee):=η (by rw [<-HK.o,List.drop_of_length_le (by simp)];rfl);rw [show ((n+1:Nat):Int)=(n:Int)+1 by omega];go_wp2
  go_ret;exact⟨cj HF.o,HB.o⟩
theorem VB(L:List Lg)(A:Option aj)(c:Nat)(w:aJ)(hs:aW w w.heap.size A (bA L))(hI:∀x∈L,aL x.n)(hl:aA L<=100000):
 aQ aM 67 #[aH A (aA L) c] w λe w'=>e=aT (ν (iY L))/\β w w':=by
 have HS:=η (PY L A c w hs hI hl);generalize iY L=sv at*;generalize dD L=se at*;go_enter func67,ntmps67
 go_wp2_with (go_at_call 129;refine kW HS.o λw1 aR=> ?_)
 go_ret;exact⟨rfl,aR⟩
def KQ(D:Dk)(n:Int):Int:=pS n (balA (aA D.x.ms) (aA D.x.ss+1) D.l 1 0 0)
theorem a2k(db:Nat)(p:Dp)(D:Dk)(n:Int)(w:aJ)(H:bW w db p D)(hn:aL n)(hb:aL (balA (aA D.x.ms) (aA D.x.ss+1) D.l 1 0 0)):
 aQ aM 66 #[π db,ν n] w λe w'=>e=aT (ν (KQ D n))/\β w w':=by
 have ew:=η (λW (hW:β w W)=>zm db p D 1 0 0 W (H.below hW) (by decide) (by decide));have zI:=η (λW=>VA n (balA (aA D.x.ms) (aA D.x.ss+1) D.l 1 0 0) hn hb W);unfold KQ;generalize balA (aA D.x.ms) (aA D.x.ss+1) D.l 1 0 0=bq at*;generalize pS n bq=ov at*;go_enter func66,ntmps66
 go_wp2_with (first|(go_at_call 61;refine kW (xG _) λw2 aV=> ?_)|(go_at_call 46;refine κ (ew.o _ aV.o) aV λw3 ag=> ?_)|(go_at_call 86;refine κ (zI.o _) ag λw4 ar=> ?_))
 go_ret;exact⟨rfl,ar⟩
def di(D:Dk)(a:Int):List Lg:=(D.ob.filter λx=>x.st==1&&tJ (pK a D.who) x).map Ob.claim
theorem MC(db:Nat)(p:Dp)(D:Dk)(a:Int)(w:aJ)(H:bW w db p D)(hO:fY D):
 aQ aM 68 #[π db,ν a] w (Sk w (di D a)):=by
 have ky:aA D.ob<=1000000:=by have:=hO.ob.len;omega
 have Ah:=η (λW (hW:β w W)=>KW D.ob p.sv p.sb 0 W (H.below hW).sh ky);obtain⟨Aw,cw,hv⟩:=bL H.who;have pC:=η (λW (hW:β w W)=>(show aW W W.heap.size Aw (D.who.map (aG aF)) by have h1:=(H.below hW).who;rw [hv] at h1;exact aW.cA h1));have bO:=η (λW (hW:β w W)=>(show W.cell? ⟨db,9,aB⟩=aC (π p.sb)/\W.cell? ⟨db,11,aB⟩=aC (aH Aw (aA D.who) cw) from⟨(H.below hW).cells.c9,by rw [<-hv];exact(H.below hW).cells.c11⟩));have HI:Hid (∀x∈D.ob,aL x.az):=η (λx hx=>by have h:=hO.ob.each x hx;have h1:=h.lo;have h2:=h.hi;unfold fw at h1;unfold aL;omega);have KM:aA D.who<=1000000:=by have:=hO.wl;omega
 go_enter func68,ntmps68
 go_upto_region 1 with (fail)
 have bP:β w w.drew:=(aX _ _).drew;have hdd:=bO.o _ bP;go_region_held3 (λW=>W.cell? ⟨db,9,aB⟩=aC (π p.sb)/\W.cell? ⟨db,11,aB⟩=aC (aH Aw (aA D.who) cw)) (first|(with_reducible assumption)) (first|(go_at_call 43;refine(Ah.o _ ‹_›).mono ?_;rintro e w1 ⟨v1,rfl,eK,hb1⟩;obtain⟨A1,c1,AJ⟩:=bL eK;subst AJ;have dW:β w w1:=jy ‹_› (hb1.mono (gV ‹_›));have hcc:=bO.o _ dW)|(go_at_call 130;refine(aFu D.ob A1 c1 a D.who Aw cw _ (aW.cA eK) ky HI.o (pC.o _ dW) KM).mono ?_;rintro e w2 hg2;obtain⟨v2,h21,h22,h23⟩:=hg2;subst h21;have hb2:=dW.trans (h23.mono dW.size);have hc2:=bO.o _ hb2))
 all_goals
  have dE:=η h22;have aV:=η hb2;have hz2:=dW.size;go_wp2
  go_ret;exact⟨v2,rfl,iC dE.o hz2,aV.o⟩
theorem Q8(D:Dk)(a:Int):aA (di D a)<=aA D.ob:=by unfold di;rw [iV];exact qg _ _
theorem MP {D:Dk}(h:sT D.ob)(a:Int):∀x∈di D a,aL x.n:=by intro x hx;unfold di at hx;obtain⟨y,hy,rfl⟩:=df.1 hx;have h0:=h.each y (jD.1 hy).1;have h1:=h0.lo;have h2:=h0.hi;unfold Ob.claim aL;unfold fw at*;simp only;split<;>omega
theorem SE(L:List Lg):aL (iY L):=by
 unfold iY;split
 ·rename_i h;exact(BS h).2.2
 decide
def yP(D:Dk):Int:=pS (balA (aA D.x.ms) (aA D.x.ss+1) D.l 1 0 0) (iY (di D 0))
def jO(D:Dk)(a:Int):Int:=AX (balA (aA D.x.ms) (aA D.x.ss+1) D.l 1 0 a) (di D a)
theorem aEq(db:Nat)(p:Dp)(D:Dk)(w:aJ)(H:bW w db p D)(hO:fY D)(hb:aL (balA (aA D.x.ms) (aA D.x.ss+1) D.l 1 0 0)):
 aQ aM 135 #[π db] w λe w'=>e=aT (ν (yP D))/\β w w':=by
 have ew:=η (λW (hW:β w W)=>zm db p D 1 0 0 W (H.below hW) (by decide) (by decide));have y9:=η (λW (hW:β w W)=>MC db p D 0 W (H.below hW) hO);have zI:=η (λW=>VA (balA (aA D.x.ms) (aA D.x.ss+1) D.l 1 0 0) (iY (di D 0)) hb (SE _) W);have CX:=η (MP hO.ob 0);have kG:aA (di D 0)<=100000:=by have h1:=Q8 D 0;have h2:=hO.ob.len;omega
 unfold yP;generalize balA (aA D.x.ms) (aA D.x.ss+1) D.l 1 0 0=bq at*;generalize di D 0=L at*;have LS:=η (λW A c (hs:aW W W.heap.size A (bA L))=>VB L A c W hs CX kG);generalize iY L=sv at*;generalize pS bq sv=ov at*;go_enter func135,ntmps135
 go_wp2_with (first|(go_at_call 61;refine kW (xG _) λw2 aV=> ?_)|(go_at_call 46;refine κ (ew.o _ aV.o) aV λw3 ag=> ?_)|(go_at_call 68;refine(y9 _ ag).mono ?_;rintro e w4 ⟨v4,rfl,gG,hb4⟩;have ar:=τ ag hb4;obtain⟨A4,c4,hv4⟩:=bL gG;subst hv4;have dP:=η (aW.cA gG))|(go_at_call 67;refine κ (LS.o _ _ _ dP.o) ar λw5 cV=> ?_)|(go_at_call 86;refine κ (zI.o _) cV λw6 gJ=> ?_))
 go_ret;exact⟨rfl,gJ⟩
theorem VG(db:Nat)(p:Dp)(D:Dk)(a:Int)(w:aJ)(H:bW w db p D)(hO:fY D)(hb:aL (balA (aA D.x.ms) (aA D.x.ss+1) D.l 1 0 a)):
 aQ aM 69 #[π db,ν a] w λe w'=>e=aT (ν (jO D a))/\β w w':=by
 have ew:=η (λW (hW:β w W)=>zm db p D 1 0 a W (H.below hW) (by decide) (by decide));have y9:=η (λW (hW:β w W)=>MC db p D a W (H.below hW) hO);have CX:=η (MP hO.ob a);have kG:aA (di D a)<=100000:=by have h1:=Q8 D a;have h2:=hO.ob.len;omega
 have z8:=η hb;unfold jO;generalize balA (aA D.x.ms) (aA D.x.ss+1) D.l 1 0 a=bq at*;generalize di D a=L at*;have uy:=η (λW A c (hs:aW W W.heap.size A (bA L))=>a7M bq L A c W z8 hs CX kG);generalize AX bq L=sv at*;generalize jM bq L=se at*;go_enter func69,ntmps69
 go_wp2_with (first|(go_at_call 61;refine kW (xG _) λw2 aV=> ?_)|(go_at_call 46;refine κ (ew.o _ aV.o) aV λw3 ag=> ?_)|(go_at_call 68;refine(y9 _ ag).mono ?_;rintro e w4 ⟨v4,rfl,gG,hb4⟩;have ar:=τ ag hb4;obtain⟨A4,c4,hv4⟩:=bL gG;subst hv4;have dP:=η (aW.cA gG))|(go_at_call 131;refine κ (uy.o _ _ _ dP.o) ar λw5 cV=> ?_))
 go_ret;exact⟨rfl,cV⟩
def sL(a n dn:Int)(lost:Bool):Int:=if dn≥n then 2 else if a=0\/lost=aO then 5 else 4
def Bp(n dn:Int):Int:=if dn≥n then n else dn
theorem aF2(db:Nat)(p:Dp)(D:Dk)(m a n dn:Int)(lost:Bool)(w:aJ)(H:bW w db p D)(hO:fY D):
 aQ aM 74 #[bF (aC ⟨db,0,aB⟩),bQ #[aG aF m,aG aF a,aG aF n],aG aF dn,bJ lost] w λe w'=>e=aT (bB #[])/\aq db p {D with ob:=lW m a (sL a n dn lost) (Bp n dn) D.ob} w w':=by
 have aZ:Hid (aY w.heap.size w (w.alloc (aK #[aG aF m,aG aF a,aG aF n] 76))):=η σ;have cY:Hid ((w.alloc (aK #[aG aF m,aG aF a,aG aF n] 76)).heap[w.heap.size]? =aC (aK #[aG aF m,aG aF a,aG aF n] 76 (0,0))):=η (cO w _);have hz0:w.heap.size<(w.alloc (aK #[aG aF m,aG aF a,aG aF n] 76)).heap.size:=by simp
 have HF:=η H;have O9:=η hO.ob;have mi:Hid (∀k,eW db p k->k<w.heap.size):=η (λk hk=>H.tW hk);clear H hO;go_enter func74,ntmps74
 go_upto_region 1 with (fail)
 generalize w.alloc (aK #[aG aF m,aG aF a,aG aF n] 76)=w1 at*;obtain⟨bx,bU⟩:∃bx,bx=w.heap.size:=⟨_,rfl⟩;have dL:=η bU;rw [<-bU] at cY hz0 ⊢;clear bU;have c1:w1.cell? ⟨bx,1,aB⟩=aC (aG aF a):=ρ cY.o;have c2:w1.cell? ⟨bx,2,aB⟩=aC (aG aF n):=ρ cY.o;by_cases h1:dn≥n
 ·have HS:Hid (sL a n dn lost=2):=η (by unfold sL;rw [ifP h1]);have HN:Hid (Bp n dn=n):=η (by unfold Bp;rw [ifP h1]);go_upto_region 3 with (fail)
  go_quiet (fail)
  clear c1 c2;go_upto_region 6 with (fail)
  have aV:Hid (aY w1.heap.size w1 (w1.drewN nq)):=η (below_drewN (aX _ _) nq);have kQ:Hid ((w1.drewN nq).heap[bx]? =aC (aK #[aG aF m,aG aF a,aG aF n] 76 (0,0))):=η cY.o;have hz2:bx<(w1.drewN nq).heap.size:=hz0;have cK:Hid (bW (w1.drewN nq).drew db p D):=η (HF.o.below (aZ.o.trans ((aV.o.mono aZ.o.size).trans ((aX _ _).drew.mono (bz aZ.o.size aV.o.size)))));have iv:Hid (aY w.heap.size w (w1.drewN nq).drew):=η (aZ.o.trans ((aV.o.mono aZ.o.size).trans ((aX _ _).drew.mono (bz aZ.o.size aV.o.size))));have rL:=η (NR D.ob m a 2 n p.sv p.sb 0 (w1.drewN nq).drew cK.o.sh O9.o);have d9:(w1.drewN nq).drew.cell? ⟨db,9,aB⟩=aC (bF (aC ⟨p.sb,0,aB⟩)):=cK.o.cells.c9;have d0:(w1.drewN nq).drew.cell? ⟨bx,0,aB⟩=aC (aG aF m):=ρ kQ.o;have d1:(w1.drewN nq).drew.cell? ⟨bx,1,aB⟩=aC (aG aF a):=ρ kQ.o;have hzd:bx<(w1.drewN nq).drew.heap.size:=hz2;have bX:Hid (¬eW db p bx):=η (λh=>by have:=mi.o bx h;rw [dL.o] at this;omega);go_region_held3 (λW=>W.cell? ⟨db,9,aB⟩=aC (bF (aC ⟨p.sb,0,aB⟩))/\W.cell? ⟨bx,0,aB⟩=aC (aG aF m)/\W.cell? ⟨bx,1,aB⟩=aC (aG aF a)) (first|(with_reducible exact⟨d9,d0,d1⟩)|(with_reducible exact⟨m9,m0,m1⟩)) ((go_at_call 124;refine rL.o.mono ?_;intro e w7 h7;obtain⟨rfl,dF⟩:=cK.o.Fh h7;have m9:=dF.c9;have m0:=(dF.cell 0 hzd bX.o).trans d0;have m1:=(dF.cell 1 hzd bX.o).trans d1))
  have gC:Hid (aq db p {D with ob:=lW m a 2 n D.ob} w w7):=η (aq.trans (bC.bZ _ iv.o) (λ_ h=> .inl h) ⟨rfl,rfl,rfl,rfl⟩ dF);clear dF h7 m9 m0 m1 d9 d0 d1 hzd rL;go_wp2_with fail
  go_end0
  refine⟨rfl, ?_⟩;rw [HS.o,HN.o];exact gC.o
 have HN:Hid (Bp n dn=dn):=η (by unfold Bp;rw [ifN h1]);have uW:dn<n:=by omega
 by_cases h2:a=0
 ·have HS:Hid (sL a n dn lost=5):=η (by unfold sL;rw [ifN h1,ifP (.inl h2)]);subst h2;clear h1;go_upto_region 6 with (fail)
  have aV:Hid (aY w1.heap.size w1 w1):=η (aX _ _);have kQ:Hid (w1.heap[bx]? =aC (aK #[aG aF m,aG aF 0,aG aF n] 76 (0,0))):=η cY.o;have hz2:bx<w1.heap.size:=hz0;have cK:Hid (bW w1.drew db p D):=η (HF.o.below (aZ.o.trans ((aV.o.mono aZ.o.size).trans ((aX _ _).drew.mono (bz aZ.o.size aV.o.size)))));have iv:Hid (aY w.heap.size w w1.drew):=η (aZ.o.trans ((aV.o.mono aZ.o.size).trans ((aX _ _).drew.mono (bz aZ.o.size aV.o.size))));have rL:=η (NR D.ob m 0 5 dn p.sv p.sb 0 w1.drew cK.o.sh O9.o);have d9:w1.drew.cell? ⟨db,9,aB⟩=aC (bF (aC ⟨p.sb,0,aB⟩)):=cK.o.cells.c9;have d0:w1.drew.cell? ⟨bx,0,aB⟩=aC (aG aF m):=ρ kQ.o;have d1:w1.drew.cell? ⟨bx,1,aB⟩=aC (aG aF 0):=ρ kQ.o;have hzd:bx<w1.drew.heap.size:=hz2;have bX:Hid (¬eW db p bx):=η (λh=>by have:=mi.o bx h;rw [dL.o] at this;omega);go_region_held3 (λW=>W.cell? ⟨db,9,aB⟩=aC (bF (aC ⟨p.sb,0,aB⟩))/\W.cell? ⟨bx,0,aB⟩=aC (aG aF m)/\W.cell? ⟨bx,1,aB⟩=aC (aG aF 0)) (first|(with_reducible exact⟨d9,d0,d1⟩)|(with_reducible exact⟨m9,m0,m1⟩)) ((go_at_call 124;refine rL.o.mono ?_;intro e w7 h7;obtain⟨rfl,dF⟩:=cK.o.Fh h7;have m9:=dF.c9;have m0:=(dF.cell 0 hzd bX.o).trans d0;have m1:=(dF.cell 1 hzd bX.o).trans d1))
  have gC:Hid (aq db p {D with ob:=lW m 0 5 dn D.ob} w w7):=η (aq.trans (bC.bZ _ iv.o) (λ_ h=> .inl h) ⟨rfl,rfl,rfl,rfl⟩ dF);clear dF h7 m9 m0 m1 d9 d0 d1 hzd rL;go_wp2_with fail
  go_end0
  refine⟨rfl, ?_⟩;rw [HS.o,HN.o];exact gC.o
 have hb:(a==0)=aP:=by simpa using h2
 cases lost with
 |true=>
  have HS:Hid (sL a n dn aO=5):=η (by unfold sL;rw [ifN h1,ifP (.inr rfl)]);clear h1;go_upto_region 6 with (fail)
  have aV:Hid (aY w1.heap.size w1 w1):=η (aX _ _);have kQ:Hid (w1.heap[bx]? =aC (aK #[aG aF m,aG aF a,aG aF n] 76 (0,0))):=η cY.o;have hz2:bx<w1.heap.size:=hz0;have cK:Hid (bW w1.drew db p D):=η (HF.o.below (aZ.o.trans ((aV.o.mono aZ.o.size).trans ((aX _ _).drew.mono (bz aZ.o.size aV.o.size)))));have iv:Hid (aY w.heap.size w w1.drew):=η (aZ.o.trans ((aV.o.mono aZ.o.size).trans ((aX _ _).drew.mono (bz aZ.o.size aV.o.size))));have rL:=η (NR D.ob m a 5 dn p.sv p.sb 0 w1.drew cK.o.sh O9.o);have d9:w1.drew.cell? ⟨db,9,aB⟩=aC (bF (aC ⟨p.sb,0,aB⟩)):=cK.o.cells.c9;have d0:w1.drew.cell? ⟨bx,0,aB⟩=aC (aG aF m):=ρ kQ.o;have d1:w1.drew.cell? ⟨bx,1,aB⟩=aC (aG aF a):=ρ kQ.o;have hzd:bx<w1.drew.heap.size:=hz2;have bX:Hid (¬eW db p bx):=η (λh=>by have:=mi.o bx h;rw [dL.o] at this;omega);go_region_held3 (λW=>W.cell? ⟨db,9,aB⟩=aC (bF (aC ⟨p.sb,0,aB⟩))/\W.cell? ⟨bx,0,aB⟩=aC (aG aF m)/\W.cell? ⟨bx,1,aB⟩=aC (aG aF a)) (first|(with_reducible exact⟨d9,d0,d1⟩)|(with_reducible exact⟨m9,m0,m1⟩)) ((go_at_call 124;refine rL.o.mono ?_;intro e w7 h7;obtain⟨rfl,dF⟩:=cK.o.Fh h7;have m9:=dF.c9;have m0:=(dF.cell 0 hzd bX.o).trans d0;have m1:=(dF.cell 1 hzd bX.o).trans d1))
  have gC:Hid (aq db p {D with ob:=lW m a 5 dn D.ob} w w7):=η (aq.trans (bC.bZ _ iv.o) (λ_ h=> .inl h) ⟨rfl,rfl,rfl,rfl⟩ dF);clear dF h7 m9 m0 m1 d9 d0 d1 hzd rL;go_wp2_with fail
  go_end0
  refine⟨rfl, ?_⟩;rw [HS.o,HN.o];exact gC.o
 |false=>
  have HS:Hid (sL a n dn aP=4):=η (by unfold sL;rw [ifN h1,ifN (by simp [h2])]);clear h1;go_upto_region 6 with (fail)
  have aV:Hid (aY w1.heap.size w1 w1):=η (aX _ _);have kQ:Hid (w1.heap[bx]? =aC (aK #[aG aF m,aG aF a,aG aF n] 76 (0,0))):=η cY.o;have hz2:bx<w1.heap.size:=hz0;have cK:Hid (bW w1.drew db p D):=η (HF.o.below (aZ.o.trans ((aV.o.mono aZ.o.size).trans ((aX _ _).drew.mono (bz aZ.o.size aV.o.size)))));have iv:Hid (aY w.heap.size w w1.drew):=η (aZ.o.trans ((aV.o.mono aZ.o.size).trans ((aX _ _).drew.mono (bz aZ.o.size aV.o.size))));have rL:=η (NR D.ob m a 4 dn p.sv p.sb 0 w1.drew cK.o.sh O9.o);have d9:w1.drew.cell? ⟨db,9,aB⟩=aC (bF (aC ⟨p.sb,0,aB⟩)):=cK.o.cells.c9;have d0:w1.drew.cell? ⟨bx,0,aB⟩=aC (aG aF m):=ρ kQ.o;have d1:w1.drew.cell? ⟨bx,1,aB⟩=aC (aG aF a):=ρ kQ.o;have hzd:bx<w1.drew.heap.size:=hz2;have bX:Hid (¬eW db p bx):=η (λh=>by have:=mi.o bx h;rw [dL.o] at this;omega);go_region_held3 (λW=>W.cell? ⟨db,9,aB⟩=aC (bF (aC ⟨p.sb,0,aB⟩))/\W.cell? ⟨bx,0,aB⟩=aC (aG aF m)/\W.cell? ⟨bx,1,aB⟩=aC (aG aF a)) (first|(with_reducible exact⟨d9,d0,d1⟩)|(with_reducible exact⟨m9,m0,m1⟩)) ((go_at_call 124;refine rL.o.mono ?_;intro e w7 h7;obtain⟨rfl,dF⟩:=cK.o.Fh h7;have m9:=dF.c9;have m0:=(dF.cell 0 hzd bX.o).trans d0;have m1:=(dF.cell 1 hzd bX.o).trans d1))
  have gC:Hid (aq db p {D with ob:=lW m a 4 dn D.ob} w w7):=η (aq.trans (bC.bZ _ iv.o) (λ_ h=> .inl h) ⟨rfl,rfl,rfl,rfl⟩ dF);clear dF h7 m9 m0 m1 d9 d0 d1 hzd rL;go_wp2_with fail
  go_end0
  refine⟨rfl, ?_⟩;rw [HS.o,HN.o];exact gC.o
def leave1(D:Dk)(a:Int):Dk:=if 0<balA (aA D.x.ms) (aA D.x.ss+1) D.l 1 0 a then {D with l:=bj D 1 0 2 0 a (balA (aA D.x.ms) (aA D.x.ss+1) D.l 1 0 a),log:=D.log++ [⟨16,0,a,balA (aA D.x.ms) (aA D.x.ss+1) D.l 1 0 a,0⟩]} else D
def leaveD(D:Dk):Nat->Dk
 |0=>D
 |k+1=>leave1 (leaveD D k) (k:Int)
theorem aHc(D:Dk)(k:Nat):(leaveD D k).x=D.x:=by
 induction k with
 |zero=>rfl
 |succ k ih=>unfold leaveD leave1;split<;>exact ih
theorem aF0(db:Nat)(p:Dp)(D:Dk)(w:aJ)(H:bW w db p D)(hO:∀k,k<=aA D.x.ss+1->fY (leaveD D k))(hI:∀k,k<=aA D.x.ss->aL (balA (aA D.x.ms) (aA D.x.ss+1) (leaveD D k).l 1 0 (k:Int)))(Qu:aA D.x.ss<=100000):
 aQ aM 76 #[π db] w λe w'=>e=aT (bB #[])/\aq db p (leaveD D (aA D.x.ss+1)) w w':=by
 have HO:=η hO;have HI:=η hI;have c1:=H.cells.c1;have ie:Hid (aq db p (leaveD D 0) w w):=η (aq.refl H);have HX:Hid (∀k,(leaveD D k).x=D.x):=η (aHc D);obtain⟨n,hn⟩:∃n,n=aA D.x.ss:=⟨_,rfl⟩;have HN:=η hn;rw [<-hn] at HO HI c1 Qu ⊢;clear H hO hI hn;go_enter func76,ntmps76
 go_wp2_with fail
 go_loopw [2,3,11] (λ_ _ i wr=>∃k:Nat,k<=n+1/\i=ν (k:Int)/\Hid (aq db p (leaveD D k) w wr)) (λ_ _ i _=>n+1-(af i).toNat)
 case atStart=>exact⟨0,bK _,rfl,ie⟩
 case round=>
  clear ie;obtain⟨k,hk,rfl,HP⟩:=hrel;by_cases hlt:k<n+1
  ·have rz:(k:Int)<(n:Int)+1:=by omega
   obtain⟨p1,h1,e1,e2,e3,e4,dA,hs1⟩:=HP.o;have HF:=η h1;have HT:Hid (∀W D2,aq db p1 D2 wr W->aq db p D2 w W):=η (λW D2 h=>aq.trans dA hs1 ⟨e1,e2,e3,e4⟩ h);have HL:Hid (leaveD D (k+1)=leave1 (leaveD D k) (k:Int)):=η rfl;have dQ:=η (HO.o k hk);have K8:=HI.o k (by omega);rw [HN.o,<-HX.o k] at K8;have QF:aL (k:Int):=by unfold aL;omega
   clear h1 e1 e2 e3 e4 dA hs1 HP;generalize leaveD D k=E at*;have ew:=η (λW (hW:β wr W)=>zm db p1 E 1 0 (k:Int) W (HF.o.below hW) (by decide) (by decide));have uw:Hid (leave1 E (k:Int)=if 0<balA (aA E.x.ms) (aA E.x.ss+1) E.l 1 0 (k:Int) then {E with l:=bj E 1 0 2 0 (k:Int) (balA (aA E.x.ms) (aA E.x.ss+1) E.l 1 0 (k:Int)),log:=E.log++ [⟨16,0,(k:Int),balA (aA E.x.ms) (aA E.x.ss+1) E.l 1 0 (k:Int),0⟩]} else E):=η rfl;generalize balA (aA E.x.ms) (aA E.x.ss+1) E.l 1 0 (k:Int)=bq at*;have z8:=η K8;by_cases hb:0<bq
   ·go_upto_region 5 with (first|(go_at_call 61;refine(xG _).mono ?_;rintro e w2 ⟨rfl,hb2⟩;have aV:=η hb2;clear hb2)|(go_at_call 46;refine(ew.o _ aV.o).mono ?_;rintro e w4 ⟨rfl,hb3⟩;have ar:=τ aV hb3;clear hb3))
    have lN:=η (HF.o.below ar.o);have lj:=η (λW (hW:β w4 W)=>Hb db p1 E 1 0 2 0 (k:Int) bq W (lN.o.below hW) dQ.o ⟨by decide,by decide⟩ ⟨by decide,by decide⟩ QF z8.o (by omega));have bO:=η (λW (hW:β w4 W)=>(lN.o.below hW).cells.c8);have bP:β w4 w4.drew:=(aX _ _).drew;have hdd:=bO.o _ bP;go_region_held3 (λW=>W.cell? ⟨db,8,aB⟩=aC (π p1.vb)) (first|(with_reducible assumption)) (first|(go_at_call 61;refine(xG _).mono ?_;rintro e w5 ⟨rfl,gF⟩;have qK:β w4 w5:=jy (by with_reducible assumption) (gF.mono (gV (by with_reducible assumption)));have hcc:=bO.o _ qK)|(go_at_call 87;refine(lj.o _ (by with_reducible assumption)).mono ?_;rintro e w7 ⟨rfl,dF,hcm⟩))
    have gC:Hid (aq db p1 {E with l:=bj E 1 0 2 0 (k:Int) bq} wr w7):=η (aq.trans (bC.bZ _ (ar.o.trans (Below.mono (by with_reducible assumption) ar.o.size))) (λ_ h=> .inl h) ⟨rfl,rfl,rfl,rfl⟩ dF);clear dF hcm gF qK hcc bP hdd lj bO lN ar aV;obtain⟨p4,H4,e1,e2,e3,e4,qO,j6⟩:=gC.o;have kY:=η (H4.below ((aX w7.heap.size w7).alloc (aa _) (aK #[ν 16,ν 0,ν (k:Int),ν bq,ν 0] 45)));have kZ:=η (xK db p4 {E with l:=bj E 1 0 2 0 (k:Int) bq} [⟨16,0,(k:Int),bq,0⟩] w7.heap.size 1 _ kY.o (dK w7 45 #[ν 16,ν 0,ν (k:Int),ν bq,ν 0] rfl) (by simp) (by simp) (by have:=dQ.o.gl;simp only;omega));have pd:Hid (∀W,aq db p4 {E with l:=bj E 1 0 2 0 (k:Int) bq,log:=E.log++ [⟨16,0,(k:Int),bq,0⟩]} (w7.alloc (aK #[ν 16,ν 0,ν (k:Int),ν bq,ν 0] 45)) W->aq db p (leaveD D (k+1)) w W):=η (λW h=>by rw [HL.o,uw.o,ifP hb];exact HT.o W _ (aq.trans qO j6 ⟨e1,e2,e3,e4⟩ (aq.trans (bC.bZ _ σ) (λ_ h=> .inl h) ⟨rfl,rfl,rfl,rfl⟩ h)));clear H4 e1 e2 e3 e4 qO j6 gC;go_wp2_with (go_at_call 55;refine kZ.o.mono ?_;rintro e w8 ⟨rfl,h8⟩;have dw:=η (pd.o _ h8);clear h8)
    go_roundw
    case rel=>exact⟨k+1,by omega,by go_num,dw⟩
    case measure=>simp [af];omega
   go_wp2_with (first|(go_at_call 61;refine(xG _).mono ?_;rintro e w2 ⟨rfl,hb2⟩;have aV:=η hb2;clear hb2)|(go_at_call 46;refine(ew.o _ aV.o).mono ?_;rintro e w4 ⟨rfl,hb3⟩;have ar:=τ aV hb3;clear hb3))
   have dw:Hid (aq db p (leaveD D (k+1)) w w4):=η (by rw [HL.o,uw.o,ifN (by omega)];exact HT.o _ _ (aq.bZ HF.o ar.o));go_roundw
   case rel=>exact⟨k+1,by omega,by go_num,dw⟩
   case measure=>simp [af];omega
  obtain rfl:k=n+1:=by omega
  rw [show ((n+1:Nat):Int)=(n:Int)+1 by omega];go_wp2_with fail
  go_end0
  exact⟨rfl,HP.o⟩
def Hk(D:Dk)(x:Lg):Dk:= {D with l:=bj D 1 0 7 x.m x.a x.n,log:=D.log++ [⟨13,x.m,x.a,x.n,0⟩]}
def iz(D:Dk)(L:List Lg):Dk:=L.foldl Hk D
theorem aFp {D:Dk} {L:List Lg} {k:Nat}(h:k<aA L):iz D (L.take (k+1))=Hk (iz D (L.take k)) L[k]:=by rw [fF h];unfold iz;rw [List.foldl_append];rfl
theorem a2f(db:Nat)(p:Dp)(D:Dk)(L:List Lg)(A:Option aj)(c:Nat)(w:aJ)(H:bW w db p D)(hs:aW w w.heap.size A (bA L))(hA:bA L≠ []->∀q,A=aC q->¬eW db p q.block)(hO:∀k,k<=aA L->fY (iz D (L.take k)))(hI:∀x∈L,aL x.m/\aL x.a/\aL x.n/\0<=x.n)(hl:aA L<=100000):
 aQ aM 138 #[π db,aH A (aA L) c] w λe w'=>e=aT (bB #[])/\aq db p (iz D L) w w':=by
 have HO:=η hO;have HI:=η hI;have ie:Hid (aq db p (iz D (L.take 0)) w w):=η (aq.refl H);have BH:Hid (∀W D2,aq db p D2 w W->aW W W.heap.size A (bA L)):=η (λW D2 h=>by obtain⟨_,_,_,_,_,_,hu,_⟩:=h;exact hu.dt hs hA);clear H hs hA hO hI;go_enter func138,ntmps138
 go_wp2_with fail
 go_loopw [5,8] (λ_ i wr=>∃k:Nat,k<=aA L/\i=ν (k:Int)/\Hid (aq db p (iz D (L.take k)) w wr)) (λ_ i _=>aA L-(af i).toNat)
 case atStart=>exact⟨0,bK _,rfl,ie⟩
 case round=>
  clear ie;obtain⟨k,hk,rfl,HP⟩:=hrel;by_cases hlt:k<aA L
  ·obtain⟨bl,ol,jn,hbl,l0,l1,l2⟩:=oM (BH.o _ _ HP.o) hlt;have eY:(0:Int)<=(k:Int):=by omega
   have hkb:(k:Int)<(aA L:Int):=by omega
   obtain⟨p1,h1,e1,e2,e3,e4,dA,hs1⟩:=HP.o;have HF:=η h1;have mi:Hid (∀j,eW db p1 j->j<wr.heap.size):=η (λj hj=>h1.tW hj);have HT:Hid (∀W D2,aq db p1 D2 wr W->aq db p D2 w W):=η (λW D2 h=>aq.trans dA hs1 ⟨e1,e2,e3,e4⟩ h);have HL:=η (aFp (D:=D) hlt);have dQ:=η (HO.o k hk);obtain⟨qL,qM,ry,vX⟩:=HI.o _ (cH hlt);clear h1 e1 e2 e3 e4 dA hs1 HP;subst jn;generalize iz D (L.take k)=E at*;generalize L[k]=x at*;obtain⟨xm,xa,xn⟩:=x;simp only at l0 l1 l2 qL qM ry vX;have oZ:=η (kX qL (kX qM (kX ry vX)));have uw:Hid (Hk E ⟨xm,xa,xn⟩= {E with l:=bj E 1 0 7 xm xa xn,log:=E.log++ [⟨13,xm,xa,xn,0⟩]}):=η rfl;have ar:Hid (β wr (wr.alloc (aK #[ν xm,ν xa,ν xn] 76))):=η σ;have pD:Hid ((wr.alloc (aK #[ν xm,ν xa,ν xn] 76)).heap[wr.heap.size]? =aC (aK #[ν xm,ν xa,ν xn] 76 (0,0))):=η (cO wr _);have mW:wr.heap.size<(wr.alloc (aK #[ν xm,ν xa,ν xn] 76)).heap.size:=by simp
   clear qL qM ry vX;go_upto_region 3 with (fail)
   generalize wr.alloc (aK #[ν xm,ν xa,ν xn] 76)=w4 at*;obtain⟨bx,bU⟩:∃bx,bx=wr.heap.size:=⟨_,rfl⟩;have dL:=η bU;rw [<-bU] at pD mW ⊢;clear bU;have lN:=η (HF.o.below ar.o);have bX:Hid (¬eW db p1 bx):=η (λh=>by have:=mi.o bx h;rw [dL.o] at this;omega);have lj:=η (λW (hW:β w4 W)=>Hb db p1 E 1 0 7 xm xa xn W (lN.o.below hW) dQ.o ⟨by decide,by decide⟩ ⟨by decide,oZ.o.1⟩ oZ.o.2.1 oZ.o.2.2.1 oZ.o.2.2.2);have bO:Hid (∀W,β w4 W->W.cell? ⟨db,8,aB⟩=aC (π p1.vb)/\W.cell? ⟨bx,0,aB⟩=aC (ν xm)/\W.cell? ⟨bx,1,aB⟩=aC (ν xa)/\W.cell? ⟨bx,2,aB⟩=aC (ν xn)):=η (λW hW=>by have hd:=(hW.block bx mW).trans pD.o;exact⟨(lN.o.below hW).cells.c8,ρ hd,ρ hd,ρ hd⟩);have LD:Hid (∀W W',β w4 W->aq db p1 {E with l:=bj E 1 0 7 xm xa xn} W W'->W'.cell? ⟨db,8,aB⟩=aC (π p1.vb)->W'.cell? ⟨db,8,aB⟩=aC (π p1.vb)/\W'.cell? ⟨bx,0,aB⟩=aC (ν xm)/\W'.cell? ⟨bx,1,aB⟩=aC (ν xa)/\W'.cell? ⟨bx,2,aB⟩=aC (ν xn)):=η (λW W' hW h h8=>by have hz:=cP mW hW.size;obtain⟨_,q0,q1,q2⟩:=bO.o W hW;exact⟨h8,(h.cell 0 hz bX.o).trans q0,(h.cell 1 hz bX.o).trans q1,(h.cell 2 hz bX.o).trans q2⟩);have bP:β w4 w4.drew:=(aX _ _).drew;have hdd:=bO.o _ bP;go_region_held3 (λW=>W.cell? ⟨db,8,aB⟩=aC (π p1.vb)/\W.cell? ⟨bx,0,aB⟩=aC (ν xm)/\W.cell? ⟨bx,1,aB⟩=aC (ν xa)/\W.cell? ⟨bx,2,aB⟩=aC (ν xn)) (first|(with_reducible assumption)) (first|(go_at_call 61;refine(xG _).mono ?_;rintro e w5 ⟨rfl,gF⟩;have qK:β w4 w5:=jy (by with_reducible assumption) (gF.mono (gV (by with_reducible assumption)));have hcc:=bO.o _ qK)|(go_at_call 49;refine(Ej xm _).mono ?_;rintro e w6 ⟨rfl,tR⟩;have xN:β w4 w6:=jy (by with_reducible assumption) (tR.mono (gV (by with_reducible assumption)));have qw:=bO.o _ xN)|(go_at_call 87;refine(lj.o _ (by with_reducible assumption)).mono ?_;rintro e w7 ⟨rfl,dF,hcm⟩;have AB:=LD.o _ _ (by with_reducible assumption) dF hcm))
   all_goals
    have gC:Hid (aq db p1 {E with l:=bj E 1 0 7 xm xa xn} wr w7):=η (aq.trans (bC.bZ _ (ar.o.trans (Below.mono (by with_reducible assumption) ar.o.size))) (λ_ h=> .inl h) ⟨rfl,rfl,rfl,rfl⟩ dF);obtain⟨_,m0,m1,m2⟩:=AB;clear dF hcm gF qK hcc tR xN qw bP hdd lj bO lN ar LD pD mW;obtain⟨p4,H4,e1,e2,e3,e4,qO,j6⟩:=gC.o;have kY:=η (H4.below ((aX w7.heap.size w7).alloc (aa _) (aK #[ν 13,ν xm,ν xa,ν xn,ν 0] 45)));have kZ:=η (xK db p4 {E with l:=bj E 1 0 7 xm xa xn} [⟨13,xm,xa,xn,0⟩] w7.heap.size 1 _ kY.o (dK w7 45 #[ν 13,ν xm,ν xa,ν xn,ν 0] rfl) (by simp) (by simp) (by have:=dQ.o.gl;simp only;omega));have pd:Hid (∀W,aq db p4 {E with l:=bj E 1 0 7 xm xa xn,log:=E.log++ [⟨13,xm,xa,xn,0⟩]} (w7.alloc (aK #[ν 13,ν xm,ν xa,ν xn,ν 0] 45)) W->aq db p (iz D (L.take (k+1))) w W):=η (λW h=>by rw [HL.o,uw.o];exact HT.o W _ (aq.trans qO j6 ⟨e1,e2,e3,e4⟩ (aq.trans (bC.bZ _ σ) (λ_ h=> .inl h) ⟨rfl,rfl,rfl,rfl⟩ h)));clear H4 e1 e2 e3 e4 qO j6 gC;go_wp2_with (go_at_call 55;refine kZ.o.mono ?_;rintro e w8 ⟨rfl,h8⟩;have dw:=η (pd.o _ h8);clear h8)
    go_roundw
    case rel=>exact⟨k+1,by omega,by go_num,dw⟩
    case measure=>simp [af];omega
  obtain rfl:k=aA L:=by omega
  rw [cT] at HP;go_wp2_with fail
  go_end0
  exact⟨rfl,HP.o⟩
def kE(D:Dk)(kd:Int)(L:List Lg):Dk:= {D with log:=D.log++L.map λx=>(⟨kd,x.m,x.a,x.n,0⟩:Ev)}
theorem a2z {D:Dk} {kd:Int} {L:List Lg} {k:Nat}(h:k<aA L):kE D kd (L.take (k+1))= {kE D kd (L.take k) with log:=(kE D kd (L.take k)).log++ [⟨kd,L[k].m,L[k].a,L[k].n,0⟩]}:=by rw [fF h];unfold kE;simp only [dZ,yM,List.map_nil,List.append_assoc]
theorem a2B(db:Nat)(p:Dp)(D:Dk)(L:List Lg)(kd:Int)(A:Option aj)(c:Nat)(w:aJ)(H:bW w db p D)(hs:aW w w.heap.size A (bA L))(hA:bA L≠ []->∀q,A=aC q->¬eW db p q.block)(hg:aA D.log+aA L<=90000)(hl:aA L<=80000):
 aQ aM 139 #[aH A (aA L) c,ν kd,.func (.func 55) #[π db] #[]] w λe w'=>e=aT (bB #[])/\aq db p (kE D kd L) w w':=by
 have ie:Hid (aq db p (kE D kd (L.take 0)) w w):=η (by
  have e:kE D kd (L.take 0)=D:=by unfold kE;simp
  rw [e];exact aq.refl H)
 have BH:Hid (∀W D2,aq db p D2 w W->aW W W.heap.size A (bA L)):=η (λW D2 h=>by obtain⟨_,_,_,_,_,_,hu,_⟩:=h;exact hu.dt hs hA);go_enter func139,ntmps139
 go_wp2
 go_loopw [7,10] (λ_ i wr=>∃k:Nat,k<=aA L/\i=ν (k:Int)/\Hid (aq db p (kE D kd (L.take k)) w wr)) (λ_ i _=>aA L-(af i).toNat)
 ·exact⟨0,bK _,rfl,ie⟩
 ·
  obtain⟨k,hk,rfl,HP⟩:=hrel;by_cases hlt:k<aA L
  ·obtain⟨bl,ol,jn,hbl,l0,l1,l2⟩:=oM (BH.o _ _ HP.o) hlt;have eY:(0:Int)<=(k:Int):=by omega
   have hkb:(k:Int)<(aA L:Int):=by omega
   have kG:(kE D kd (L.take k)).log.length<=100000:=by unfold kE;simp only [cN,iV,vD];omega
   obtain⟨p1,h1,e1,e2,e3,e4,dA,hs1⟩:=HP.o;have HF:=η h1;have HT:Hid (∀W D2,aq db p1 D2 wr W->aq db p D2 w W):=η (λW D2 h=>aq.trans dA hs1 ⟨e1,e2,e3,e4⟩ h);have HL:=η (a2z (D:=D) (kd:=kd) hlt);subst jn;generalize kE D kd (L.take k)=E at*;generalize L[k]=x at*;obtain⟨xm,xa,xn⟩:=x;simp only at l0 l1 l2;have mf:Hid (β wr ((wr.alloc (aK #[ν xm,ν xa,ν xn] 76)).alloc (aK #[ν kd,ν xm,ν xa,ν xn,ν 0] 45))):=η (σ.alloc (by simp) _);have kY:=η (HF.o.below mf.o);have kZ:=η (xK db p1 E [⟨kd,xm,xa,xn,0⟩] (wr.heap.size+1) 1 _ kY.o (dK (wr.alloc (aK #[ν xm,ν xa,ν xn] 76)) 45 #[ν kd,ν xm,ν xa,ν xn,ν 0] (by simp)) (by simp) (by simp) (by omega));have pd:Hid (∀W,aq db p1 {E with log:=E.log++ [⟨kd,xm,xa,xn,0⟩]} ((wr.alloc (aK #[ν xm,ν xa,ν xn] 76)).alloc (aK #[ν kd,ν xm,ν xa,ν xn,ν 0] 45)) W->aq db p (kE D kd (L.take (k+1))) w W):=η (λW h=>by rw [HL.o];exact HT.o W _ (aq.trans (bC.bZ _ mf.o) (λ_ h=> .inl h) ⟨rfl,rfl,rfl,rfl⟩ h));go_wp2_with (go_at_call 55;refine kZ.o.mono ?_;rintro e w8 ⟨rfl,h8⟩;have dw:=η (pd.o _ h8))
   go_roundw
   ·exact⟨k+1,by omega,by go_num,dw⟩
   simp [af];omega
  obtain rfl:k=aA L:=by omega
  rw [cT] at HP;go_wp2
  go_end0
  exact⟨rfl,HP.o⟩
section
variable {F:Fence} {n:Nat} {P:Program} {β:Type}
def Hands(F:Fence)(n:Nat)(P:Program)(g:Nat)(lb:Array aN)(Hd:aN->β->aJ->Prop)(Kp:aJ->aJ->Prop)(ys:List β)(w:aJ):Prop:=
 ∀(l:Nat) (J:List β->aJ->Prop) (W:aJ),aY w.heap.size w W->AbidesFrom W.heap.size J->
  (∀pre y v W1,J pre W1->Hd v y W1->(pre++ [y])<+:ys->YieldAt F (n-1) P l #[v] W1 λe W'=>e=aT (bJ aO)/\J (pre++ [y]) W'/\Kp W1 W')->
  J [] W->
  CallsIn F n P g (#[.func (.yield l) #[] #[]]++lb) W λe W'=>(∃v,e=aT v)/\J ys W'
def a3w(Kp:aJ->aJ->Prop)(I:List β->aJ->Prop)(ys:List β)(W:aJ):Exit->Act->aJ->Prop
 | .normal,_,W'=>KeepsOthers W W'/\Kp W W'/\I ys W'
 |_,_,_=>False
theorem a8T {g:Operand} {t:Tmp} {assign body:Code} {Q:Exit->Act->aJ->Prop} {a:Act} {w:aJ}
 (hro:F.round=aB) (h1:1<=n) {gf:Nat} {lb:Array aN} (hg:a.eval g= .func (.func gf) #[] lb) (hFg:F.fn gf) (eg:∀args w,(callFunc gf args).run P w= .ok (.enter gf args) w)
 {Hd:aN->β->aJ->Prop} {Kp:aJ->aJ->Prop} {ys:List β} {w0:aJ} (hseq:Hands F (n-1) P gf lb Hd Kp ys w0)
 (hKt:∀ {A B C:aJ},Kp A B->Kp B C->Kp A C) (hKb:∀(W:aJ) (l:Nat) (o o':Obj),w.heap.size<=l->W.heap[l]? =aC o->o.isCells=aP->o.isWalk=aP->Kp W (W.putObj l o')) (hb0:aY w0.heap.size w0 w)
 (hHd:∀(v:aN) (y:β) (W:aJ) (l:Nat) (o o':Obj),Hd v y W->W.heap[l]? =aC o->o.isCells=aP->Hd v y (W.putObj l o'))
 (I:List β->aJ->Prop) (hI:OwnFrom w.heap.size I) (h0:I [] w) (a₁:aN->Act)
 (aGA:∀(l:Nat) (v:aN) (W:aJ) (K:Act->aJ->Prop),K (a₁ v) W->assign.wpIn (F.inRound l) (n-1-1) P (Exit.then K (λ_ _ _=>False)) {tmps:=a.tmps.setIfInBounds t v,defers:= []} W)
 (aGE:∀(l:Nat) (pre:List β) (y:β) (v:aN) (W:aJ),I pre W->Hd v y W->(pre++ [y])<+:ys->body.wpIn (F.inRound l) (n-1-1) P (a3w Kp I (pre++ [y]) W) (a₁ v) W)
 (hdone:∀(D:Nat) (W:aJ),w.heap.size<=D->I ys W->W.heap[D]? =aC (.deferred (aC []))->Q .normal {a with defers:= {target:= .collected D,args:= #[]}::a.defers} W):
 (Code.rangeFunc g #[t] assign body).wpIn F n P Q a w:=by
 refine wpIn_rangeFunc ?_;intro fn hfn;rw [hro];obtain⟨rec,FO⟩:∃rec:LoopState->Option Code->Loop,rec=λst pe=> {state:=st,pending:=pe,fn,tmps:=a.tmps,params:= #[t],assign,body,defers:=w.heap.size}:=⟨_,rfl⟩
 obtain⟨W1,hW1⟩:∃W1,(w.alloc (.deferred (aC []))).alloc (.loop (rec .ready aB))=W1:=⟨_,rfl⟩;have hz1:W1.heap.size=w.heap.size+2:=by rw [<-hW1];simp
 have hL1:W1.heap[w.heap.size+1]? =aC (.loop (rec .ready aB)):=by rw [<-hW1];exact Mj _ _ (by simp)
 have QG:W1.heap[w.heap.size]? =aC (.deferred (aC [])):=by rw [<-hW1];exact(fG _ _ (by simp)).trans (Mj w _ rfl)
 have DV:I [] W1:=by rw [<-hW1];exact hI.alloc _ (hI.alloc _ h0)
 have hb1:aY w0.heap.size w0 W1:=by rw [<-hW1];exact hb0.trans ((((aX _ w).alloc (aa _) _).alloc (by simp) _).mono hb0.size)
 refine⟨w.heap.size+1,[{target:= .collected w.heap.size,args:= #[]}],W1, {target:= .fn (.func gf) lb,args:= #[.func (.yield (w.heap.size+1)) #[] #[]]},W1,gf,
  #[.func (.yield (w.heap.size+1)) #[] #[]]++lb,W1, ?_, ?_, ?_, ?_,λ_=>h1, ?_⟩
 ·rw [<-hW1,FO];exact run_enterLoop_outer _ _ _ _ _
 ·simp only [resolve,hg];simp [go_sem]
 ·intro f' hf';simp [Target.leads] at hf';subst hf';exact hFg
 ·simp [invoke,go_sem,eg]
 have hw:∀ {A:aJ} {row:Option Nat},(∀r,row=aC r->W1.heap.size<=r/\∃o:Obj,A.heap[r]? =aC o/\o.isWalk=aO)->(∀r,row=aC r->w.heap.size<=r/\∃o:Obj,A.heap[r]? =aC o/\o.isCells=aP):=
  λhr r e=>by obtain⟨hB,o,ho,hx⟩:=hr r e;exact⟨by omega,o,ho,Obj.not_cells_of_walk hx⟩
 refine(hseq (w.heap.size+1)
  (λpre W=>I pre W/\W.heap[w.heap.size+1]? =aC (.loop (rec .ready aB))/\W.heap[w.heap.size]? =aC (.deferred (aC [])))
  W1 hb1
  (λs A B row hs Bb hr=>⟨hI s A B row hs.1 Bb (hw hr),(grownBy_keeps Bb (λr e=>(hr r e).2) hs.2.1 rfl).trans hs.2.1,(grownBy_keeps Bb (λr e=>(hr r e).2) hs.2.2 rfl).trans hs.2.2⟩)
  ?_ ⟨DV,hL1,QG⟩).mono ?_
 ·rintro pre y v W ⟨hi,hl,hk⟩ hd Wm;have hlt:w.heap.size+1<W.heap.size:=(fX.1 hl).1;have hy:=run_yield (P:=P) (args:= #[v]) hl (by rw [FO];rfl);rw [FO] at hy;refine⟨fn,_,assign,body,hy,roundIn_of_wpIn hfn ?_⟩;have NC:∀ts:Array aN,((#[t]:Array Tmp).zip #[v]).foldl (λts (x:Tmp×aN)=>match x with|(p,u)=>ts.setIfInBounds p u) ts=ts.setIfInBounds t v:=λts=>by simp
  dsimp only
  rw [NC];refine aGA _ v W _ ?_;refine⟨_,run_beginRound hl (by rw [FO]), ?_⟩;obtain⟨busy,Vr⟩:∃o:Obj,o= .loop {rec .ready aB with state:= .busy}:=⟨_,rfl⟩;have hl2:(W.putObj (w.heap.size+1) busy).heap[w.heap.size+1]? =aC busy:=aCL hlt;have hk2:(W.putObj (w.heap.size+1) busy).heap[w.heap.size]? =aC (.deferred (aC [])):=(PR (by omega)).trans hk;have hw2:Kp W (W.putObj (w.heap.size+1) busy):=hKb _ _ _ _ (by omega) hl rfl rfl;rw [<-Vr];refine wpIn_mono (aGE _ pre y v _ (hI.putObj _ hi (by omega) hl rfl) (hHd _ _ _ _ _ _ hd hl rfl) Wm) ?_;rintro e a3 W3 hp;cases e with
  |normal=>
   obtain⟨hk3,aGZ,ry⟩:=hp;have Mn:=hk3.same _ _ hl2 (by rw [Vr];rfl);rw [Vr] at Mn;have hr:=run_endRound (P:=P) aB Mn;rw [FO] at hr;refine⟨_,_,hr, ?_⟩;refine⟨rfl,⟨hI.putObj _ ry (by omega) Mn rfl, ?_,(PR (by omega)).trans (hk3.same _ _ hk2 rfl)⟩,hKt (hKt hw2 aGZ) (hKb _ _ _ _ (by omega) Mn rfl rfl)⟩;rw [aCL (fX.1 Mn).1,FO];rfl
  |_=>exact hp.elim
 rintro e W2 ⟨⟨v,rfl⟩,hi,hl,hk⟩;exact⟨aB,_,by have:=run_endLoop (P:=P) hl (by rw [FO];simp);rw [FO] at this;exact this,hdone _ _ (aa _) (hI.putObj _ hi (by omega) hl rfl) ((PR (by omega)).trans hk)⟩
end
section
open Go.Shelf
attribute [local go_sem] Oper.semAt_some
structure cB where
 co:List Int
 Ac:Option aj
 cc:Nat
 fu:List Int
 Af:Option aj
 cf:Nat
 line:Int
 cap:Int
structure ig(n1 bo bp:Nat)(W W':aJ):Prop where
 size:W.heap.size<=W'.heap.size
 keep:∀k,(k<n1\/k=bo\/k=bp)->k<W.heap.size->W'.heap[k]? =W.heap[k]?
theorem ig.refl(n1 bo bp:Nat)(W:aJ):ig n1 bo bp W W:=⟨aa _,λ_ _ _=>rfl⟩
theorem ig.trans {n1 bo bp:Nat} {A B C:aJ}(h:ig n1 bo bp A B)(k:ig n1 bo bp B C):ig n1 bo bp A C:=
 ⟨bz h.size k.size,λj hj hl=>(k.keep j hj (cP hl h.size)).trans (h.keep j hj hl)⟩
theorem ig.bZ {n1 bo bp:Nat} {W W':aJ}(h:aY W.heap.size W W'):ig n1 bo bp W W':=⟨h.size,λj _ hl=>h.block j hl⟩
theorem ig.alloc {n1 bo bp:Nat} {W W':aJ}(h:ig n1 bo bp W W')(o:Obj):ig n1 bo bp W (W'.alloc o):=h.trans (.bZ ((aX _ _).alloc (aa _) o))
structure Ll(n0:Nat)(W:aJ)(bo bp:Nat)(p:cB)(os:List Int)(Ao:Option aj)(ko:Nat):Prop where
 o:W.cell? ⟨bo,0,aB⟩=aC (aH Ao (aA os) ko)
 c0:W.cell? ⟨bp,0,aB⟩=aC (aH p.Ac (aA p.co) p.cc)
 c1:W.cell? ⟨bp,1,aB⟩=aC (aH p.Af (aA p.fu) p.cf)
 c2:W.cell? ⟨bp,2,aB⟩=aC (ν p.line)
 c3:W.cell? ⟨bp,3,aB⟩=aC (ν p.cap)
 so:aW W n0 Ao (os.map (aG aF))
 sc:aW W n0 p.Ac (p.co.map (aG aF))
 sf:aW W n0 p.Af (p.fu.map (aG aF))
 lo:bo<W.heap.size
 lp:bp<W.heap.size
 ln:n0<=W.heap.size
theorem Ll.keep {n0:Nat} {W W':aJ} {bo bp:Nat} {p:cB} {os:List Int} {Ao:Option aj} {ko:Nat}(h:Ll n0 W bo bp p os Ao ko)(hk:ig n0 bo bp W W'):Ll n0 W' bo bp p os Ao ko:=by
 have ho:=hk.keep bo (.inr (.inl rfl)) h.lo;have hp:=hk.keep bp (.inr (.inr rfl)) h.lp;have hs:∀q:aj,q.block<n0->W'.cell? q=W.cell? q:=λq hq=>gu (hk.keep q.block (.inl hq) (cP hq h.ln))
 exact⟨(gu (a:=⟨bo,0,aB⟩) ho).trans h.o,(gu (a:=⟨bp,0,aB⟩) hp).trans h.c0,(gu (a:=⟨bp,1,aB⟩) hp).trans h.c1,(gu (a:=⟨bp,2,aB⟩) hp).trans h.c2,(gu (a:=⟨bp,3,aB⟩) hp).trans h.c3,h.so.keep hs,h.sc.keep hs,h.sf.keep hs,cP h.lo hk.size,cP h.lp hk.size,bz h.ln hk.size⟩
def La(v:aN)(y:List Dw)(W:aJ):Prop:=∃A c,v=aH A (aA y) c/\aW W W.heap.size A (gU y)/\(∀x∈y,aL x.n)/\aA y<=1000
def cU(l:List Int)(m:Int):Int:=l.getD (m-1).toNat 0
def kJ(fu os:List Int)(k:Nat):List Dw:=(dR k).flatMap λ(i:Nat)=>if os.contains ((i:Int)+1) then [] else [⟨9,(i:Int)+1,fu.getD i 0⟩]
def vy(fu os:List Int):List Dw:=kJ fu os (aA fu)
theorem a6H {fu os:List Int} {k:Nat}(hk:k<aA fu)(b:Bool)(hb:os.contains ((k:Int)+1)=b):kJ fu os (k+1)=kJ fu os k++if b then [] else [⟨9,(k:Int)+1,fu[k]⟩]:=by unfold kJ;rw [List.range_succ,List.flatMap_append,a9t,hb,tA,iE hk];rfl
theorem Kd(fu os:List Int):∀k,aA (kJ fu os k)<=k
 |0=>by simp [kJ]
 |k+1=>by
  have:=Kd fu os k;unfold kJ at*;rw [List.range_succ,List.flatMap_append,a9t,cN];have h9:aA (if os.contains ((k:Int)+1) then ([]:List Dw) else [⟨9,(k:Int)+1,fu.getD k 0⟩])<=1:=by split<;>simp
  omega
def fR(p:cB)(os:List Int):List (List Dw):=
 os.map (λm=> [⟨8,m,cU p.co m⟩])++os.map (λm=> [⟨9,m,cU p.fu m⟩])++ [vy p.fu os,[⟨3,0,p.line⟩],[⟨4,0,p.cap⟩]]
theorem PX(W:aJ)(k m n:Int)(hn:aL n):La (aH (aC ⟨W.heap.size,0,aB⟩) 1 1) [⟨k,m,n⟩] (W.alloc (aK #[aG aF k,aG aF m,aG aF n] 196)):=
 ⟨_,_,rfl,λj u hu=>⟨W.heap.size,0,rfl,by simp,by rw [Nat.zero_add,cL _ _ _ j rfl,<-Array.getElem?_toList];simpa [gU,Dw.cells] using hu⟩,by simpa using hn,by simp⟩
theorem aJ0 {fu os:List Int}(h:∀x∈fu,aL x)(k:Nat):∀x∈kJ fu os k,aL x.n:=by
 intro x hx;unfold kJ at hx;obtain⟨i,_,hx⟩:=List.mem_flatMap.1 hx;split at hx
 ·simp at hx
 simp at hx;subst hx;show aL (fu[i]?.getD 0);rcases rW i (aA fu) with hl|hl
 ·rw [iE hl];exact h _ (cH hl)
 rw [Ld hl];unfold aL;simp
theorem Jm {l:List Int} {s:Nat}(h:s<aA l):cU l ((s:Int)+1)=l[s]:=by unfold cU;rw [show ((s:Int)+1-1).toNat=s by omega,tA,iE h];rfl
theorem a5U {α β:Type}(f:α->β)(l:List α)(k:Nat):(l.take k).map f<+:l.map f:=⟨(l.drop k).map f,by rw [<-dZ,List.take_append_drop]⟩
theorem aKr(p:cB)(os:List Int)(k:Nat):(os.take k).map (λm=> [(⟨8,m,cU p.co m⟩:Dw)])<+:fR p os:=by unfold fR;exact((a5U _ os k).trans (a0I _ _)).trans (a0I _ _)
theorem aKs(p:cB)(os:List Int)(k:Nat):os.map (λm=> [(⟨8,m,cU p.co m⟩:Dw)])++(os.take k).map (λm=> [(⟨9,m,cU p.fu m⟩:Dw)])<+:fR p os:=by unfold fR;exact((List.prefix_append_right_inj _).2 (a5U _ os k)).trans (a0I _ _)
theorem aKt(p:cB)(os:List Int):os.map (λm=> [(⟨8,m,cU p.co m⟩:Dw)])++os.map (λm=> [(⟨9,m,cU p.fu m⟩:Dw)])++ [vy p.fu os]<+:fR p os:=⟨[[⟨3,0,p.line⟩],[⟨4,0,p.cap⟩]],by simp [fR]⟩
theorem aKu(p:cB)(os:List Int):os.map (λm=> [(⟨8,m,cU p.co m⟩:Dw)])++os.map (λm=> [(⟨9,m,cU p.fu m⟩:Dw)])++ [vy p.fu os]++ [[⟨3,0,p.line⟩]]<+:fR p os:=⟨[[⟨4,0,p.cap⟩]],by simp [fR]⟩
theorem aKv(p:cB)(os:List Int):os.map (λm=> [(⟨8,m,cU p.co m⟩:Dw)])++os.map (λm=> [(⟨9,m,cU p.fu m⟩:Dw)])++ [vy p.fu os]++ [[⟨3,0,p.line⟩]]++ [[⟨4,0,p.cap⟩]]<+:fR p os:=⟨[],by simp [fR]⟩
theorem a7Y(n n0 bo bp:Nat)(hn:3<=n)(p:cB)(os:List Int)(Ao:Option aj)(ko:Nat)(w:aJ)(hP:Ll n0 w bo bp p os Ao ko)(ho:∀m∈os,1<=m/\m<=aA p.co)(hl:aA p.fu=aA p.co)(hc:aA p.co<=1000)(ky:aA os<=1000)(hIc:∀x∈p.co,aL x)(hIf:∀x∈p.fu,aL x)(hIl:aL p.line)(QF:aL p.cap):
 Hands Ko n aM 221 #[π bo,π bp] La (ig n0 bo bp) (fR p os) w:=by
 intro l J W hW hJ hY h0;have Ho:=hP.keep (ig.bZ hW);have TJ:=η hIc;have ZU:=η hIf;have uG:=η (kX hIl QF);have HJ:=η hJ;have HY:=η hY;have HO:=η ho;have zE:=η hl;have HP:=η Ho;have gW:aA p.fu<=aA p.co:=by omega
 have hfg:aA p.co<=aA p.fu:=by omega
 clear hP hJ hY ho hl hW hIc hIf hIl QF;refine callsIn_of_wp func221 rfl trivial ?_ rfl;simp only [ntmps221,List.size_toArray,uL,EY,Nat.reduceAdd,Nat.reduceSub,Array.replicate_succ,Array.replicate_zero,List.push_toArray,List.append_toArray,GQ,List.cons_append];have o0:=Ho.o;have c0:=Ho.c0;have c1:=Ho.c1;have c2:=Ho.c2;have c3:=Ho.c3;clear Ho
 gi_wp2
 gi_loopw [13] (λi wr=>∃k:Nat,k<=aA os/\i=ν k/\Hid (J ((os.take k).map (λm=> [⟨8,m,cU p.co m⟩])) wr/\ig n0 bo bp W wr)) (λi _=>aA os-(af i).toNat)
 case atStart=>exact⟨0,bK _,rfl,h0,ig.refl _ _ _ _⟩
 case round=>
  obtain⟨k,hk,rfl,HK⟩:=hrel;have kS:=HP.o.keep HK.o.2;have o0:=kS.o;have c0:=kS.c0;have c1:=kS.c1;have c2:=kS.c2;have c3:=kS.c3;by_cases hlt:k<aA os
  ·obtain⟨ba,oa,rfl,nB,ha⟩:=tV kS.so hlt;obtain⟨s6,vZ⟩:=HO.o _ (cH hlt);obtain⟨s,hs,hsm⟩:∃s:Nat,s<aA p.co/\os[k]=(s:Int)+1:=⟨(os[k]-1).toNat,by omega,by omega⟩;obtain⟨bc,oc,MT,gF,hcc⟩:=tV kS.sc hs;rw [MT] at c0;rw [hsm] at ha;have Bc:aF.wrap ((s:Int)+1-1)=(s:Int):=by rw [sj _ (by omega)];omega
   have aGa:aF.wrap (s:Int)=(s:Int):=sj _ (by omega);have Wp:(s:Int)<(aA p.co:Int):=by omega
   gi_wp2
   refine⟨trivial,λ_=>by omega, ?_⟩;refine(tF.2 (PW _ _ _ _)).mono ?_;rintro e w2 ⟨rfl,hw2⟩;have gD:Hid (ig n0 bo bp W w2):=η (by rw [<-hw2];exact HK.o.2.alloc _);have LA:Hid (J ((os.take k).map (λm=> [⟨8,m,cU p.co m⟩])) w2):=η (by rw [<-hw2];exact HJ.o _ _ _ aB HK.o.1 (Gm _ _ _) (λr e=>by cases e));have I4:=PX wr 8 ((s:Int)+1) p.co[s] (TJ.o _ (cH hs));rw [hw2] at I4;have cG:Hid ((os.take (k+1)).map (λm=> [⟨8,m,cU p.co m⟩])=(os.take k).map (λm=> [⟨8,m,cU p.co m⟩])++ [[(⟨8,(s:Int)+1,p.co[s]⟩:Dw)]]):=η (by rw [fF hlt,dZ,a9y,hsm,Jm hs]);obtain⟨fn,tmps,assign,body,hy,hR⟩:=HY.o _ _ _ _ LA.o I4 (by rw [<-cG.o];exact aKr p os (k+1));clear I4 hw2
   gi_wp2
   refine⟨λ_=>by omega, ?_⟩;refine hR.mono ?_;rintro e W3 ⟨rfl,hJ3,hk3⟩;rw [<-cG.o] at hJ3;have od:=η (kX hJ3 (gD.o.trans hk3));clear hJ3 hk3
   gi_wp2
   go_roundw
   case rel=>exact⟨k+1,by omega,by go_num,od⟩
   case measure=>simp [af];omega
  obtain rfl:k=aA os:=by omega
  have CY:Hid (J (os.map (λm=> [⟨8,m,cU p.co m⟩])++(os.take 0).map (λm=> [⟨9,m,cU p.fu m⟩])) wr/\ig n0 bo bp W wr):=η (by have:=HK.o;rw [cT] at this;rw [nQ,List.map_nil,List.append_nil];exact this);clear HK kS
  gi_wp2
  gi_loopw [31] (λi wr=>∃k:Nat,k<=aA os/\i=ν k/\Hid (J (os.map (λm=> [⟨8,m,cU p.co m⟩])++(os.take k).map (λm=> [⟨9,m,cU p.fu m⟩])) wr/\ig n0 bo bp W wr)) (λi _=>aA os-(af i).toNat)
  case atStart=>exact⟨0,bK _,rfl,CY.o⟩
  case round=>
   clear CY;obtain⟨k,hk,rfl,HK⟩:=hrel;have kS:=HP.o.keep HK.o.2;have o0:=kS.o;have c0:=kS.c0;have c1:=kS.c1;have c2:=kS.c2;have c3:=kS.c3;by_cases hlt:k<aA os
   ·obtain⟨ba,oa,rfl,nB,ha⟩:=tV kS.so hlt;obtain⟨s6,vZ⟩:=HO.o _ (cH hlt);obtain⟨s,hs,hsm⟩:∃s:Nat,s<aA p.co/\os[k]=(s:Int)+1:=⟨(os[k]-1).toNat,by omega,by omega⟩;have hs2:s<aA p.fu:=by omega
    obtain⟨bc,oc,MT,gF,hcc⟩:=tV kS.sf hs2;rw [MT] at c1;rw [hsm] at ha;have Bc:aF.wrap ((s:Int)+1-1)=(s:Int):=by rw [sj _ (by omega)];omega
    have aGa:aF.wrap (s:Int)=(s:Int):=sj _ (by omega);have Wp:(s:Int)<(aA p.fu:Int):=by omega
    gi_wp2
    refine⟨trivial,λ_=>by omega, ?_⟩;refine(tF.2 (PW _ _ _ _)).mono ?_;rintro e w2 ⟨rfl,hw2⟩;have gD:Hid (ig n0 bo bp W w2):=η (by rw [<-hw2];exact HK.o.2.alloc _);have LA:Hid (J (os.map (λm=> [⟨8,m,cU p.co m⟩])++(os.take k).map (λm=> [⟨9,m,cU p.fu m⟩])) w2):=η (by rw [<-hw2];exact HJ.o _ _ _ aB HK.o.1 (Gm _ _ _) (λr e=>by cases e));have I4:=PX wr 9 ((s:Int)+1) p.fu[s] (ZU.o _ (cH hs2));rw [hw2] at I4;have cG:Hid ((os.take (k+1)).map (λm=> [⟨9,m,cU p.fu m⟩])=(os.take k).map (λm=> [⟨9,m,cU p.fu m⟩])++ [[(⟨9,(s:Int)+1,p.fu[s]⟩:Dw)]]):=η (by rw [fF hlt,dZ,a9y,hsm,Jm hs2]);obtain⟨fn,tmps,assign,body,hy,hR⟩:=HY.o _ _ _ _ LA.o I4 (by rw [List.append_assoc,<-cG.o];exact aKs p os (k+1));clear I4 hw2
    gi_wp2
    refine⟨λ_=>by omega, ?_⟩;refine hR.mono ?_;rintro e W3 ⟨rfl,hJ3,hk3⟩;rw [List.append_assoc,<-cG.o] at hJ3;have od:=η (kX hJ3 (gD.o.trans hk3));clear hJ3 hk3
    gi_wp2
    go_roundw
    case rel=>exact⟨k+1,by omega,by go_num,od⟩
    case measure=>simp [af];omega
   obtain rfl:k=aA os:=by omega
   have LC:=HK.o;rw [cT] at LC;have CY:=η LC;clear HK LC kS;obtain⟨wm,hwm⟩:∃wm,wm=wr:=⟨_,rfl⟩;subst hwm;have Zo:Hid (wm.ownsRow wm.heap.size 196 3 (aH aB 0 0) (aA (kJ p.fu os 0)) (gU (kJ p.fu os 0))):=η ⟨by simp [kJ,gU],aS ⟨rfl,rfl⟩⟩;obtain⟨i0,bu,hz0,ft,hz2⟩:=dJ Px;obtain⟨Af,VZ⟩:∃A,A=p.Af:=⟨_,rfl⟩;rw [<-VZ] at c1;have HAF:=η VZ;clear VZ
   gi_wp2
   gi_loopw [8,50] (λu i wr=>∃k:Nat,k<=aA p.fu/\i=ν k/\Hid (wr.ownsRow wm.heap.size 196 3 u (aA (kJ p.fu os k)) (gU (kJ p.fu os k)))/\Hid (β wm wr)) (λ_ i _=>aA p.fu-(af i).toNat)
   case atStart=>exact⟨0,bK _,rfl,Zo.o,aX _ _⟩
   case round=>
    obtain⟨k,hk,rfl,cD,ag⟩:=hrel;have hsz:=ag.o.size;have kS:=(HP.o.keep CY.o.2).keep (ig.bZ ag.o);have o0:=kS.o;have c0:=kS.c0;have c1:=kS.c1;have c2:=kS.c2;have c3:=kS.c3;by_cases hlt:k<aA p.fu
    ·have Wq:=kS.sf;rw [<-HAF.o] at Wq c1;obtain⟨bf,of,rfl,hbf,nX⟩:=tV Wq hlt;clear Wq;have Sw:=η (a2S os Ao ko ((k:Int)+1) wr (kS.so.mono kS.ln) (by omega));have cG:=η (λb=>a6H (os:=os) hlt b);have Bi:=Kd p.fu os k;have Bc:aF.wrap ((k:Int)+1)=(k:Int)+1:=sj _ (by omega);have hkb:(k:Int)<(aA p.fu:Int):=by omega
     have eY:(0:Int)<=(k:Int):=by omega
     clear kS
     gi_wp2
     refine⟨trivial,λ_=>by omega, ?_⟩;refine(tF.2 Sw.o).mono ?_;rintro e w9 ⟨rfl,rfl⟩;cases Hv:os.contains ((k:Int)+1) with
     |true=>
      have Vg:=cD.o;have zN:=cG.o aO Hv;simp only [if_true,List.append_nil] at zN;rw [<-zN] at Vg;have wW:=η Vg;clear Vg zN cD Hv
      gi_wp2
      go_roundw
      case rel=>exact⟨k+1,by omega,by go_num,wW,ag⟩
      case measure=>simp [af];omega
     |false=>
      have zN:=η (cG.o aP Hv);clear Hv;generalize kJ p.fu os k=ys at*
      gi_wp2_with (gi_at_builtin;refine wpListIn_append_own _ rfl _ _ 257 rfl wm.heap.size 196 i0 _ 3 24 underlying257 bu hz0 ft hz2 rfl (by decide) _ (aA ys) (gU ys) rfl (cD.o.alloc _) ⟨wr.heap.size,0,aB⟩ 1 1 (Dw.cells ⟨9,(k:Int)+1,p.fu[k]⟩) rfl rfl (dK _ _ #[_,_,_] (by simp)) (VJ ⟨9,(k:Int)+1,p.fu[k]⟩) (by simp only [bM];omega) (by omega) (by simp;omega) ?_)
      intro v' w4 hown1 dG _;have dP:Hid (w4.ownsRow wm.heap.size 196 3 v' (aA (kJ p.fu os (k+1))) (gU (kJ p.fu os (k+1)))):=η (by rw [zN.o];simp only [Yk,if_false];rw [a2s,cN,uM];exact hown1);have ar:Hid (β wm w4):=η ((ag.o.alloc hsz _).grown dG (by simp;omega) (λj hj=>eF cD.o j hj));clear hown1 dG
      gi_wp2
      go_roundw
      case rel=>exact⟨k+1,by omega,by go_num,dP,ar⟩
      case measure=>simp [af];omega
    obtain rfl:k=aA p.fu:=by omega
    obtain⟨A8,c8,rfl⟩:=bL cD.o;have Za:=η (HJ.o _ _ _ aB CY.o.1 (show wm.grownBy wr aB from⟨ag.o.os,ag.o.tape,ag.o.output,ag.o.size,λj hj _=>ag.o.block j hj⟩) (λr e=>by cases e));have zP:Hid (ig n0 bo bp W wr):=η (CY.o.2.trans (ig.bZ ag.o));have EG:Hid (La (aH A8 (aA (kJ p.fu os (aA p.fu))) c8) (vy p.fu os) wr):=η ⟨A8,c8,rfl,aW.cA cD.o,aJ0 ZU.o _,by have:=Kd p.fu os (aA p.fu);show aA (kJ p.fu os (aA p.fu))<=1000;omega⟩;clear kS o0 c0 c1 c2 c3 cD ag CY Zo;obtain⟨fn,tmps,assign,body,hy,hR⟩:=HY.o _ _ _ _ Za.o EG.o (aKt p os)
    gi_wp2
    refine⟨λ_=>by omega, ?_⟩;refine hR.mono ?_;rintro e W3 ⟨rfl,hJ3,hk3⟩;clear hR hy EG Za;have TN:=η hJ3;have mM:=η (zP.o.trans hk3);clear hJ3 hk3;have c2:=(HP.o.keep mM.o).c2
    gi_wp2
    refine⟨trivial,λ_=>by omega, ?_⟩;refine(tF.2 (PW _ _ _ _)).mono ?_;rintro e W3a ⟨rfl,Wz⟩;have a9c:Hid (ig n0 bo bp W W3a):=η (by rw [<-Wz];exact mM.o.alloc _);have ZZ:=η (HJ.o _ _ _ aB TN.o (Gm W3 (aK #[ν 3,ν 0,ν p.line] 196) _) (λr e=>by cases e));have W6:=PX W3 3 0 p.line uG.o.1;rw [Wz] at W6 ZZ;obtain⟨fn,tmps,assign,body,hy,hR⟩:=HY.o _ _ _ _ ZZ.o W6 (aKu p os);clear Wz W6
    gi_wp2
    refine⟨λ_=>by omega, ?_⟩;refine hR.mono ?_;rintro e W5 ⟨rfl,a3m,a3o⟩;clear hR hy;have HJ5:=η a3m;have py:=η (a9c.o.trans a3o);clear a3m a3o;have c3:=(HP.o.keep py.o).c3
    gi_wp2
    refine⟨trivial,λ_=>by omega, ?_⟩;refine(tF.2 (PW _ _ _ _)).mono ?_;rintro e W5a ⟨rfl,X0⟩;have a9d:Hid (ig n0 bo bp W W5a):=η (by rw [<-X0];exact py.o.alloc _);have Zb:=η (HJ.o _ _ _ aB HJ5.o (Gm W5 (aK #[ν 4,ν 0,ν p.cap] 196) _) (λr e=>by cases e));have W9:=PX W5 4 0 p.cap uG.o.2;rw [X0] at W9 Zb;obtain⟨fn,tmps,assign,body,hy,hR⟩:=HY.o _ _ _ _ Zb.o W9 (aKv p os);clear X0 W9
    gi_wp2
    refine⟨λ_=>by omega, ?_⟩;refine hR.mono ?_;rintro e W7 ⟨rfl,a3n,a3p⟩;clear hR hy;have HJ7:=η a3n;have HW7:=η (a9d.o.trans a3p);clear a3n a3p
    gi_wp2
    go_end0
    refine⟨⟨_,rfl⟩, ?_⟩;have e9:fR p os=os.map (λm=> [⟨8,m,cU p.co m⟩])++os.map (λm=> [⟨9,m,cU p.fu m⟩])++ [vy p.fu os]++ [[⟨3,0,p.line⟩]]++ [[⟨4,0,p.cap⟩]]:=by simp [fR]
    rw [e9];exact HJ7.o
end
structure Ae(w:aJ)(A:Option aj)(c:Nat)(zs:List Int):Prop where
 dt:aW w w.heap.size A (zs.map (aG aF))
 nil:A=aB->aA zs=0/\c=0
theorem Ae.below {w w':aJ} {A:Option aj} {c:Nat} {zs:List Int}(h:Ae w A c zs)(hb:aY w.heap.size w w'):Ae w' A c zs:=⟨(h.dt.below hb).mono hb.size,h.nil⟩
theorem aCf(zs:List Int):∀u∈zs.map (aG aF),u.oneCell'=aO:=by intro u hu;obtain⟨x,_,rfl⟩:=df.1 hu;rfl
theorem Uk:(aM.info? 2).map (λi=>(i.zero,i.size,i.bytes))=aC (aC (aG aF 0),1,8):=by kernel_rfl
theorem Yc {w:aJ} {ops:Array Oper} {rest:List Oper} {o:Oper} {a:Act} {Q:Exit->Act->aJ->Prop}(hgd:o.guard=aB)(s x:Operand)
 (ho:o.op= .call {callee:= .builtin .append,args:= #[s,x],argTypes:= #[53,53]}) (base:Nat)
 (v:aN) (n:Nat) (xs:List aN) (hs:a.eval s=v) (hown:w.ownsRow base 2 1 v n xs)
 (A:Option aj) (c:Nat) (L:List Int) (hx:a.eval x=aH A (aA L) c) (hz:Ae w A c L) (hlen:n+aA L<=1000000) (hbase:base<=w.heap.size)
 (h:∀v' w',w'.ownsRow base 2 1 v' (n+aA L) (xs++L.map (aG aF))->w.grownBy w' v.ownBlock->wpList aM ops Q rest (a.put o.dst v') w'):wpList aM ops Q (o::rest) a w:=by
 obtain⟨i0,bu,hz0,hz1,hz2⟩:=dJ Uk;cases A with
 |none=>
  obtain⟨h1,rfl⟩:=hz.nil rfl;obtain rfl:L= []:=nO h1;refine wpList_append_own_none hgd s x 53 ho base 2 i0 1 mP bu v n xs hs hown hx (h v w (by simpa using hown) ⟨rfl,rfl,rfl,aa _,λ_ _ _=>rfl⟩)
 |some ad=>
  refine iZ w hgd s x 53 ho base 2 i0 _ 1 8 mP bu hz0 hz1 hz2 rfl (by decide) v n xs hs hown ad (aA L) c (L.map (aG aF)) hx (by simp) ?_ (aCf L) (by simp only [bM];omega) (by omega) hbase ?_
  ·intro j u hu;obtain⟨b,o',e,_,hc⟩:=hz.dt j u hu;have e:=pF e;subst e;have ea:(⟨b,o',aB⟩:aj).add j=⟨b,o'+j,aB⟩:=by unfold Addr.add;split<;>simp_all
   rw [ea];exact hc
  intro v' w' h1 h2 _;exact h v' w' h1 h2
theorem aFw(w:aJ)(n:Nat)(hn:n<=1000000):kB (w.drew.alloc (aK (([]:List aN).toArray++EA (aG aF 0).cells (0+n-0)++EA (aG aF 0).cells (xM w (0+n) 0 2-(0+n))) 2)) w.heap.size 2 1 (aH (aC ⟨w.heap.size,0,aB⟩) 0 (xM w (0+n) 0 2)) 0 []:=a3g w _ n 1 _ rfl hn
def Yw(l:List Int)(w:aJ)(e:dU)(w':aJ):Prop:=∃A c,e=aT (aH A (aA l) c)/\aW w' w'.heap.size A (l.map (aG aF))/\aY w.heap.size w w'
theorem aEL(z1 z2:List Int)(x y:Int)(A1 A2 A3:Option aj)(c1 c2 c3 g:Nat)(w:aJ)(h1:Ae w A1 c1 z1)(h2:Ae w A2 c2 z2)(h3:Ae w A3 c3 [x,y])(g0:w.cell? ⟨g,0,aB⟩=aC (aH A1 (aA z1) c1))(g1:w.cell? ⟨g,1,aB⟩=aC (aH A2 (aA z2) c2))(g2:w.cell? ⟨g,2,aB⟩=aC (aH A3 2 c3))(hg:g<w.heap.size)(oK:aA z1<=1000)(hl2:aA z2<=1000):
 aQ aM 253 #[aH (aC ⟨g,0,aB⟩) 3 3] w (Yw (z1++z2++ [x,y]) w):=by
 have H1:=η h1;have H2:=η h2;have H3:=η h3;clear h1 h2 h3;have G1:=η g1;have G2:=η g2;have yf:aF.wrap ((aA z1:Int)+aA z2)=(aA z1:Int)+aA z2:=sj _ (by omega);have hw2:aF.wrap ((aA z1:Int)+aA z2+2)=(aA z1:Int)+aA z2+2:=sj _ (by omega);obtain⟨i0,bu,hz0,hz1,hz2⟩:=dJ Uk;go_enter func253,ntmps253
 go_wp2_with fail
 refine um 4 ?_;rw [eB];go_wp2_with fail
 rw [eB];go_wp2_with fail
 rw [eB];go_wp2_with fail
 rw [eB];go_wp2_with fail
 clear yf hw2;rw [show ((aA z1:Int)+(aA z2:Int)+2)=((aA z1+aA z2+2:Nat):Int) from by omega];refine(Any8.slices_Grow_grow growA i0 (ν 0) bu hz0 (by rw [hz1];decide) aB 0 0 (aA z1+aA z2+2) [] _ (by omega) (by omega) (by rw [hz2];omega) (by omega) (by simp) (λ_=>rfl) (λa h=>by cases h)).mono ?_;rintro e w2 ⟨rfl,hw2⟩;have qT:Hid (w2.ownsRow w.heap.size 2 1 (aH (aC ⟨w.heap.size,0,aB⟩) 0 (xM w (0+(aA z1+aA z2+2)) 0 2)) 0 []):=by show kB _ _ _ _ _ _ _;rw [hw2];exact aFw w (aA z1+aA z2+2) (by omega)
 have pB:Hid (β w w2):=by show RowKit.Below _ _ _;rw [hw2];exact(aX _ _).drew.alloc (aa _) _
 have HZ:=η pB.o.size;have wK:=η (H1.o.below pB.o);have p0:w2.cell? ⟨g,0,aB⟩=aC (aH A1 (aA z1) c1):=(pB.o.cell (p:=⟨g,0,aB⟩) hg).trans g0;clear hw2 g0 g1 g2;rw [show (growA_ren.t 25)=2 from rfl];generalize xM w (0+(aA z1+aA z2+2)) 0 2=cap at*;go_wp2_with fail
 refine um 4 ?_;rw [eB];go_wp2_with (at_builtin;refine Yc rfl _ _ rfl w.heap.size _ 0 [] rfl qT.o A1 c1 z1 rfl wK.o (by omega) HZ.o ?_)
 intro v3 w3 j5 hg3;have cD:Hid (w3.ownsRow w.heap.size 2 1 v3 (aA z1) (z1.map (aG aF))):=by show kB _ _ _ _ _ _ _;simpa using j5
 have mM:Hid (β w w3):=η (pB.o.trans ((aX _ _).grown hg3 HZ.o (λj hj=>eF qT.o j hj)));have q1:w3.cell? ⟨g,1,aB⟩=aC (aH A2 (aA z2) c2):=(mM.o.cell (p:=⟨g,1,aB⟩) hg).trans G1.o;have CO:=η (H2.o.below mM.o);have uz:=η mM.o.size;clear j5 hg3;go_wp2_with fail
 rw [eB];go_wp2_with (at_builtin;refine Yc rfl _ _ rfl w.heap.size _ (aA z1) (z1.map (aG aF)) rfl cD.o A2 c2 z2 rfl CO.o (by omega) uz.o ?_)
 intro v4 w4 gG hg4;have dP:Hid (w4.ownsRow w.heap.size 2 1 v4 (aA z1+aA z2) ((z1++z2).map (aG aF))):=by show kB _ _ _ _ _ _ _;rw [dZ];exact gG
 have zP:Hid (β w w4):=η (mM.o.trans ((aX _ _).grown hg4 uz.o (λj hj=>eF cD.o j hj)));have q2:w4.cell? ⟨g,2,aB⟩=aC (aH A3 2 c3):=(zP.o.cell (p:=⟨g,2,aB⟩) hg).trans G2.o;have a9B:=η (H3.o.below zP.o);have HZ4:=η zP.o.size;clear gG hg4 q1;generalize hzz:(z1++z2).map (aG aF)=zz at*;have HZZ:=η hzz;clear hzz;go_wp2_with fail
 rw [eB];go_wp2_with (at_builtin;refine Yc rfl _ _ rfl w.heap.size _ (aA z1+aA z2) zz rfl dP.o A3 c3 [x,y] rfl a9B.o (by simp;omega) HZ4.o ?_)
 intro v5 w5 iW ej;have ez:Hid (w5.ownsRow w.heap.size 2 1 v5 (aA (z1++z2++ [x,y])) ((z1++z2++ [x,y]).map (aG aF))):=by show kB _ _ _ _ _ _ _;rw [dZ,HZZ.o,cN,cN];exact iW
 have py:Hid (β w w5):=η (zP.o.trans ((aX _ _).grown ej HZ4.o (λj hj=>eF dP.o j hj)));clear iW ej q2;go_wp2_with fail
 rw [eB];go_wp2_with fail
 go_ret;obtain⟨A4,c4,rfl⟩:=bL ez.o;exact⟨A4,c4,rfl,aW.cA ez.o,py.o⟩
theorem aKS(w:aJ)(t:bY)(xs:List aN) {b:Nat}(hb:b=w.heap.size):aW (w.alloc (aK xs.toArray t)) (w.alloc (aK xs.toArray t)).heap.size (aC ⟨b,0,aB⟩) xs:=λj u hu=>
 ⟨b,0,rfl,by rw [hb];simp,by rw [Nat.zero_add,cL _ _ _ j hb,<-Array.getElem?_toList];exact hu⟩
def cB.val(p:cB):aN:=bQ #[aH p.Ac (aA p.co) p.cc,aH p.Af (aA p.fu) p.cf,aG aF p.line,aG aF p.cap]
structure Cu(w:aJ)(p:cB):Prop where
 c:Ae w p.Ac p.cc p.co
 f:Ae w p.Af p.cf p.fu
theorem Cu.below {w w':aJ} {p:cB}(h:Cu w p)(hb:aY w.heap.size w w'):Cu w' p:=⟨h.c.below hb,h.f.below hb⟩
def xg(n:Int):Bool:=decide (0<=n)&&decide (n<=1099511627776)
def gQ(p:cB):List Int:=p.co++p.fu++ [p.line,p.cap]
def Fc(p:cB):Bool:=decide (aA p.co=aA p.fu)&&(decide (aA p.co<=16)&&(gQ p).all xg)
def j9(p:cB):Int:=if Fc p then 0 else 1
theorem aJd {p:cB}(h:¬aA p.co=aA p.fu):j9 p=1:=by unfold j9 Fc;rw [decide_eq_false h];rfl
theorem aJc {p:cB}(h:¬aA p.co<=16):j9 p=1:=by unfold j9 Fc;rw [decide_eq_false h,Bool.false_and,Iz];rfl
theorem aJb {p:cB} {k:Nat}(hk:k<aA (gQ p))(h:xg (gQ p)[k]=aP):j9 p=1:=by
 have:(gQ p).all xg=aP:=by rw [Jc];exact⟨_,cH hk,by rw [h];decide⟩
 unfold j9 Fc;rw [this,Iz,Iz];rfl
theorem Xj {p:cB}(h1:aA p.co=aA p.fu)(h2:aA p.co<=16)(h:∀k (hk:k<aA (gQ p)),xg (gQ p)[k]=aO):j9 p=0:=by
 have:(gQ p).all xg=aO:=by rw [List.all_eq_true];intro x hx;obtain⟨k,hk,rfl⟩:=List.getElem_of_mem hx;exact h k hk
 unfold j9 Fc;rw [this,decide_eq_true h1,decide_eq_true h2];rfl
theorem aJL(p:cB)(w:aJ)(h:Cu w p)(hc:aA p.co<=bM):
 aQ aM 220 #[p.val] w λe w'=>e=aT (ν (j9 p))/\β w w':=by
 unfold bM at hc;have aZ:Hid (β w (w.alloc (aK #[aH p.Ac (aA p.co) p.cc,aH p.Af (aA p.fu) p.cf,ν p.line,ν p.cap] 193))):=η σ;have HP:=η h;clear h;unfold cB.val;by_cases h1:aA p.co=aA p.fu
 ·by_cases h2:aA p.co<=16
  ·have HC:Hid (∀(W:aJ) (A3:Option aj) (c3 g:Nat),β w W->Ae W A3 c3 [p.line,p.cap]->W.cell? ⟨g,0,aB⟩=aC (aH p.Ac (aA p.co) p.cc)->W.cell? ⟨g,1,aB⟩=aC (aH p.Af (aA p.fu) p.cf)->W.cell? ⟨g,2,aB⟩=aC (aH A3 2 c3)->g<W.heap.size->aQ aM 253 #[aH (aC ⟨g,0,aB⟩) 3 3] W (Yw (gQ p) W)):=η λW A3 c3 g hW h3 g0 g1 g2 hg=>aEL p.co p.fu p.line p.cap p.Ac p.Af A3 p.cc p.cf c3 g W (HP.o.c.below hW) (HP.o.f.below hW) h3 g0 g1 g2 hg (by omega) (by omega)
   have HG:=η (Xj h1 h2);have iv:=η (λk hk=>aJb (p:=p) (k:=k) hk);have hpl:aA (gQ p)<=100:=by unfold gQ;simp;omega
   have hne:((aA p.co:Int) !=(aA p.fu:Int))=aP:=by rw [h1];simp
   have Hy:decide ((16:Int)<(aA p.co:Int))=aP:=decide_eq_false (by omega);clear h1;generalize gQ p=L at*;generalize j9 p=pe at*;go_enter a0e,a0y
   go_wp2_with fail
   refine(HC.o _ (aC ⟨w.heap.size+1,0,aB⟩) 2 (w.heap.size+2) ?_ ⟨?_,λe=>by cases e⟩ ?_ ?_ ?_ (by simp)).mono ?_
   ·exact(σ.alloc (by simp) _).alloc (by simp;omega) _
   ·exact((aKS _ 2 [ν p.line,ν p.cap] (by simp)).below σ).mono (by simp)
   ·rw [cL _ _ _ _ (by simp)];rfl
   ·rw [cL _ _ _ _ (by simp)];rfl
   ·rw [cL _ _ _ _ (by simp)];rfl
   rintro e w1 ⟨A1,c1,rfl,hs1,hb1⟩;have cX:=η hs1;have aR:Hid (β w w1):=η (((σ.alloc (by simp) _).alloc (by simp;omega) _).trans (hb1.mono (by simp;omega)));clear hs1 hb1 HC;go_wp2_with fail
   go_loop [30] (λi=>∃k:Nat,k<=aA L/\i=ν k/\Hid (∀j (hj:j<aA L),j<k->xg L[j]=aO)) (λi=>aA L-(af i).toNat)
   case atStart=>exact⟨0,bK _,rfl,λj _ h=>absurd h (Nat.not_lt_zero _)⟩
   case round=>
    obtain⟨k,hk,rfl,HK⟩:=hrel;by_cases hlt:k<aA L
    ·obtain⟨b,o,rfl,hb,d0⟩:=tV cX.o hlt;have dQ:Hid (xg L[k]=(decide (0<=L[k])&&decide (L[k]<=1099511627776))):=η rfl;have CZ:=η (iv.o k hlt);have lh:Hid (xg L[k]=aO->∀j (hj:j<aA L),j<k+1->xg L[j]=aO):=η λh j hj hjk=>by
      by_cases e:j=k
      ·subst e;exact h
      exact HK.o j hj (by omega)
     generalize xg L[k]=ok at*;generalize L[k]=x at*;by_cases hx0:x<0
     ·have hE:ok=aP:=by rw [dQ.o,decide_eq_false (by omega)];rfl
      have HE:=η (CZ.o hE);clear hE;go_wp2_with fail
      go_ret;exact⟨cj HE.o.symm,aR.o⟩
     have hxd:decide (x<0)=aP:=decide_eq_false hx0;by_cases hx1:1099511627776<x
     ·have hE:ok=aP:=by rw [dQ.o,decide_eq_false (by omega:¬x<=1099511627776),Iz]
      have HE:=η (CZ.o hE);clear hE;go_wp2_with fail
      go_ret;exact⟨cj HE.o.symm,aR.o⟩
     have Qz:decide (1099511627776<x)=aP:=decide_eq_false hx1;have hE:ok=aO:=by rw [dQ.o,decide_eq_true (by omega:0<=x),decide_eq_true (by omega:x<=1099511627776)];rfl
     have od:=η (lh.o hE);clear hE;go_wp2_with fail
     go_round
     case rel=>exact⟨k+1,by omega,by go_num,od⟩
     case measure=>simp [af];omega
    obtain rfl:k=aA L:=by omega
    have HE:=η (HG.o λj hj=>HK.o j hj hj);go_wp2_with fail
    go_ret;exact⟨cj HE.o.symm,aR.o⟩
  have HE:=η (aJc h2);have hne:((aA p.co:Int) !=(aA p.fu:Int))=aP:=by rw [h1];simp
  have Hy:decide ((16:Int)<(aA p.co:Int))=aO:=decide_eq_true (by omega);clear h1 HP;generalize j9 p=pe at*;go_enter a0e,a0y
  go_wp2_with fail
  go_ret;exact⟨cj HE.o.symm,aZ.o⟩
 have HE:=η (aJd h1);have hne:((aA p.co:Int) !=(aA p.fu:Int))=aO:=by simp [bne];omega
 clear h1 HP;generalize j9 p=pe at*;go_enter a0e,a0y
 go_wp2_with fail
 go_ret;exact⟨cj HE.o.symm,aZ.o⟩
def tX(n:Nat)(os:List Int)(k:Nat):Bool:=decide (os.getD k 0<1)||(decide ((n:Int)<os.getD k 0)||(decide (0<k)&&decide (os.getD k 0<=os.getD (k-1) 0)))
def gH(p:cB)(os:List Int):Int:=if j9 p≠0 then j9 p else if (dR (aA os)).any (tX (aA p.co) os) then 9 else 0
theorem XN {p:cB} {os:List Int} {k:Nat}(h0:j9 p=0)(hk:k<aA os)(h:tX (aA p.co) os k=aO):gH p os=9:=by unfold gH;rw [ifN (by omega),ifP (kA.2 ⟨k,nP.2 hk,h⟩)]
theorem a5X {p:cB} {os:List Int}(h0:j9 p=0)(h:∀k,k<aA os->tX (aA p.co) os k=aP):gH p os=0:=by unfold gH;rw [ifN (by omega),ifN];rw [kA];rintro⟨k,hk,h9⟩;rw [h k (nP.1 hk)] at h9;cases h9
theorem getD_at {l:List Int} {k:Nat}(h:k<aA l):l.getD k 0=l[k]:=by rw [tA,iE h];rfl
theorem a5Y(p:cB)(os:List Int)(A:Option aj)(c:Nat)(w:aJ)(h:Cu w p)(hc:aA p.co<=bM)(hs:aW w w.heap.size A (os.map (aG aF)))(hl:aA os<=100000)(hI:∀x∈os,aL x):
 aQ aM 183 #[p.val,aH A (aA os) c] w λe w'=>e=aT (ν (gH p os))/\β w w':=by
 have aZ:Hid (β w (w.alloc (aK #[aH p.Ac (aA p.co) p.cc,aH p.Af (aA p.fu) p.cf,ν p.line,ν p.cap] 193))):=η σ;have HC:Hid (∀W,β w W->aQ aM 220 #[p.val] W λe w'=>e=aT (ν (j9 p))/\β W w'):=η λW hW=>aJL p W (h.below hW) hc
 have bU:(w.alloc (aK #[aH p.Ac (aA p.co) p.cc,aH p.Af (aA p.fu) p.cf,ν p.line,ν p.cap] 193)).cell? ⟨w.heap.size,0,aB⟩=aC (aH p.Ac (aA p.co) p.cc):=by rw [cL _ _ _ _ rfl];rfl
 have hbl:w.heap.size<(w.alloc (aK #[aH p.Ac (aA p.co) p.cc,aH p.Af (aA p.fu) p.cf,ν p.line,ν p.cap] 193)).heap.size:=by simp
 have dL:=η (kX bU hbl);have HS:=η hs;have HD:Hid (gH p os=if j9 p≠0 then j9 p else if (dR (aA os)).any (tX (aA p.co) os) then 9 else 0):=η rfl;have HG:=η (λ(h0:j9 p=0)=>a5X (p:=p) (os:=os) h0);have iv:=η (λ(h0:j9 p=0) k (hk:k<aA os)=>XN (p:=p) (os:=os) (k:=k) h0 hk);unfold bM at hc;generalize gH p os=me at*;unfold cB.val at*;go_enter func183,ntmps183
 go_wp2_with fail
 generalize w.alloc (aK #[aH p.Ac (aA p.co) p.cc,aH p.Af (aA p.fu) p.cf,ν p.line,ν p.cap] 193)=w0 at*;refine(HC.o _ aZ.o).mono ?_;rintro e w1 ⟨rfl,hb1⟩;have aR:Hid (β w w1):=τ aZ hb1;have bU:w1.cell? ⟨w.heap.size,0,aB⟩=aC (aH p.Ac (aA p.co) p.cc):=(hb1.cell (p:=⟨w.heap.size,0,aB⟩) dL.o.2).trans dL.o.1;by_cases h0:j9 p=0
 ·rw [h0];have HG:=η (HG.o h0);have iv:=η (iv.o h0);go_wp2_with fail
  go_loop [6,16] (λla i=>∃k:Nat,∃lv:Int,k<=aA os/\i=ν k/\la=ν lv/\0<=lv/\Hid (lv=if k=0 then 0 else os.getD (k-1) 0)/\Hid (∀j,j<k->tX (aA p.co) os j=aP)) (λ_ i=>aA os-(af i).toNat)
  case atStart=>exact⟨0,0,bK _,rfl,rfl,dM _,rfl,λj h=>absurd h (Nat.not_lt_zero _)⟩
  case round=>
   obtain⟨k,lv,hk,rfl,rfl,hlv,lQ,HK⟩:=hrel;by_cases hlt:k<aA os
   ·obtain⟨b,o,rfl,hb,d0⟩:=tV (HS.o.below aR.o) hlt;have uI:Hid (tX (aA p.co) os k=(decide (os[k]<1)||(decide ((aA p.co:Int)<os[k])||(decide (0<k)&&decide (os[k]<=os.getD (k-1) 0))))):=η (by unfold tX;rw [getD_at hlt]);have CZ:=η (iv.o k hlt);have OZ:Hid (os.getD k 0=os[k]):=η (getD_at hlt);generalize os[k]=x at*;by_cases h1:x<=lv
    ·have hE:tX (aA p.co) os k=aO:=by
      rw [uI.o];have:=lQ.o;by_cases eY:k=0
      ·rw [ifP eY] at this;rw [decide_eq_true (by omega:x<1)];rfl
      rw [ifN eY] at this;rw [decide_eq_true (by omega:0<k),decide_eq_true (by omega:x<=os.getD (k-1) 0)];simp
     have HE:=η (CZ.o hE);go_wp2_with fail
     go_ret;exact⟨cj HE.o.symm,aR.o⟩
    have h1d:decide (x<=lv)=aP:=decide_eq_false h1;by_cases h2:(aA p.co:Int)<x
    ·have hE:tX (aA p.co) os k=aO:=by
      rw [uI.o,decide_eq_true h2];simp
     have HE:=η (CZ.o hE);go_wp2_with fail
     go_ret;exact⟨cj HE.o.symm,aR.o⟩
    have VY:decide ((aA p.co:Int)<x)=aP:=decide_eq_false h2;have hE:tX (aA p.co) os k=aP:=by
     rw [uI.o];have:=lQ.o;by_cases eY:k=0
     ·subst eY;rw [decide_eq_false (by omega:¬x<1),VY];rfl
     rw [ifN eY] at this;rw [decide_eq_false (by omega:¬x<1),VY,decide_eq_false (by omega:¬x<=os.getD (k-1) 0)];simp
    have lh:Hid (∀j,j<k+1->tX (aA p.co) os j=aP):=η λj hj=>by
     by_cases e:j=k
     ·subst e;exact hE
     exact HK.o j (by omega)
    have Ca:Hid (x=if k+1=0 then 0 else os.getD (k+1-1) 0):=η (by rw [ifN (by omega),Nat.add_sub_cancel];exact OZ.o.symm);go_wp2_with fail
    go_round
    case rel=>exact⟨k+1,x,by omega,by go_num,rfl,by omega,Ca,lh⟩
    case measure=>simp [af];omega
   obtain rfl:k=aA os:=by omega
   have HE:=η (HG.o HK.o);go_wp2_with fail
   go_ret;exact⟨cj HE.o.symm,aR.o⟩
 have HE:Hid (me=j9 p):=η (by rw [HD.o,ifP h0]);generalize j9 p=pe at*;have ID:(pe !=0)=aO:=by simpa [bne] using h0
 go_wp2_with fail
 go_ret;exact⟨cj HE.o.symm,aR.o⟩
section
open Go.Shelf
attribute [local go_sem] Oper.semAt_some
theorem a7X(p:cB)(A:Option aj)(n c:Nat)(w:aJ):
 aQ aM 187 #[p.val,aH A n c] w λe w'=>e=aT (.func (.func 221) #[] #[π (w.heap.size+1),π w.heap.size])/\(w.alloc (aK #[aH p.Ac (aA p.co) p.cc,aH p.Af (aA p.fu) p.cf,ν p.line,ν p.cap] 193)).alloc (aK #[aH A n c] 46)=w':=by
 unfold cB.val;go_enter func187,ntmps187
 go_wp2
 go_ret;exact⟨rfl,rfl⟩
theorem a6V(p:cB)(os:List Int)(A:Option aj)(c n1:Nat)(w:aJ)(h:Cu w p)(hs:aW w w.heap.size A (os.map (aG aF)))(hn:w.heap.size=n1):
 ∀W,ig n1 n1 n1 w W->Ll n1 ((W.alloc (aK #[aH p.Ac (aA p.co) p.cc,aH p.Af (aA p.fu) p.cf,ν p.line,ν p.cap] 193)).alloc (aK #[aH A (aA os) c] 46)) (W.heap.size+1) W.heap.size p os A c:=by
 intro W hW;subst hn;have hsz:=hW.size;have hk:∀q:aj,q.block<w.heap.size->((W.alloc (aK #[aH p.Ac (aA p.co) p.cc,aH p.Af (aA p.fu) p.cf,ν p.line,ν p.cap] 193)).alloc (aK #[aH A (aA os) c] 46)).cell? q=w.cell? q:=λq hq=>by rw [qh _ _ _ (by simp;omega),qh _ _ _ (by omega)];exact gu (hW.keep q.block (.inl hq) hq)
 refine⟨by rw [cL _ _ _ _ (by simp)];rfl, ?_, ?_, ?_, ?_,hs.keep hk,h.c.dt.keep hk,h.f.dt.keep hk,by simp,by simp;omega,by simp;omega⟩
 all_goals
  rw [BQ _ _ _ (by simp),cL _ _ _ _ rfl];rfl
def CA(ys:List (List Dw)):Int:=ys.foldl (λn y=>aF.wrap (n+sQ y)) 0
theorem aK1(ys:List (List Dw))(y:List Dw):CA (ys++ [y])=aF.wrap (CA ys+sQ y):=by simp [CA]
def rC(p:cB)(os:List Int):Int:=if gH p os=0 then CA (fR p os) else 0
structure GU(p:cB)(os:List Int):Prop where
 len:aA p.fu=aA p.co
 big:aA p.co<=16
 os1:∀m∈os,1<=m/\m<=aA p.co
 all:∀x∈gQ p,0<=x/\x<=1099511627776
theorem AP {p:cB} {os:List Int}(h:gH p os=0):GU p os:=by
 have h0:j9 p=0:=by
  unfold gH at h;by_cases h0:j9 p=0
  ·exact h0
  rw [ifP h0] at h;exact h
 have hb:Fc p=aO:=by
  unfold j9 at h0;by_cases hb:Fc p=aO
  ·exact hb
  rw [ifN hb] at h0;exact absurd h0 (by decide)
 unfold Fc at hb;simp only [je,decide_eq_true_eq] at hb;refine⟨hb.1.symm,hb.2.1,λm hm=> ?_,λx hx=> ?_⟩
 ·obtain⟨k,hk,rfl⟩:=List.getElem_of_mem hm;by_cases F3:tX (aA p.co) os k=aO
  ·rw [XN h0 hk F3] at h;exact absurd h (by decide)
  have hf:tX (aA p.co) os k=aP:=by simpa using F3
  unfold tX at hf;rw [getD_at hk] at hf;simp only [Bool.or_eq_false_iff,decide_eq_false_iff_not] at hf;omega
 have:=List.all_eq_true.1 hb.2.2 x hx;unfold xg at this;simp only [je,decide_eq_true_eq] at this;exact this
theorem GU.i64 {p:cB} {os:List Int}(h:GU p os):(∀x∈p.co,aL x)/\(∀x∈p.fu,aL x)/\aL p.line/\aL p.cap:=by
 have k:∀x∈gQ p,aL x:=λx hx=>by have:=h.all x hx;unfold aL;omega
 exact⟨λx hx=>k x (by simp [gQ,hx]),λx hx=>k x (by simp [gQ,hx]),k _ (by simp [gQ]),k _ (by simp [gQ])⟩
theorem a5C {n1 bo bp:Nat} {A B C:aJ}(h:ig n1 bo bp A B)(k:ig n1 bo bp B C):ig n1 bo bp A C:=h.trans k
theorem a5B {n1 bo bp B:Nat}(h1:n1<=B)(h2:bo<B)(h3:bp<B):∀(W:aJ) (l:Nat) (o o':Obj),B<=l->W.heap[l]? =aC o->o.isCells=aP->o.isWalk=aP->ig n1 bo bp W (W.putObj l o'):=λ_ _ _ _ hl _ _ _=>
 ⟨by simp [aCK],λ_ hk _=>PR (by omega)⟩
theorem a4J(v:aN)(y:List Dw)(W:aJ)(l:Nat)(o o':Obj)(h:La v y W)(hl:W.heap[l]? =aC o)(ho:o.isCells=aP):La v y (W.putObj l o'):=by
 obtain⟨A,c,e,hs,h1,h2⟩:=h;refine⟨A,c,e,λj u hu=> ?_,h1,h2⟩;obtain⟨b,o9,e9,hb,hc⟩:=hs j u hu;refine⟨b,o9,e9,by simpa [aCK] using hb, ?_⟩;have hne:b≠l:=λe=>by subst e;unfold World.cell? at hc;rw [hl] at hc;cases o<;>simp [Obj.isCells] at ho hc
 rw [<-hc];exact gu (w:=W) (w':=W.putObj l o') (a:=⟨b,o9+j,aB⟩) (PR (by simpa using hne))
theorem a4y {W W':aJ}(h:aY W.heap.size W W'):KeepsOthers W W':=⟨h.size,λk _ hk _=>(h.block k (fX.1 hk).1).trans hk⟩
theorem aK6 {w W w':aJ} {bn:Nat} {pre:List (List Dw)} {y:List Dw} {a:Act} {z:Int}(hb:aY W.heap.size W w')(hw:w.heap.size<=bn)(gM:aY w.heap.size w W)(hcw:∃u,w'.cell? ⟨bn,0,aB⟩=aC u)(hfw:w'.frozen? ⟨bn,0,aB⟩=aP)(hz:CA (pre++ [y])=z):
 a3w (ig w.heap.size (bn+1+1) (bn+1)) (λpre W=>(W.cell? ⟨bn,0,aB⟩=aC (ν (CA pre))/\W.frozen? ⟨bn,0,aB⟩=aP)/\β w W) (pre++ [y]) W .normal a (w'.setCell ⟨bn,0,aB⟩ (ν z)):=by
 obtain⟨u,hu⟩:=hcw;refine⟨(a4y hb).trans (a0D _ _ _),(ig.bZ hb).trans ⟨by simp [Ee],λk hk _=>nK _ _ _ _ (by simp only [ne_eq];omega)⟩,⟨?_, ?_⟩,(gM.trans (hb.mono gM.size)).setCell (by simpa using hw) _⟩
 ·rw [hz];exact a1U _ _ _ (by rw [hu];rfl)
 rw [a1W];exact hfw
theorem aK5(p:cB)(os:List Int)(A:Option aj)(c:Nat)(w:aJ)(h:Cu w p)(hc:aA p.co<=bM)(hs:aW w w.heap.size A (os.map (aG aF)))(hl:aA os<=1000)(hI:∀x∈os,aL x):
 aQ aM 132 #[p.val,aH A (aA os) c] w λe w'=>e=aT (bB #[ν (rC p os),ν (gH p os)])/\β w w':=by
 have aZ:Hid (β w (w.alloc (aK #[aH p.Ac (aA p.co) p.cc,aH p.Af (aA p.fu) p.cf,ν p.line,ν p.cap] 193))):=η σ;have HM:Hid (∀W,β w W->aQ aM 183 #[p.val,aH A (aA os) c] W λe w'=>e=aT (ν (gH p os))/\β W w'):=η λW hW=>a5Y p os A c W (h.below hW) hc ((hs.below hW).mono hW.size) (by omega) hI
 have EO:=η (a6V p os A c w.heap.size w h hs rfl);have rQ:Hid (∀W,aQ aM 187 #[p.val,aH A (aA os) c] W λe w'=>e=aT (.func (.func 221) #[] #[π (W.heap.size+1),π W.heap.size])/\(W.alloc (aK #[aH p.Ac (aA p.co) p.cc,aH p.Af (aA p.fu) p.cf,ν p.line,ν p.cap] 193)).alloc (aK #[aH A (aA os) c] 46)=w'):=η λW=>a7X p A (aA os) c W
 have Og:Hid (rC p os=if gH p os=0 then CA (fR p os) else 0):=η rfl;have TU:=η (λh=>AP (p:=p) (os:=os) h);generalize rC p os=rv at*;unfold cB.val at*;by_cases h0:gH p os=0
 ·have F:=TU.o h0;rw [h0] at HM ⊢;rw [ifP h0] at Og;have HF:=η F;refine(tF (n:=9)).1 ?_;refine callsIn_of_wp_marks aAd rfl trivial ?_ rfl;simp only [aBQ,List.size_toArray,uL,EY,Nat.reduceAdd,Nat.reduceSub,Array.replicate_succ,Array.replicate_zero,List.push_toArray,List.append_toArray,GQ,List.cons_append]
  gi_wp2
  refine⟨trivial, ?_⟩;refine(tF.2 (HM.o _ aZ.o)).mono ?_;rintro e w1 ⟨rfl,hb1⟩;have aR:Hid (β w w1):=τ aZ hb1;have q0:w1.cell? ⟨w.heap.size,0,aB⟩=aC (aH p.Ac (aA p.co) p.cc):=(hb1.cell (p:=⟨w.heap.size,0,aB⟩) (by simp)).trans (by rw [cL _ _ _ _ rfl];rfl);have q1:w1.cell? ⟨w.heap.size,1,aB⟩=aC (aH p.Af (aA p.fu) p.cf):=(hb1.cell (p:=⟨w.heap.size,1,aB⟩) (by simp)).trans (by rw [cL _ _ _ _ rfl];rfl);have q2:w1.cell? ⟨w.heap.size,2,aB⟩=aC (ν p.line):=(hb1.cell (p:=⟨w.heap.size,2,aB⟩) (by simp)).trans (by rw [cL _ _ _ _ rfl];rfl);have q3:w1.cell? ⟨w.heap.size,3,aB⟩=aC (ν p.cap):=(hb1.cell (p:=⟨w.heap.size,3,aB⟩) (by simp)).trans (by rw [cL _ _ _ _ rfl];rfl);have FC:w.heap.size<w1.heap.size:=by have:=hb1.size;simp at this;omega
  gi_wp2
  refine⟨trivial, ?_⟩;refine(tF.2 (rQ.o _)).mono ?_;rintro e w3 ⟨rfl,hw3⟩;have Dm:(w1.alloc (aK #[ν 0] 2)).heap.size=w1.heap.size+1:=by simp
  have fD:Hid (β w (w1.alloc (aK #[ν 0] 2))):=η (aR.o.alloc aR.o.size _);have zJ:=EO.o _ (ig.bZ fD.o);rw [hw3,Dm] at zJ;have aGu:w3.heap.size=w1.heap.size+3:=by rw [<-hw3];simp
  have ag:Hid (β w w3):=η (by rw [<-hw3];exact(fD.o.alloc fD.o.size _).alloc (bz fD.o.size (by simp)) _);have nh:w3.cell? ⟨w1.heap.size,0,aB⟩=aC (ν 0):=by rw [<-hw3,qh _ _ _ (by simp;omega),qh _ _ _ (by simp),cL _ _ _ _ rfl];rfl
  have hf3:w3.frozen? ⟨w1.heap.size,0,aB⟩=aP:=by rw [<-hw3,PQ _ _ _ (by simp;omega),PQ _ _ _ (by simp),a1V _ _ _ _ rfl]
  have N8:=aR.o.size;rw [Dm]
  gi_wp2
  refine a8T (β:=List Dw) rfl (by omega) (gf:=221) (lb:= #[bF (aC ⟨w1.heap.size+1+1,0,aB⟩),π (w1.heap.size+1)]) rfl trivial (enters_of func221 (by kernel_rfl) rfl)
   (a7Y 8 w.heap.size (w1.heap.size+1+1) (w1.heap.size+1) (by omega) p os A c w3 zJ HF.o.os1 HF.o.len (by have:=HF.o.big;omega) hl HF.o.i64.1 HF.o.i64.2.1 HF.o.i64.2.2.1 HF.o.i64.2.2.2)
   a5C (a5B (by omega) (by omega) (by omega)) (aX _ _) a4J
   (λpre W=>(W.cell? ⟨w1.heap.size,0,aB⟩=aC (ν (CA pre))/\W.frozen? ⟨w1.heap.size,0,aB⟩=aP)/\β w W)
   (OwnFrom.and (Own.from (λs A B row hs hg hr=>⟨cell_kept hs.1 hg hr,(frozen_kept hs.1 hg hr).trans hs.2⟩) _) (ownFrom_below (aa _) (by omega)))
   ⟨⟨nh,hf3⟩,ag.o⟩ ?a1 ?assign ?body ?done
  case assign=>
   intro l v W K hK
   gi_wp2
   exact hK
  case body=>
   rintro l pre y v W ⟨⟨xO,KB⟩,gM⟩ ⟨Ay,cy,rfl,N3,Vb,hly⟩ _;have hmx:aM.follows .mixedOrders=aO:=by kernel_rfl
   have Mp:w1.heap.size<W.heap.size:=by
    rcases rW w1.heap.size W.heap.size with hh|hh
    ·exact hh
    unfold World.cell? at xO;rw [Iy hh] at xO;cases xO
   have Tt:Hid (∀W2,β W W2->aQ aM 186 #[aH Ay (aA y) cy] W2 λe w'=>e=aT (ν (sQ y))/\β W2 w'):=η λW2 hW2=>a8F y Ay cy W2 ((N3.below hW2).mono hW2.size) Vb (by omega)
   have GD:=η (aK1 pre y);generalize CA pre=rp at*;generalize sQ y=ty at*
   gi_wp2
   gi_region_with_o (refine⟨trivial, ?_⟩;gi_at_call 186;refine(CallsIn.inRound l (tF.2 (Tt.o _ (by first|exact aX _ _|exact(aX _ _).drew|exact(aX _ _).drew.drew)))).mono ?_;rintro e w' ⟨rfl,dW⟩;have hcw:=(dW.cell (p:=⟨w1.heap.size,0,aB⟩) Mp).trans xO;have hfw:=(dW.frozen (p:=⟨w1.heap.size,0,aB⟩) Mp).trans KB)
   all_goals gi_wp2
   all_goals exact aK6 (((aX _ _).drew).trans dW) N8 gM ⟨_,hcw⟩ hfw GD.o
  case done=>
   rintro D W hD ⟨⟨xO,KB⟩,gM⟩ hK
   gi_wp2
   refine⟨by simp,.inl ⟨_,_,rfl,run_takeDeferred hK, ?_⟩⟩;exact⟨_,results_tmp2 rfl _ _ _,by rw [Og.o];rfl,gM.trans (belowK_b (w:=w) (aa _) W D _ _ (by omega) hK rfl rfl)⟩
 have HE:=η h0;rw [ifN h0] at Og;have hen:(gH p os !=0)=aO:=by simpa [bne] using h0
 generalize gH p os=me at*;go_enter aAd,aBQ
 go_wp2_with fail
 refine(HM.o _ aZ.o).mono ?_;rintro e w1 ⟨rfl,hb1⟩;have aR:Hid (β w w1):=τ aZ hb1;go_wp2_with fail
 go_ret2;exact⟨by rw [Og.o];rfl,aR.o⟩
end
theorem aCZ(T:Int)(l:List Int):aA (dN T l)<=aA l:=by
 unfold dN uO;split
 ·simp
 split
 ·exact aa _
 split
 ·simp
 split
 ·simp
 rw [rD];exact aa _
theorem aCY {T:Int} {l:List Int}(hl:∀x∈l,aL x):∀x∈dN T l,aL x:=by
 intro x hx;by_cases h:iL T l=0
 ·have G:=Es h;obtain⟨i,hi,rfl⟩:=List.getElem_of_mem hx;have hi':i<aA l:=by rw [<-G.len];exact hi
  have:=G.bd i hi hi';have h2:=hl _ (cH hi');unfold aL at*;omega
 unfold dN at hx;rw [ifP h] at hx;simp at hx
def fj(s:List Dw):List Int:=s.map (·.n)
theorem aFA {s:List Dw} {k:Nat}(hk:k<aA s):fj (s.take (k+1))=fj (s.take k)++ [s[k].n]:=by unfold fj;rw [fF hk,dZ];rfl
def iy(s:List Dw)(xs:List Int):List Dw:=(kR (λ(x:Dw) n=>(⟨x.k,x.m,n⟩:Dw)) s xs).filter λx=>decide (0<x.n)
theorem aFD {s:List Dw} {xs:List Int} {k:Nat}(h:k<aA s)(h':k<aA xs):iy (s.take (k+1)) (xs.take (k+1))=iy (s.take k) (xs.take k)++if 0<xs[k] then [⟨s[k].k,s[k].m,xs[k]⟩] else []:=by unfold iy;rw [fF h,fF h',List.zipWith_append (by simp;omega),List.filter_append];by_cases hp:0<xs[k]<;>simp [hp]
theorem aFC(s:List Dw)(xs:List Int)(k:Nat):aA (iy (s.take k) (xs.take k))<=k:=by unfold iy;refine bz (qg _ _) ?_;rw [EZ,vD];omega
theorem a8Z {α β γ:Type}(f:α->β->γ):∀(s:List α) (xs:List β),aA xs<=aA s->kR f (s.take (aA xs)) xs=kR f s xs
 |_,[],_=>by simp
 | [],_::_,h=>by simp at h
 |x::s,y::xs,h=>by rw [uL,List.take_succ_cons,Eb,Eb,a8Z f s xs (by simpa using h)]
theorem aFB(s:List Dw)(xs:List Int)(h:aA xs<=aA s):iy (s.take (aA xs)) (xs.take (aA xs))=iy s xs:=by unfold iy;rw [cT,a8Z _ _ _ h]
def nA(s:List Dw)(need:Int):List Dw:=iy s (dN need (fj s))
def Yx(l:List Dw)(w:aJ)(e:dU)(w':aJ):Prop:=∃A c,e=aT (aH A (aA l) c)/\w'.ownsRow w.heap.size 196 3 (aH A (aA l) c) (aA l) (gU l)/\aY w.heap.size w w'
theorem aFr(s:List Dw)(need:Int)(A:Option aj)(c:Nat)(w:aJ)(hs:aW w w.heap.size A (gU s))(hI:∀x∈s,aL x.n)(hN:aL need)(hl:aA s<=1000):
 aQ aM 185 #[aH A (aA s) c,ν need] w (Yx (nA s need) w):=by
 obtain⟨i0,bu,hz0,hz1,hz2⟩:=dJ Px;obtain⟨j0,yb,jz0,jz1,jz2⟩:=dJ (show (aM.info? 2).map (λi=>(i.zero,i.size,i.bytes))=aC (aC (ν 0),1,8) by kernel_rfl);have HS:=η hs;have HI:=η hI;have HN:=η hN;go_enter func185,ntmps185
 go_wp2
 go_loopw [5,15] (λu i wr=>∃k:Nat,k<=aA s/\i=ν k/\Hid (wr.ownsRow w.heap.size 2 1 u k ((fj (s.take k)).map (aG aF)))/\Hid (β w wr)) (λ_ i _=>aA s-(af i).toNat)
 ·exact⟨0,bK _,rfl,fh _ _ _ _,aX _ _⟩
 ·
  obtain⟨k,hk,rfl,HO,HB⟩:=hrel;have hsz:=HB.o.size;by_cases hlt:k<aA s
  ·obtain⟨b,o,rfl,hb,d0,d1,d2⟩:=Pw (HS.o.below HB.o) hlt;have cG:=η (aFA hlt);generalize s[k].n=n at*;generalize s[k].k=kk at*;generalize s[k].m=mm at*;generalize fj (s.take k)=ys at*;have cF:Hid (∀ob,(wr.alloc ob).ownsRow w.heap.size 2 1 _ k (ys.map (aG aF))):=η λob=>HO.o.alloc ob
   have aR:Hid (∀ob,β w (wr.alloc ob)):=η λob=>HB.o.alloc hsz ob
   go_wp2_with (at_builtin;refine iZ _ rfl _ _ 53 rfl w.heap.size 2 j0 _ 1 8 mP yb jz0 jz1 jz2 rfl (by decide) _ k (ys.map (aG aF)) rfl ((cF.o _).alloc _) ⟨wr.heap.size+1,0,aB⟩ 1 1 [ν n] rfl rfl (dK _ _ #[_] (by simp)) xh (by simp only [bM];omega) (by omega) (by simp;omega) ?_)
   intro v' w4 hown1 dG _;have dP:Hid (w4.ownsRow w.heap.size 2 1 v' (k+1) ((fj (s.take (k+1))).map (aG aF))):=η (by rw [cG.o,dZ];exact hown1);have ar:=η (((aR.o _).alloc (by simp;omega) _).grown dG (by simp;omega) (λj hj=>eF HO.o j hj));go_wp2
   go_roundw
   ·exact⟨k+1,by omega,by go_num,dP,ar⟩
   simp [af];omega
  obtain rfl:k=aA s:=by omega
  have hO:=HO.o;rw [cT] at hO;obtain⟨A1,c1,rfl⟩:=bL hO;have pM:aA (fj s)=aA s:=by simp [fj]
  have Ah:=η (Yg need (fj s) A1 c1 wr HN.o (λz hz=>by obtain⟨y,hy,rfl⟩:=df.1 hz;exact HI.o y hy) (aW.cA hO) (by unfold bM;omega));rw [pM] at Ah;have rr:=aCZ need (fj s);rw [pM] at rr;have HG:Hid (nA s need=iy s (dN need (fj s))):=η rfl;generalize dN need (fj s)=zs at*;generalize zX need (fj s)=ze at*;go_wp2_with (go_at_call 194;refine Ah.o.mono ?_;rintro e w2 ⟨A2,c2,rfl,hs2,hb2⟩;have cM:=η hs2;have aV:=η (HB.o.trans (hb2.mono hsz)))
  have IK:=aV.o.size;go_loopw [10,33] (λu i wr=>∃k:Nat,k<=aA zs/\i=ν k/\Hid (wr.ownsRow w2.heap.size 196 3 u (aA (iy (s.take k) (zs.take k))) (gU (iy (s.take k) (zs.take k))))/\Hid (β w2 wr)) (λ_ i _=>aA zs-(af i).toNat)
  ·exact⟨0,bK _,rfl,⟨by simp [iy,gU],aS ⟨rfl,rfl⟩⟩,aX _ _⟩
  ·
   obtain⟨k,hk,rfl,HO,HB⟩:=hrel;have hsz:=HB.o.size;have cC:=η (aV.o.trans (HB.o.mono IK));by_cases hlt:k<aA zs
   ·have AD:k<aA s:=by omega
    obtain⟨b,o,rfl,hb,d0,d1,d2⟩:=Pw (HS.o.below cC.o) AD;obtain⟨b2,o2,rfl,hb2,hc2⟩:=tV (cM.o.below HB.o) hlt;have cG:=η (aFD AD hlt);have Bi:=aFC s zs k;have hkb:(k:Int)<(aA s:Int):=by omega
    have eY:(0:Int)<=(k:Int):=by omega
    generalize s[k].k=kk at*;generalize s[k].m=mm at*;generalize iy (s.take k) (zs.take k)=ys at*;generalize zs[k]=z at*;by_cases hp:0<z
    ·rw [ifP hp] at cG;go_wp2_with (at_builtin;refine iZ _ rfl _ _ 257 rfl w2.heap.size 196 i0 _ 3 24 underlying257 bu hz0 hz1 hz2 rfl (by decide) _ (aA ys) (gU ys) rfl (HO.o.alloc _) ⟨wr.heap.size,0,aB⟩ 1 1 (Dw.cells ⟨kk,mm,z⟩) rfl rfl (dK _ _ #[_,_,_] (by simp)) (VJ ⟨kk,mm,z⟩) (by simp only [bM];omega) (by omega) (by simp;omega) ?_)
     intro v' w4 hown1 dG _;have dP:Hid (w4.ownsRow w2.heap.size 196 3 v' (aA (iy (s.take (k+1)) (zs.take (k+1)))) (gU (iy (s.take (k+1)) (zs.take (k+1))))):=η (by rw [cG.o,a2s,cN,uM];exact hown1);have ar:=η ((HB.o.alloc hsz _).grown dG (by simp;omega) (λj hj=>eF HO.o j hj));go_wp2
     go_roundw
     ·exact⟨k+1,by omega,by go_num,dP,ar⟩
     simp [af];omega
    rw [ifN hp,List.append_nil] at cG;have jo:=HO.o;rw [<-cG.o] at jo;have cF:=η jo;go_wp2
    go_roundw
    ·exact⟨k+1,by omega,by go_num,cF,HB⟩
    simp [af];omega
   obtain rfl:k=aA zs:=by omega
   have hO:=HO.o;rw [aFB s zs (by omega)] at hO;obtain⟨A3,c3,rfl⟩:=bL hO;have cD:=η (iC hO IK);go_wp2
   go_ret;exact⟨A3,c3,by rw [HG.o];rfl,by rw [HG.o];exact cD.o,cC.o⟩
theorem aKI(ty:bY)(v x:aN)(w:aJ):(Sb #[189,257] ty #[v,x]).run aM w=(Sb #[189,189] ty #[v,x]).run aM w:=by obtain⟨i0,bu,_,_,_⟩:=dJ Px;cases v<;>simp [Sb,run_underlying a1N,run_underlying underlying257,Go.sizeOf,typeInfo,bu]
theorem aFG(L:List Dw):∀u∈gU L,u.oneCell'=aO:=by intro u hu;obtain⟨x,_,hx⟩:=List.mem_flatMap.1 hu;exact VJ x u hx
theorem aFF(L:List Dw):aA (gU L)=aA L*3:=by
 unfold gU;induction L with
 |nil=>rfl
 |cons x L ih=>rw [wZ,cN,ih,uL];simp [Dw.cells];omega
theorem aLt {w:aJ} {ops:Array Oper} {rest:List Oper} {o:Oper} {a:Act} {Q:Exit->Act->aJ->Prop}(hgd:o.guard=aB)(s x:Operand)
 (ho:o.op= .call {callee:= .builtin .append,args:= #[s,x],argTypes:= #[189,257]}) (base:Nat)
 (v:aN) (n:Nat) (xs:List aN) (hs:a.eval s=v) (hown:w.ownsRow base 196 3 v n xs)
 (lo:Nat) (xv:aN) (L:List Dw) (hx:a.eval x=xv) (hz:w.ownsRow lo 196 3 xv (aA L) (gU L)) (hlen:n+aA L<=1000000) (hbase:base<=w.heap.size)
 (h:∀v' w',w'.ownsRow base 196 3 v' (n+aA L) (xs++gU L)->w.grownBy w' v.ownBlock->wpList aM ops Q rest (a.put o.dst v') w'):wpList aM ops Q (o::rest) a w:=by
 obtain⟨i0,bu,hz0,hz1,hz2⟩:=dJ Px;refine wpList_plain hgd λK hK=> ?_
 have hrun:∃v' w',(Sb #[189,189] o.type #[v,xv]).run aM w= .ok v' w'/\w'.ownsRow base 196 3 v' (n+aA L) (xs++gU L)/\w.grownBy w' v.ownBlock:=by
  rcases hz.2 with⟨rfl,h0⟩|⟨g,cap,cur,rfl,_⟩
  ·obtain rfl:L= []:=nO h0;exact⟨v,w,run_append_owned_none (P:=aM) (w:=w) base 189 o.type 196 i0 3 a1N bu v n xs hown,by simpa [gU] using hown,⟨rfl,rfl,rfl,aa _,λ_ _ _=>rfl⟩⟩
  obtain⟨v',w',h1,h2,h3,_⟩:=run_append_own (P:=aM) w base 189 o.type 196 i0 _ 3 24 a1N bu hz0 hz1 hz2 rfl (by decide) v n xs hown ⟨g,0,aB⟩ (aA L) cap (gU L) (aFF L) (λj u hu=>by
   have Di:=aW.cA hz;obtain⟨b,o',e,_,hc⟩:=Di j u hu;have e:=pF e;injection e with e1 e2;subst e1 e2;have ea:(⟨g,0,aB⟩:aj).add j=⟨g,0+j,aB⟩:=by unfold Addr.add;split<;>simp_all
   rw [ea];exact hc) (aFG L) (by simp only [bM];omega) (by omega) hbase
  exact⟨v',w',h1,h2,h3⟩
 obtain⟨v',w',hr,KG,Bb⟩:=hrun;rw [<-aKI] at hr;unfold Oper.wp;simp [execOp,ho,resolve,invoke,builtin,hs,hx,hr,uN];exact hK _ _ (h v' w' KG Bb)
theorem Xc {w:aJ} {base:Nat} {e:bY} {size n:Nat} {v:aN} {xs:List aN}(h:w.ownsRow base e size v n xs) {p:aj}(hp:v.ownBlock≠aC p.block)(u:aN):(w.setCell p u).ownsRow base e size v n xs:=
 h.kept ⟨rfl,rfl,rfl,by simp [Ee],λi _ hi=>nK _ _ _ _ (λe=>hi (by rw [e]))⟩ (Or.inr hp)
theorem a6K {w:aJ} {base:Nat} {e:bY} {size n:Nat} {v:aN} {xs:List aN}(h:w.ownsRow base e size v n xs):∀(j:Nat) (o:Obj),v.ownBlock=aC j->w.heap[j]? =aC o->o.isCells=aO:=by
 intro j o hj ho;rcases h.2 with⟨rfl,_⟩|⟨g,cap,cur,rfl,_,hh,_⟩
 ·cases hj
 have e2:g=j:=by simpa [dy] using hj
 subst e2;rw [hh] at ho;cases ho;rfl
structure Ga(lo:Nat)(W:aJ)(bn bl:Nat)(nd:Int)(u:aN)(L:List Dw):Prop where
 cn:W.cell? ⟨bn,0,aB⟩=aC (ν nd)
 fn:W.frozen? ⟨bn,0,aB⟩=aP
 cl:W.cell? ⟨bl,0,aB⟩=aC u
 fl:W.frozen? ⟨bl,0,aB⟩=aP
 own:W.ownsRow lo 196 3 u (aA L) (gU L)
 ne:bn≠bl
 ln:bn<lo
 ll:bl<lo
 sz:lo<=W.heap.size
structure U4(bn bl:Nat)(u:aN)(W W':aJ):Prop where
 size:W.heap.size<=W'.heap.size
 keep:∀k,k<W.heap.size->k≠bn->k≠bl->aC k≠u.ownBlock->W'.heap[k]? =W.heap[k]?
 oth:KeepsOthers W W'
 os:W'.os=W.os
 tape:W'.tape=W.tape
 output:W'.output=W.output
def yo(st:Int×List Dw)(y:List Dw):Int×List Dw:=(aF.wrap (st.1-sQ (nA y st.1)),st.2++nA y st.1)
theorem aFq {s:List Dw} {need:Int}(h:∀x∈s,aL x.n):∀x∈nA s need,aL x.n:=by intro x hx;unfold nA iy at hx;have hx:=(jD.1 hx).1;obtain⟨i,hi,rfl⟩:=List.getElem_of_mem hx;rw [List.getElem_zipWith];refine aCY (T:=need) (l:=fj s) (λz hz=> ?_) _ (cH (by rw [EZ] at hi;omega));obtain⟨y,hy,rfl⟩:=df.1 hz;exact h y hy
theorem a3Y(s:List Dw)(need:Int):aA (nA s need)<=aA s:=by unfold nA iy;refine bz (qg _ _) ?_;rw [EZ];omega
theorem aJQ(lo bn bl:Nat)(nd:Int)(u:aN)(L s:List Dw)(A:Option aj)(c:Nat)(W:aJ)(h:Ga lo W bn bl nd u L)(hs:aW W W.heap.size A (gU s))(hI:∀x∈s,aL x.n)(hl:aA s<=1000)(hN:aL nd)(hL:aA L<=100000):
 aQ aM 184 #[aH A (aA s) c,π bn,π bl] W λe W'=>(∃v,e=aT v)/\∃u',Ga lo W' bn bl (yo (nd,L) s).1 u' (yo (nd,L) s).2/\U4 bn bl u W W':=by
 have HG:Hid (aQ aM 185 #[aH A (aA s) c,ν nd] W (Yx (nA s nd) W)):=η (aFr s nd A c W hs hI hN hl);have HP:=η h;have CX:=η (aFq (need:=nd) hI);have kG:=a3Y s nd;have LN:Hid (yo (nd,L) s=(aF.wrap (nd-sQ (nA s nd)),L++nA s nd)):=η rfl;have cn:=h.cn;have Mp:bn<W.heap.size:=cP h.ln h.sz;have hlW:bl<W.heap.size:=cP h.ll h.sz;clear h hs hI;rw [LN.o];generalize nA s nd=G at*;obtain⟨tg,Wv⟩:∃t,t=sQ G:=⟨_,rfl⟩;rw [<-Wv];have HTG:=η Wv;clear Wv;go_enter func184,ntmps184
 go_wp2_with fail
 refine HG.o.mono ?_;rintro e w1 ⟨A1,c1,rfl,eK,hb1⟩;have cF:=η eK;have aR:=η hb1;have hz1:=hb1.size;have cn1:=(hb1.cell (p:=⟨bn,0,aB⟩) Mp).trans cn;have fn1:=(hb1.frozen (p:=⟨bn,0,aB⟩) Mp).trans HP.o.fn;clear hb1 eK cn;have Tt:Hid (∀W2,β w1 W2->aQ aM 186 #[aH A1 (aA G) c1] W2 λe w'=>e=aT (ν tg)/\β W2 w'):=η λW2 hW2=>by rw [HTG.o];exact a8F G A1 c1 W2 (((aW.cA cF.o).below hW2).mono hW2.size) CX.o (by omega)
 have jJ:bn<w1.heap.size:=by omega
 go_wp2_with fail
 go_region_with (go_at_call 186;refine(Tt.o _ (by first|exact aX _ _|exact(aX _ _).drew|exact(aX _ _).drew.drew)).mono ?_;rintro e w2 ⟨rfl,dW⟩;have hcw:=(dW.cell (p:=⟨bn,0,aB⟩) jJ).trans cn1;have hfw:=(dW.frozen (p:=⟨bn,0,aB⟩) jJ).trans fn1)
 all_goals
  have hb2:β w1 w2:=((aX _ _).drew).trans dW;have hz2:=hb2.size;have IM:∀g,g<lo->u.ownBlock≠aC g:=λg hg e=>by have:=(HP.o.own.lt g e).1;omega
  have Wx:=HP.o.ln;have a4a:=HP.o.ll;have hgb:(aH A1 (aA G) c1).ownBlock≠aC bn:=λe=>by have:=(cF.o.lt bn e).1;omega
  have hne:=HP.o.ne;have nZ:=HP.o.sz;have BI:Hid (w2.ownsRow lo 196 3 u (aA L) (gU L)):=η (NY (NY HP.o.own aR.o) hb2);have JW:Hid ((w2.setCell ⟨bn,0,aB⟩ (ν (aF.wrap (nd-tg)))).ownsRow lo 196 3 u (aA L) (gU L)):=η (Xc BI.o (IM bn Wx) _);have B2:Hid ((w2.setCell ⟨bn,0,aB⟩ (ν (aF.wrap (nd-tg)))).ownsRow W.heap.size 196 3 (aH A1 (aA G) c1) (aA G) (gU G)):=η (Xc (NY cF.o hb2) hgb _);have cl5:(w2.setCell ⟨bn,0,aB⟩ (ν (aF.wrap (nd-tg)))).cell? ⟨bl,0,aB⟩=aC u:=(gu (a:=⟨bl,0,aB⟩) (nK _ _ _ _ (by simp only [ne_eq];omega))).trans ((hb2.cell (p:=⟨bl,0,aB⟩) (by show bl<w1.heap.size;omega)).trans ((aR.o.cell (p:=⟨bl,0,aB⟩) hlW).trans HP.o.cl));have fl5:(w2.setCell ⟨bn,0,aB⟩ (ν (aF.wrap (nd-tg)))).frozen? ⟨bl,0,aB⟩=aP:=(Lx (a:=⟨bl,0,aB⟩) (nK _ _ _ _ (by simp only [ne_eq];omega))).trans ((hb2.frozen (p:=⟨bl,0,aB⟩) (by show bl<w1.heap.size;omega)).trans ((aR.o.frozen (p:=⟨bl,0,aB⟩) hlW).trans HP.o.fl));have cn5:(w2.setCell ⟨bn,0,aB⟩ (ν (aF.wrap (nd-tg)))).cell? ⟨bn,0,aB⟩=aC (ν (aF.wrap (nd-tg))):=a1U _ _ _ (by rw [hcw];rfl);have fn5:(w2.setCell ⟨bn,0,aB⟩ (ν (aF.wrap (nd-tg)))).frozen? ⟨bn,0,aB⟩=aP:=by rw [a1W];exact hfw
  have hs5:W.heap.size<=(w2.setCell ⟨bn,0,aB⟩ (ν (aF.wrap (nd-tg)))).heap.size:=by simp [Ee];omega
  have EI:Hid (U4 bn bl u W (w2.setCell ⟨bn,0,aB⟩ (ν (aF.wrap (nd-tg))))):=η (by
   have iO:=aR.o.trans (hb2.mono hz1);refine⟨hs5,λk hk h1 _ _=>(nK _ _ _ _ (by simp only [ne_eq];omega)).trans (iO.block k hk),(a4y iO).trans (a0D _ _ _), ?_, ?_, ?_⟩
   ·exact iO.os
   ·exact iO.tape
   exact iO.output)
  clear dW hcw hfw hb2;generalize w2.setCell ⟨bn,0,aB⟩ (ν (aF.wrap (nd-tg)))=w5 at*;go_wp2_with (at_builtin;refine aLt rfl _ _ rfl lo u (aA L) (gU L) rfl JW.o W.heap.size _ G rfl B2.o (by omega) (by omega) ?_)
  intro v' w6 ye xQ;obtain⟨A7,c7,rfl⟩:=bL ye;have IA:bn<w5.heap.size:=by omega
  have hl5:bl<w5.heap.size:=by omega
  have VL:=xQ.block bn IA (λe=>IM bn Wx e.symm);have VK:=xQ.block bl hl5 (λe=>IM bl a4a e.symm);have cl6:w6.cell? ⟨bl,0,aB⟩=aC u:=(gu (a:=⟨bl,0,aB⟩) VK).trans cl5;have fl6:w6.frozen? ⟨bl,0,aB⟩=aP:=(Lx (a:=⟨bl,0,aB⟩) VK).trans fl5;have cn6:=(gu (a:=⟨bn,0,aB⟩) VL).trans cn5;have fn6:=(Lx (a:=⟨bn,0,aB⟩) VL).trans fn5;have HF:Hid (Ga lo (w6.setCell ⟨bl,0,aB⟩ (aH A7 (aA L+aA G) c7)) bn bl (aF.wrap (nd-tg)) (aH A7 (aA L+aA G) c7) (L++G)/\U4 bn bl u W (w6.setCell ⟨bl,0,aB⟩ (aH A7 (aA L+aA G) c7))):=η (by
   have hvb:(aH A7 (aA L+aA G) c7).ownBlock≠aC bl:=λe=>by have:=(ye.lt bl e).1;omega
   have e7n:(w6.setCell ⟨bl,0,aB⟩ (aH A7 (aA L+aA G) c7)).heap[bn]? =w6.heap[bn]? :=nK _ _ _ _ (by simp only [ne_eq];omega);refine⟨⟨(gu (a:=⟨bn,0,aB⟩) e7n).trans cn6,(Lx (a:=⟨bn,0,aB⟩) e7n).trans fn6,a1U _ _ _ (by rw [cl6];rfl),by rw [a1W];exact fl6, ?_,hne,Wx,a4a, ?_⟩,⟨?_,λk hk h1 h2 h3=> ?_, ?_, ?_, ?_, ?_⟩⟩
   ·rw [cN,show gU (L++G)=gU L++gU G by simp [gU]];exact Xc ye hvb _
   ·have:=xQ.size;simp [Ee];omega
   ·have:=xQ.size;simp [Ee];omega
   ·exact(nK _ _ _ _ (by simp only [ne_eq];omega)).trans ((xQ.block k (by have:=EI.o.size;omega) h3).trans (EI.o.keep k hk h1 h2 h3))
   ·exact(EI.o.oth.trans (KeepsOthers.of_grownBy xQ (a6K JW.o))).trans (a0D _ _ _)
   ·exact xQ.os.trans EI.o.os
   ·exact xQ.tape.trans EI.o.tape
   exact xQ.output.trans EI.o.output)
  clear ye xQ VL VK;go_wp2_with fail
  go_end0
  exact⟨⟨_,rfl⟩,_,HF.o⟩
section
open Go.Shelf
attribute [local go_sem] Oper.semAt_some
def tY(need:Int)(ys:List (List Dw)):Int×List Dw:=ys.foldl yo (need,[])
theorem a6R(need:Int)(ys:List (List Dw))(y:List Dw):tY need (ys++ [y])=yo (tY need ys) y:=by unfold tY;rw [List.foldl_append];rfl
theorem aLw(n:Int):aL (aF.wrap n):=by rw [fg];unfold aL;omega
theorem aJM {need:Int}(h:aL need)(ys:List (List Dw)):aL (tY need ys).1:=by
 rcases P1 ys with rfl|⟨zs,y,rfl⟩
 ·exact h
 rw [P0,a6R];exact aLw _
theorem a6S(ys:List (List Dw)):∀st:Int×List Dw,(ys.foldl yo st).2.length<=aA st.2+(ys.map List.length).sum:=by
 induction ys with
 |nil=>intro st;simp
 |cons y ys ih=>
  intro st;rw [Cr,yM,Ea];have h1:=ih (yo st y);have h2:(yo st y).2.length<=aA st.2+aA y:=by unfold yo;rw [cN];have:=a3Y y st.1;omega
  omega
theorem aL8 {α:Type}(f:α->List Dw)(l:List α)(h:∀a,aA (f a)=1):(l.map λa=>aA (f a)).sum=aA l:=by
 induction l with
 |nil=>rfl
 |cons a l ih=>rw [yM,Ea,ih,h,uL];omega
theorem a7d(p:cB)(os:List Int):((fR p os).map List.length).sum<=aA os+aA os+aA p.fu+2:=by unfold fR;rw [dZ,dZ,Ct,Ct,Le,Le];have h1:=aL8 (λm=> [(⟨8,m,cU p.co m⟩:Dw)]) os (λ_=>rfl);have h3:=Kd p.fu os (aA p.fu);simp only [Function.comp_def,yM,List.map_nil,Ea,List.sum_nil,uL,EY] at*;unfold vy;omega
theorem aJN {p:cB} {os:List Int} {pre:List (List Dw)} {y:List Dw}(need:Int)(h:(pre++ [y])<+:fR p os):(tY need pre).2.length<=aA os+aA os+aA p.fu+2:=by have h1:=a6S pre (need,[]);have h2:=a7d p os;obtain⟨t,ht⟩:=h;rw [<-ht,dZ,dZ,Ct,Ct] at h2;unfold tY;simp only [EY,Nat.zero_add] at h1;omega
def sO(p:cB)(os:List Int)(need:Int):Int:=if gH p os≠0 then gH p os else if need<0 then 1 else 0
def oO(p:cB)(os:List Int)(need:Int):List Dw:=if sO p os need=0 then (tY need (fR p os)).2 else []
def a8t(l:List Dw)(err:Int)(w:aJ)(e:dU)(w':aJ):Prop:=∃A c,e=aT (bB #[aH A (aA l) c,aG aF err])/\w'.ownsRow w.heap.size 196 3 (aH A (aA l) c) (aA l) (gU l)/\aY w.heap.size w w'
theorem Ga.grown {lo B:Nat} {W W':aJ} {bn bl:Nat} {nd:Int} {u:aN} {L:List Dw} {row:Option Nat}(h:Ga lo W bn bl nd u L)(hg:W.grownBy W' row)(hr:∀r,row=aC r->B<=r/\∃o:Obj,W.heap[r]? =aC o/\o.isCells=aP):Ga lo W' bn bl nd u L:=by
 have FM:∀r,row=aC r->∃o:Obj,W.heap[r]? =aC o/\o.isCells=aP:=λr e=>(hr r e).2
 refine⟨cell_kept h.cn hg FM,(frozen_kept h.cn hg FM).trans h.fn,cell_kept h.cl hg FM,(frozen_kept h.cl hg FM).trans h.fl,h.own.kept hg ?_,h.ne,h.ln,h.ll,bz h.sz hg.size⟩;cases hu:u.ownBlock with
 |none=>exact .inl rfl
 |some g=>
  refine .inr λe=> ?_
  obtain⟨o,ho,hc⟩:=FM g e.symm;rw [a6K h.own g o hu ho] at hc;cases hc
theorem aJS(p:cB)(os:List Int)(need:Int)(A:Option aj)(c:Nat)(w:aJ)(h:Cu w p)(hc:aA p.co<=bM)(hs:aW w w.heap.size A (os.map (aG aF)))(hl:aA os<=1000)(hI:∀x∈os,aL x)(hN:aL need):
 aQ aM 127 #[p.val,aH A (aA os) c,ν need] w (a8t (oO p os need) (sO p os need) w):=by
 have aZ:Hid (β w ((w.alloc (aK #[aH p.Ac (aA p.co) p.cc,aH p.Af (aA p.fu) p.cf,ν p.line,ν p.cap] 193)).alloc (aK #[ν need] 2))):=η (σ.alloc (by simp) _);have HM:Hid (∀W,β w W->aQ aM 183 #[p.val,aH A (aA os) c] W λe w'=>e=aT (ν (gH p os))/\β W w'):=η λW hW=>a5Y p os A c W (h.below hW) hc ((hs.below hW).mono hW.size) (by omega) hI
 have EO:=η (a6V p os A c w.heap.size w h hs rfl);have rQ:Hid (∀W,aQ aM 187 #[p.val,aH A (aA os) c] W λe w'=>e=aT (.func (.func 221) #[] #[π (W.heap.size+1),π W.heap.size])/\(W.alloc (aK #[aH p.Ac (aA p.co) p.cc,aH p.Af (aA p.fu) p.cf,ν p.line,ν p.cap] 193)).alloc (aK #[aH A (aA os) c] 46)=w'):=η λW=>a7X p A (aA os) c W
 have HE:Hid (sO p os need=if gH p os≠0 then gH p os else if need<0 then 1 else 0):=η rfl;have HL:Hid (oO p os need=if sO p os need=0 then (tY need (fR p os)).2 else []):=η rfl;have TU:=η (λh=>AP (p:=p) (os:=os) h);have HN:=η hN;generalize oO p os need=pl at*;generalize sO p os need=pe at*;unfold cB.val at*;by_cases h0:gH p os=0
 ·rw [ifN (by omega)] at HE;have F:=TU.o h0;rw [h0] at HM;have HF:=η F;by_cases hn:need<0
  ·rw [ifP hn] at HE;rw [HE.o,ifN (by decide)] at HL;rw [HE.o,HL.o];go_enter a0X,a0r
   go_wp2_with fail
   refine(HM.o _ aZ.o).mono ?_;rintro e w1 ⟨rfl,hb1⟩;have aR:Hid (β w w1):=τ aZ hb1;have qn:w1.cell? ⟨w.heap.size+1,0,aB⟩=aC (ν need):=(hb1.cell (p:=⟨w.heap.size+1,0,aB⟩) (by simp)).trans (by rw [cL _ _ _ _ (by simp)];rfl);go_wp2_with fail
   go_ret2;exact⟨aB,0,rfl,fh _ _ _ _,aR.o⟩
  rw [ifN hn] at HE;rw [HE.o,ifP rfl] at HL;rw [HE.o];refine(tF (n:=9)).1 ?_;refine callsIn_of_wp_marks a0X rfl trivial ?_ rfl;simp only [a0r,List.size_toArray,uL,EY,Nat.reduceAdd,Nat.reduceSub,Array.replicate_succ,Array.replicate_zero,List.push_toArray,List.append_toArray,GQ,List.cons_append]
  gi_wp2
  refine⟨trivial, ?_⟩;refine(tF.2 (HM.o _ aZ.o)).mono ?_;rintro e w1 ⟨rfl,hb1⟩;have aR:Hid (β w w1):=τ aZ hb1;have q0:w1.cell? ⟨w.heap.size,0,aB⟩=aC (aH p.Ac (aA p.co) p.cc):=(hb1.cell (p:=⟨w.heap.size,0,aB⟩) (by simp;omega)).trans (by rw [BQ _ _ _ (by simp),cL _ _ _ _ rfl];rfl);have q1:w1.cell? ⟨w.heap.size,1,aB⟩=aC (aH p.Af (aA p.fu) p.cf):=(hb1.cell (p:=⟨w.heap.size,1,aB⟩) (by simp;omega)).trans (by rw [BQ _ _ _ (by simp),cL _ _ _ _ rfl];rfl);have q2:w1.cell? ⟨w.heap.size,2,aB⟩=aC (ν p.line):=(hb1.cell (p:=⟨w.heap.size,2,aB⟩) (by simp;omega)).trans (by rw [BQ _ _ _ (by simp),cL _ _ _ _ rfl];rfl);have q3:w1.cell? ⟨w.heap.size,3,aB⟩=aC (ν p.cap):=(hb1.cell (p:=⟨w.heap.size,3,aB⟩) (by simp;omega)).trans (by rw [BQ _ _ _ (by simp),cL _ _ _ _ rfl];rfl);have qn:w1.cell? ⟨w.heap.size+1,0,aB⟩=aC (ν need):=(hb1.cell (p:=⟨w.heap.size+1,0,aB⟩) (by simp)).trans (by rw [cL _ _ _ _ (by simp)];rfl);have qf:w1.frozen? ⟨w.heap.size+1,0,aB⟩=aP:=(hb1.frozen (p:=⟨w.heap.size+1,0,aB⟩) (by simp)).trans (by rw [a1V _ _ _ _ (by simp)]);have FC:w.heap.size+1<w1.heap.size:=by have:=hb1.size;simp at this;omega
  have aMq:w.heap.size<w1.heap.size:=by omega
  gi_wp2
  refine⟨trivial, ?_⟩;refine(tF.2 (rQ.o _)).mono ?_;rintro e w3 ⟨rfl,hw3⟩;have Dm:((w1.alloc (aK #[aH aB 0 0] 189)).alloc (aK #[.func (.func 184) #[] #[π (w.heap.size+1),π w1.heap.size]] 260)).heap.size=w1.heap.size+2:=by simp
  have fD:Hid (β w1 ((w1.alloc (aK #[aH aB 0 0] 189)).alloc (aK #[.func (.func 184) #[] #[π (w.heap.size+1),π w1.heap.size]] 260))):=η (σ.alloc (by simp) _);have zJ:=EO.o _ (ig.bZ (aR.o.trans (fD.o.mono (by omega))));rw [hw3,Dm] at zJ;have aGu:w3.heap.size=w1.heap.size+4:=by rw [<-hw3];simp
  have Ss:Hid (β w1 w3):=η (by rw [<-hw3];exact(fD.o.alloc (by simp;omega) _).alloc (by simp;omega) _);have ag:Hid (β w w3):=η (aR.o.trans (Ss.o.mono (by omega)));have cn3:=(Ss.o.cell (p:=⟨w.heap.size+1,0,aB⟩) FC).trans qn;have fn3:=(Ss.o.frozen (p:=⟨w.heap.size+1,0,aB⟩) FC).trans qf;have cl3:w3.cell? ⟨w1.heap.size,0,aB⟩=aC (aH aB 0 0):=by rw [<-hw3,qh _ _ _ (by simp;try omega),qh _ _ _ (by simp;try omega),qh _ _ _ (by simp),cL _ _ _ _ rfl];rfl
  have fl3:w3.frozen? ⟨w1.heap.size,0,aB⟩=aP:=by rw [<-hw3,PQ _ _ _ (by simp;omega),PQ _ _ _ (by simp;try omega),PQ _ _ _ (by simp),a1V _ _ _ _ rfl]
  have cf3:w3.cell? ⟨w1.heap.size+1,0,aB⟩=aC (.func (.func 184) #[] #[π (w.heap.size+1),π w1.heap.size]):=by rw [<-hw3,qh _ _ _ (by simp;try omega),qh _ _ _ (by simp;try omega),cL _ _ _ _ (by simp)];rfl
  rw [Dm]
  gi_wp2
  refine a8T (β:=List Dw) rfl (by omega) (gf:=221) (lb:= #[bF (aC ⟨w1.heap.size+2+1,0,aB⟩),π (w1.heap.size+2)]) rfl trivial (enters_of func221 (by kernel_rfl) rfl)
   (a7Y 8 w.heap.size (w1.heap.size+2+1) (w1.heap.size+2) (by omega) p os A c w3 zJ HF.o.os1 HF.o.len (by have:=HF.o.big;omega) hl HF.o.i64.1 HF.o.i64.2.1 HF.o.i64.2.2.1 HF.o.i64.2.2.2)
   a5C (a5B (by omega) (by omega) (by omega)) (aX _ _) a4J
   (λpre W=>((∃u,Ga (w1.heap.size+4) W (w.heap.size+1) w1.heap.size (tY need pre).1 u (tY need pre).2)/\W.cell? ⟨w1.heap.size+1,0,aB⟩=aC (.func (.func 184) #[] #[π (w.heap.size+1),π w1.heap.size]))/\β w W)
   (OwnFrom.and (λs W W' row hs hg hr=>⟨hs.1.imp λu hu=>hu.grown hg hr,cell_kept hs.2 hg (λr e=>(hr r e).2)⟩) (ownFrom_below (aa _) (by omega)))
   ⟨⟨⟨_,cn3,fn3,cl3,fl3,fh _ _ _ _,by omega,by omega,by omega,by omega⟩,cf3⟩,ag.o⟩ ?a1 ?assign ?body ?done
  case assign=>
   intro l v W K hK
   gi_wp2
   exact hK
  case body=>
   rintro l pre y v W ⟨⟨⟨u,hp⟩,nX⟩,gM⟩ ⟨Ay,cy,rfl,N3,Vb,hly⟩ Wm;have hlen:=aJN need Wm;have kp:=HF.o.big;have gW:=HF.o.len;have eJ:=η (aJQ (w1.heap.size+4) (w.heap.size+1) w1.heap.size (tY need pre).1 u (tY need pre).2 y Ay cy W hp N3 Vb hly (aJM HN.o pre) (by omega));have cG:=η (a6R need pre y);have Ce:=η hp;have hfW:w1.heap.size+1<W.heap.size:=by have:=hp.sz;omega
   gi_wp2
   refine⟨trivial, ?_⟩;refine(CallsIn.inRound l (tF.2 eJ.o)).mono ?_;rintro e W' ⟨⟨v9,rfl⟩,u',ni,lz⟩
   gi_wp2
   have IM:∀g,g<w1.heap.size+4->aC g≠u.ownBlock:=λg hg e=>by have:=(Ce.o.own.lt g e.symm).1;omega
   refine⟨lz.oth,⟨lz.size,λk hk eE=>lz.keep k eE (by omega) (by omega) (IM k (by omega))⟩,⟨⟨u',by rw [cG.o];exact ni⟩,(gu (a:=⟨w1.heap.size+1,0,aB⟩) (lz.keep (w1.heap.size+1) hfW (by omega) (by omega) (IM _ (by omega)))).trans nX⟩, ?_⟩;exact⟨lz.os.trans gM.os,lz.tape.trans gM.tape,lz.output.trans gM.output,bz gM.size lz.size,λk hk=>(lz.keep k (cP hk gM.size) (by omega) (by omega) (IM k (by omega))).trans (gM.block k hk)⟩
  case done=>
   rintro D W hD ⟨⟨⟨u,hp⟩,nX⟩,gM⟩ hK;obtain⟨A9,c9,rfl⟩:=bL hp.own;have Ce:=η hp;have cl9:=hp.cl
   gi_wp2
   refine⟨by simp,.inl ⟨_,_,rfl,run_takeDeferred hK, ?_⟩⟩;have hgr:=Ce.o.grown (B:=w3.heap.size) (grownBy_putObj' W D (.deferred aB)) (λr e=>by cases e;exact⟨hD,_,hK,rfl⟩);exact⟨_,results_tmp2 rfl _ _ _,A9,c9,by rw [HL.o];rfl,by rw [HL.o];exact iC hgr.own (by have:=aR.o.size;omega),gM.trans (belowK_b (w:=w) (aa _) W D _ _ (by omega) hK rfl rfl)⟩
 have ID:pe=gH p os:=by rw [HE.o,ifP h0]
 subst ID;rw [ifN h0] at HL;have hen:(gH p os !=0)=aO:=by simpa [bne] using h0
 rw [HL.o];generalize gH p os=me at*;go_enter a0X,a0r
 go_wp2_with fail
 refine(HM.o _ aZ.o).mono ?_;rintro e w1 ⟨rfl,hb1⟩;have aR:Hid (β w w1):=τ aZ hb1;go_wp2_with fail
 go_ret2;exact⟨aB,0,rfl,fh _ _ _ _,aR.o⟩
end
end Go.Proofs.YtdokipdchlcmeaaGreat
