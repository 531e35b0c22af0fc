/-
  Several texts in one, for one claim (printed by pack.py).
-/
import Derived.Test.YtdokipdchlcmeaaGreatPg6
import Derived.RangeFuncNested
import Derived.RangeFuncBound
import Derived.RangeFuncCalls
import Derived.RangeFuncLeaves
import Derived.RangeFuncFrom
import Derived.Shelf.Abstract
import Derived.Shelf.RegionOpen
import Derived.OwnWalkIn
import Derived.TacticsInMore
import Derived.LoopNIn
import Derived.LoopIn
import Derived.TacticsIn
import Derived.RegionIn
set_option linter.all false
set_option maxRecDepth 100000
set_option maxHeartbeats 12800000
open And renaming intro→kT
open Array renaming getElem?_eq_some_iff→fW,getElem?_eq_none→Iu
open Bool renaming true→aO,false→aP,and_eq_true→jb,and_false→Iw,not_eq_true'→SV,false_eq_true→Yj
open Go renaming World→aJ,Value→aN,Calls→aQ,Addr→aj,maxLen→bM,TypeId→bY,heap_alloc_new→cO,info_parts→dL,Ending→dU,rounds_succ→eC,wpList_append_own→j9,callsIn_wide→sj,wp_loop_rounds→ug,grownCap→xM
open Go.Builtin renaming zeroCells→E5,append_→SX
open Go.Ending renaming returned→aT
open Go.Fence renaming wide→Kn
open Go.IntKind renaming i64→aF,wrap_i64→fZ
open Go.IntWalk renaming i64_in→sR
open Go.KeepsOthers renaming setCell→a0D
open Go.Obj renaming cells→aK
open Go.Proofs renaming intOf→ag
open Go.Proofs.Tryz renaming prog→aM,underlying53→mP,func127→a0X,func220→a0e,ntmps127→a0r,ntmps220→a0y,underlying189→a1N,func119→aAZ,func132→aAd,func27→aAw,func35→aB3,func59→aB6,ntmps119→aBM,ntmps132→aBQ,ntmps27→aBj,ntmps35→aBo,ntmps59→aBs
open Go.Result renaming andThen→uH
open Go.RowKit renaming Below→aa
open Go.RowKit.Below renaming refl→aX,size→gT,trans→jt,heap_setCell→nK
open Go.Value renaming int→aG,slice→aH,tuple→bB,pointer→bF,bool→bJ,agg→bU,ownBlock→dy
open Go.World renaming ownsRow_nil→gC,cell?_of_block→gh,ownsRow→jw,cell?_alloc_lt→qg,size_alloc→Cz,setCell→EY,grownBy_alloc→Gk,frozen?_of_block→Lv,frozen?_alloc_past→PM,putObj_heap_other→PN,cell?_setCell_same'→a1U,frozen?_alloc_at→a1V,frozen?_setCell→a1W,putObj→aCJ,putObj_heap_same→aCK
open Int renaming le_refl→dJ
open List renaming length→aA,getElem_mem→cK,length_append→cN,take_length→cT,range→dQ,mem_map→dW,map_append→df,mem_cons→fC,take_succ_eq_append_getElem→fE,getElem?_eq_getElem→iD,length_map→iR,mem_filter→jD,any_eq_true→jv,zipWith→kN,eq_nil_of_length_eq_zero→nO,mem_range→nP,take_zero→nQ,length_filter_le→qd,getD_eq_getElem?_getD→sV,length_cons→uF,length_singleton→uG,length_take→uz,flatMap_cons→wZ,map_cons→yM,foldl_cons→Ck,sum_append→Cm,length_nil→ES,length_zipWith→ET,sum_cons→EU,zipWith_cons_cons→EW,nil_append→GL,all_eq_false→JZ,drop_eq_getElem_cons→Ja,getElem?_eq_none→Lc,map_map→Ld,concat_eq_append→Ox,eq_nil_or_concat→Oy,prefix_append→a0I,flatMap_singleton→a9u,map_singleton→a9z
open Nat renaming le_refl→aZ,zero_le→bL,le_trans→bz,lt_of_lt_of_le→cP,lt_or_ge→rQ
open Option renaming none→aB,some→aC
open Option.some renaming inj→pE
open Or renaming inl→aS
namespace Go.Proofs.YtdokipdchlcmeaaGreat
open Go.Proofs.Tryz Go.RowKit
structure fX(D:Dk):Prop where
 lI:∀y∈D.l,aL y
 hl:aA D.h<=100
 wl:aA D.who<=100
 gl:aA D.log<=90000
 ob:sM D.ob
 bl:aA D.bx<=1000
 st:aL D.st
def bj(D:Dk)(fk fm tk tm a n:Int):List Int:=if lV (aA D.x.ms) (aA D.x.ss+1) D.l D.h (kr fk fm tk tm a n)=0 then kD (aA D.x.ms) (aA D.x.ss+1) D.l (kr fk fm tk tm a n) else D.l
def uZ(D:Dk)(fk fm tk tm a n:Int):Int:=lV (aA D.x.ms) (aA D.x.ss+1) D.l D.h (kr fk fm tk tm a n)
theorem bW.moved {w w':aJ} {db:Nat} {p:Dp} {D:Dk} {es:List En} {E:dU}(H:bW w db p D)(h:Uf p.vb p.vp (aA D.x.ms) (aA D.x.ss+1) (aA D.x.ms) D.l D.h es w E w'):E=aT (aG aF (lV (aA D.x.ms) (aA D.x.ss+1) D.l D.h es))/\aq db p {D with l:=if lV (aA D.x.ms) (aA D.x.ss+1) D.l D.h es=0 then kD (aA D.x.ms) (aA D.x.ss+1) D.l es else D.l} w w':=by
 obtain⟨SP,rfl,hv,hu,hs⟩:=h;refine⟨rfl, {p with vp:=SP},H.a8N (hu.mono (λk hk=> .inl (.inl hk))) hv,rfl,rfl,rfl,rfl,hu.mono (λk hk=> .inl (.inr (.inl (.inl hk)))), ?_⟩;rintro k (e|e|e|e|e|e)
 ·exact .inl (.inl e)
 ·exact(hs k e).imp (λh=> .inr (.inl h)) id
 ·exact .inl (.inr (.inr (.inl e)))
 ·exact .inl (.inr (.inr (.inr (.inl e))))
 ·exact .inl (.inr (.inr (.inr (.inr (.inl e)))))
 exact .inl (.inr (.inr (.inr (.inr (.inr e)))))
theorem Gz(db:Nat)(p:Dp)(D:Dk)(fk fm tk tm a n:Int)(w:aJ)(H:bW w db p D)(hO:fX D)(hf:aL fk/\aL fm)(ht:aL tk/\aL tm)(ha:aL a)(hn:aL n)(ly:0<=n):
 aQ aM 87 #[π p.vb,bU #[ν fk,ν fm],bU #[ν tk,ν tm],ν a,ν n] w λe w'=>e=aT (ν (uZ D fk fm tk tm a n))/\aq db p {D with l:=bj D fk fm tk tm a n} w w'/\w'.cell? ⟨db,8,aB⟩=aC (π p.vb):=by
 refine(aLW p.vb p.vp (aA D.x.ms) (aA D.x.ss+1) (aA D.x.ms) D.l D.h fk fm tk tm a n w H.vt hf ht ha hn ly hO.lI (by have:=hO.hl;omega)).mono ?_;intro e w' h;obtain⟨h1,h2⟩:=H.moved h;refine⟨h1,h2, ?_⟩;obtain⟨p1,H1,e1,_⟩:=h2;rw [<-e1];exact H1.cells.c8
def Dv(D:Dk)(m n:Int):Int:=if nk D m n≠0 then nk D m n else if 0<pS n (1099511627776-balA (aA D.x.ms) (aA D.x.ss+1) D.l 8 m 0) then 2 else 0
def Nr(D:Dk)(m n:Int):Dk:= {D with l:=bj D 7 m 8 m 0 n,log:=D.log++ [⟨17,m,0,n,0⟩]}
def AY(D:Dk)(m n:Int):Dk:=if Dv D m n=0 then Nr D m n else D
def SL(D:Dk)(m n:Int):Int:=if Dv D m n=0 then balA (aA D.x.ms) (aA D.x.ss+1) (Nr D m n).l 8 m 0 else 0
def CD(db:Nat)(p:Dp)(D':Dk)(v er:Int)(w:aJ)(e:dU)(w':aJ):Prop:=e=aT (bB #[aG aF v,aG aF er])/\aq db p D' w w'
theorem aEk(db:Nat)(p:Dp)(D:Dk)(m n:Int)(w:aJ)(H:bW w db p D)(hO:fX D)(hm:aL m)(hn:aL n)(K6:aL (1099511627776-balA (aA D.x.ms) (aA D.x.ss+1) D.l 8 m 0)):
 aQ aM 36 #[π db,ν m,ν n] w (CD db p (AY D m n) (SL D m n) (Dv D m n) w):=by
 have HE:Hid (Dv D m n=if nk D m n≠0 then nk D m n else if 0<pS n (1099511627776-balA (aA D.x.ms) (aA D.x.ss+1) D.l 8 m 0) then 2 else 0):=η rfl;have uq:Hid (nk D m n=0->1<=n):=η (by
  intro h;unfold nk at h;split at h
  ·rename_i h1;exact absurd h h1
  split at h
  ·cases h
  split at h
  ·cases h
  omega)
 have HM:=η (a2m db p D m n w H hm (by have:=hO.wl;omega));have HF:=η H;have HO:=η hO;have ew:=η (λW (hW:β w W)=>zk db p D 8 m 0 W (H.below hW) (by decide) hm);have zG:=η (λW=>V7 n (1099511627776-balA (aA D.x.ms) (aA D.x.ss+1) D.l 8 m 0) hn K6 W);have hb1:=K6.1;have hb2:=K6.2;generalize nk D m n=me at*;generalize Vn:balA (aA D.x.ms) (aA D.x.ss+1) D.l 8 m 0=bq at*;generalize pS n (1099511627776-bq)=ov at*;go_enter func36,ntmps36
 go_upto_region 2 with (go_at_call 85;refine mG HM.o λw1 aR=> ?_)
 by_cases h1:me=0
 case neg=>
  have hb:(me==0)=aP:=by simpa using h1
  have HT:Hid (Dv D m n=me):=η (by rw [HE.o,ifP h1]);have mK:Hid (me≠0):=η h1;go_wp2
  go_ret2;refine⟨?_, ?_⟩
  ·unfold SL;rw [HT.o,ifN mK.o];rfl
  unfold AY;rw [HT.o,ifN mK.o];exact aq.bZ HF.o aR.o
 have kB:=uq.o h1;subst h1;have Z2:=η (λW (hW:β w1 W)=>ew.o W (aR.o.trans (hW.mono aR.o.size)));by_cases h2:0<ov
 ·have HT:Hid (Dv D m n=2):=η (by rw [HE.o,ifN (by simp),ifP h2]);go_wp2_with (first|(go_at_call 47;refine mG (za m _) λw2 aV=> ?_)|(go_at_call 46;refine κ (Z2.o _ aV.o) aV λw3 af=> ?_)|(go_at_call 86;refine(zG.o _).mono ?_;rintro e w4 ⟨rfl,hb4⟩;have ar:=η (aR.o.trans ((af.o.trans (hb4.mono af.o.size)).mono aR.o.size))))
  go_ret2;refine⟨?_, ?_⟩
  ·unfold SL;rw [HT.o];rfl
  unfold AY;rw [HT.o];exact aq.bZ HF.o ar.o
 have HT:Hid (Dv D m n=0):=η (by rw [HE.o,ifN (by simp),ifN h2]);go_upto_region 6 with (first|(go_at_call 47;refine mG (za m _) λw2 aV=> ?_)|(go_at_call 46;refine κ (Z2.o _ aV.o) aV λw3 af=> ?_)|(go_at_call 86;refine(zG.o _).mono ?_;rintro e w4 ⟨rfl,hb4⟩;have ar:=η (aR.o.trans ((af.o.trans (hb4.mono af.o.size)).mono aR.o.size))))
 have lG:=η (HF.o.below ar.o);have lZ:=η (λW (hW:β w4 W)=>Gz db p D 7 m 8 m 0 n W (lG.o.below hW) HO.o ⟨by decide,hm⟩ ⟨by decide,hm⟩ (by decide) hn (by omega));have bO:=η (λW (hW:β w4 W)=>(lG.o.below hW).cells.c8);have bP:β w4 w4.drew:=(aX _ _).drew;have hdd:=bO.o _ bP;go_region_held3 (λW=>W.cell? ⟨db,8,aB⟩=aC (π p.vb)) (first|(with_reducible assumption)) (first|(go_at_call 47;refine(za m _).mono ?_;rintro e w5 ⟨rfl,gD⟩;have qK:β w4 w5:=jt (by with_reducible assumption) (gD.mono (gT (by with_reducible assumption)));have hcc:=bO.o _ qK)|(go_at_call 49;refine(Ed m _).mono ?_;rintro e w6 ⟨rfl,tI⟩;have xN:β w4 w6:=jt (by with_reducible assumption) (tI.mono (gT (by with_reducible assumption)));have qu:=bO.o _ xN)|(go_at_call 87;refine(lZ.o _ (by with_reducible assumption)).mono ?_;rintro e w7 ⟨rfl,dE,hcm⟩))
 have gA:Hid (aq db p {D with l:=bj D 7 m 8 m 0 n} w w7):=η (aq.trans (bC.bZ _ (ar.o.trans (Below.mono (by with_reducible assumption) ar.o.size))) (λ_ h=> .inl h) ⟨rfl,rfl,rfl,rfl⟩ dE);obtain⟨p1,H1,e1,e2,e3,e4,dA,hs1⟩:=gA.o;have kU:=η (H1.below ((aX w7.heap.size w7).alloc (aZ _) (aK #[ν 17,ν m,ν 0,ν n,ν 0] 45)));have kW:=η (xK db p1 {D with l:=bj D 7 m 8 m 0 n} [⟨17,m,0,n,0⟩] w7.heap.size 1 _ kU.o (dN w7 45 #[ν 17,ν m,ν 0,ν n,ν 0] rfl) (by simp) (by simp) (by have:=HO.o.gl;simp only;omega));have pg:Hid (∀W,aq db p1 {D with l:=bj D 7 m 8 m 0 n,log:=D.log++ [⟨17,m,0,n,0⟩]} (w7.alloc (aK #[ν 17,ν m,ν 0,ν n,ν 0] 45)) W->aq db p (Nr D m n) w W):=η (λW h=>aq.trans dA hs1 ⟨e1,e2,e3,e4⟩ (aq.trans (bC.bZ _ σ) (λ_ h=> .inl h) ⟨rfl,rfl,rfl,rfl⟩ h));go_wp2_with (first|(go_at_call 55;refine kW.o.mono ?_;rintro e w8 ⟨rfl,h8⟩;have dw:=η (pg.o _ h8))|(go_at_call 47;refine(za m _).mono ?_;rintro e w9 ⟨rfl,gK⟩;have rJ:=η (dw.o.below gK);obtain⟨p2,h2,_⟩:=rJ.o;have H2:=η h2)|(go_at_call 46;refine(zk db p2 (Nr D m n) 8 m 0 _ H2.o (by decide) hm).mono ?_;rintro e sK ⟨rfl,vQ⟩;have Fw:=η (rJ.o.below vQ)))
 go_ret2;refine⟨?_, ?_⟩
 ·unfold SL;rw [HT.o];rfl
 unfold AY;rw [HT.o];exact Fw.o
def Fe(D:Dk)(m n:Int):Int:=if nk D m n≠0 then nk D m n else uZ D 8 m 7 m 0 n
def Nq(D:Dk)(m n:Int):Dk:= {D with l:=bj D 8 m 7 m 0 n,log:=D.log++ [⟨18,m,0,n,0⟩]}
def AX(D:Dk)(m n:Int):Dk:=if Fe D m n=0 then Nq D m n else D
def SF(D:Dk)(m n:Int):Int:=if Fe D m n=0 then balA (aA D.x.ms) (aA D.x.ss+1) (Nq D m n).l 8 m 0 else 0
theorem a5e {D:Dk} {m n:Int}(h:nk D m n=0):1<=n:=by
 unfold nk at h;split at h
 ·rename_i h1;exact absurd h h1
 split at h
 ·cases h
 split at h
 ·cases h
 omega
theorem aEj(db:Nat)(p:Dp)(D:Dk)(m n:Int)(w:aJ)(H:bW w db p D)(hO:fX D)(hm:aL m)(hn:aL n):
 aQ aM 37 #[π db,ν m,ν n] w (CD db p (AX D m n) (SF D m n) (Fe D m n) w):=by
 have HE:Hid (Fe D m n=if nk D m n≠0 then nk D m n else uZ D 8 m 7 m 0 n):=η rfl;have uq:Hid (nk D m n=0->1<=n):=η a5e;have HM:=η (a2m db p D m n w H hm (by have:=hO.wl;omega));have HF:=η H;have HO:=η hO;generalize nk D m n=me at*;go_enter func37,ntmps37
 go_upto_region 2 with (go_at_call 85;refine mG HM.o λw4 ar=> ?_)
 by_cases h1:me=0
 case neg=>
  have hb:(me==0)=aP:=by simpa using h1
  have HT:Hid (Fe D m n=me):=η (by rw [HE.o,ifP h1]);have mK:Hid (me≠0):=η h1;go_wp2
  go_ret2;refine⟨?_, ?_⟩
  ·unfold SF;rw [HT.o,ifN mK.o];rfl
  unfold AX;rw [HT.o,ifN mK.o];exact aq.bZ HF.o ar.o
 have kB:=uq.o h1;subst h1;have HT:Hid (Fe D m n=uZ D 8 m 7 m 0 n):=η (by rw [HE.o,ifN (by simp)]);go_upto_region 4 with (fail)
 have lG:=η (HF.o.below ar.o);have lZ:=η (λW (hW:β w4 W)=>Gz db p D 8 m 7 m 0 n W (lG.o.below hW) HO.o ⟨by decide,hm⟩ ⟨by decide,hm⟩ (by decide) hn (by omega));have bO:=η (λW (hW:β w4 W)=>(lG.o.below hW).cells.c8);have bP:β w4 w4.drew:=(aX _ _).drew;have hdd:=bO.o _ bP;have wU:Hid (uZ D 8 m 7 m 0 n≠0->bj D 8 m 7 m 0 n=D.l):=η (λh=>by unfold bj;rw [ifN];exact h);generalize uZ D 8 m 7 m 0 n=XP at*;go_region_held3 (λW=>W.cell? ⟨db,8,aB⟩=aC (π p.vb)) (first|(with_reducible assumption)) (first|(go_at_call 47;refine(za m _).mono ?_;rintro e w5 ⟨rfl,gD⟩;have qK:β w4 w5:=jt (by with_reducible assumption) (gD.mono (gT (by with_reducible assumption)));have hcc:=bO.o _ qK)|(go_at_call 49;refine(Ed m _).mono ?_;rintro e w6 ⟨rfl,tI⟩;have xN:β w4 w6:=jt (by with_reducible assumption) (tI.mono (gT (by with_reducible assumption)));have qu:=bO.o _ xN)|(go_at_call 87;refine(lZ.o _ (by with_reducible assumption)).mono ?_;rintro e w7 ⟨rfl,dE,hcm⟩))
 have gA:Hid (aq db p {D with l:=bj D 8 m 7 m 0 n} w w7):=η (aq.trans (bC.bZ _ (ar.o.trans (Below.mono (by with_reducible assumption) ar.o.size))) (λ_ h=> .inl h) ⟨rfl,rfl,rfl,rfl⟩ dE);by_cases h2:XP=0
 case neg=>
  have hb:(XP==0)=aP:=by simpa using h2
  have mK:Hid (XP≠0):=η h2;have JN:Hid (aq db p D w w7):=η (by have h:=gA.o;rw [wU.o h2] at h;exact h);go_wp2
  go_ret2;refine⟨?_, ?_⟩
  ·unfold SF;rw [HT.o,ifN mK.o];rfl
  unfold AX;rw [HT.o,ifN mK.o];exact JN.o
 subst h2;obtain⟨p1,H1,e1,e2,e3,e4,dA,hs1⟩:=gA.o;have kU:=η (H1.below ((aX w7.heap.size w7).alloc (aZ _) (aK #[ν 18,ν m,ν 0,ν n,ν 0] 45)));have kW:=η (xK db p1 {D with l:=bj D 8 m 7 m 0 n} [⟨18,m,0,n,0⟩] w7.heap.size 1 _ kU.o (dN w7 45 #[ν 18,ν m,ν 0,ν n,ν 0] rfl) (by simp) (by simp) (by have:=HO.o.gl;simp only;omega));have pg:Hid (∀W,aq db p1 {D with l:=bj D 8 m 7 m 0 n,log:=D.log++ [⟨18,m,0,n,0⟩]} (w7.alloc (aK #[ν 18,ν m,ν 0,ν n,ν 0] 45)) W->aq db p (Nq D m n) w W):=η (λW h=>aq.trans dA hs1 ⟨e1,e2,e3,e4⟩ (aq.trans (bC.bZ _ σ) (λ_ h=> .inl h) ⟨rfl,rfl,rfl,rfl⟩ h));go_wp2_with (first|(go_at_call 55;refine kW.o.mono ?_;rintro e w8 ⟨rfl,h8⟩;have dw:=η (pg.o _ h8))|(go_at_call 47;refine(za m _).mono ?_;rintro e w9 ⟨rfl,gK⟩;have rJ:=η (dw.o.below gK);obtain⟨p2,h2,_⟩:=rJ.o;have H2:=η h2)|(go_at_call 46;refine(zk db p2 (Nq D m n) 8 m 0 _ H2.o (by decide) hm).mono ?_;rintro e sK ⟨rfl,vQ⟩;have Fw:=η (rJ.o.below vQ)))
 go_ret2;refine⟨?_, ?_⟩
 ·unfold SF;rw [HT.o];rfl
 unfold AX;rw [HT.o];exact Fw.o
section
theorem a5f {M A:Nat} {l:List Int} {es:List En} {y:Int}:∀(qs:List (Int×Int×Int)) (acc:List Int),y∈l7 acc (qs.map (jx M A l es))->y∈acc\/∃q∈qs,y=kf M A l q+fA es q
 | [],acc,h=> .inl h
 |q::qs,acc,h=>by
  have e:l7 acc ((q::qs).map (jx M A l es))=l7 (acc.set (jx M A l es q).p.toNat (jx M A l es q).n) (qs.map (jx M A l es)):=by grind [l7]
  rw [e] at h;rcases a5f qs _ h with h|⟨q',h1,h2⟩
  ·rcases List.mem_or_eq_of_mem_set h with h|h
   ·exact .inl h
   exact .inr ⟨q,by simp,h⟩
  grind
theorem aIG {M A:Nat} {l:List Int} {es:List En}(h:xt M A l es)(hl:∀y∈l,aL y):∀y∈kD M A l es,aL y:=by
 intro y hy;unfold kD kg at hy;rcases a5f _ _ hy with hy|⟨q,hq,rfl⟩
 ·exact hl y hy
 exact(h.ovr q hq).2
structure nN(M A:Nat)(l:List Int):Prop where
 len:aA l=A*(6+3*M)
 row:∀a,a<A->sumI (Dq M l a)=0
 pos:∀k m a n,plcA M A k m a=aC n->tH k=aP->0<=balA M A l k m a
 I:∀y∈l,aL y
theorem YW {M A:Nat} {l:List Int} {h:List Hr} {es:List En}(hv:lV M A l h es=0):xt M A l es/\(∀q∈dB es,tH q.1=aP->fA es q<0->0<=kf M A l q+fA es q):=by
 unfold lV at hv;split at hv
 ·omega
 rename_i h1;have h1:nT M A l es=0:=by omega
 unfold nT at h1;split at h1
 ·omega
 rename_i h2;split at h1
 ·cases h1
 rename_i h3;refine⟨aDf (by omega), ?_⟩;intro q hq hf hs;have hb:rU (jx M A l es q)=aP:=by
  cases hb:rU (jx M A l es q) with
  |false=>rfl
  |true=>exact absurd (jv.2 ⟨_,dW.2 ⟨q,hq,rfl⟩,hb⟩) h3
 grind [rU,jx]
theorem nN.post {M A:Nat} {l:List Int} {h:List Hr} {es:List En}(H:nN M A l)(hA:A<=9)(hv:lV M A l h es=0):nN M A (kD M A l es):=by
 obtain⟨hc,hf⟩:=YW hv;refine⟨(aIH _ _ _ _).trans H.len,λa ha=>(aII H.len hc (by omega)).trans (H.row a ha), ?_,aIG hc H.I⟩;intro k m a n hn hk;have e:=KU H.len hc (q:=(k,m,a)) hn;have h0:=H.pos k m a n hn hk;have e1:kf M A (kD M A l es) (k,m,a)=balA M A (kD M A l es) k m a:=rfl;have e2:kf M A l (k,m,a)=balA M A l k m a:=rfl;rw [<-e1,e];by_cases hs:fA es (k,m,a)<0
 ·grind [YL]
 rw [e2];omega
theorem SA(fk fm tk tm a n:Int)(q:Int×Int×Int):fA (kr fk fm tk tm a n) q=(if q=(fk,fm,a) then-n else 0)+(if q=(tk,tm,a) then n else 0):=by have e:kr fk fm tk tm a n=([]++ [⟨fk,fm,a,-n⟩])++ [⟨tk,tm,a,n⟩]:=rfl;rw [e,Im,Im];have:fA [] q=0:=rfl;rw [this,Int.zero_add];rfl
theorem aDH(fk fm tk tm a n:Int)(i:Nat):sumI (gq (kr fk fm tk tm a n) i)=0:=by grind [gq,kr,sumI]
theorem a5d {fk fm tk tm a n:Int} {q:Int×Int×Int}(h:q∈dB (kr fk fm tk tm a n)):q=(fk,fm,a)\/q=(tk,tm,a):=by
 obtain⟨x,hx,e⟩:=KT.1 h;simp only [kr,fC,List.not_mem_nil,or_false] at hx;rcases hx with rfl|rfl
 ·exact .inl e.symm
 exact .inr e.symm
section
variable {D:Dk}
theorem NM {fk fm tk tm a n:Int} {i j:Nat}(hf:plcA (aA D.x.ms) (aA D.x.ss+1) fk fm a=aC i)(ht:plcA (aA D.x.ms) (aA D.x.ss+1) tk tm a=aC j)(hne:¬(fk=tk/\fm=tm))(ly:0<=n)(hn:aL n)
 (h1:tH fk=aO\/(n<=balA (aA D.x.ms) (aA D.x.ss+1) D.l fk fm a/\iL D.h fk fm a<=balA (aA D.x.ms) (aA D.x.ss+1) D.l fk fm a-n)) (hr1:aL (balA (aA D.x.ms) (aA D.x.ss+1) D.l fk fm a-n)) (hr2:aL (balA (aA D.x.ms) (aA D.x.ss+1) D.l tk tm a+n)) (hlen:aA D.l=((aA D.x.ss+1))*(6+3*(aA D.x.ms))):uZ D fk fm tk tm a n=0:=by
 have Mn:aL (-n):=by grind [aL]
 have hqn:((fk,fm,a):Int×Int×Int)≠(tk,tm,a):=λe=>hne ⟨congrArg Prod.fst e,congrArg (λx=>x.2.1) e⟩
 have hs1:fA (kr fk fm tk tm a n) (fk,fm,a)= -n:=by grind [SA]
 have hs2:fA (kr fk fm tk tm a n) (tk,tm,a)=n:=by grind [SA]
 have hc:xt (aA D.x.ms) (aA D.x.ss+1) D.l (kr fk fm tk tm a n):=by
  refine⟨by simp [kr], ?_,λi _=>aDH _ _ _ _ _ _ i, ?_⟩
  ·intro x hx;simp only [kr,fC,List.not_mem_nil,or_false] at hx;rcases hx with rfl|rfl
   ·exact⟨i,hf⟩
   exact⟨j,ht⟩
  intro q hq;rcases a5d hq with rfl|rfl
  ·rw [hs1];exact⟨Mn,hr1⟩
  rw [hs2];exact⟨hn,hr2⟩
 unfold uZ lV;have hb:nT (aA D.x.ms) (aA D.x.ss+1) D.l (kr fk fm tk tm a n)=0:=by unfold nT;rw [ifN (by rw [a2G hc];simp),ifN];intro ha;obtain⟨c,hc1,hc2⟩:=jv.1 ha;obtain⟨q,hq,rfl⟩:=dW.1 hc1;grind [a5d,rU,jx,kf]
 rw [ifN (by rw [hb];simp),ifN];intro ha;obtain⟨x,hx,hx2⟩:=jv.1 ha;simp only [kr,fC,List.not_mem_nil,or_false] at hx;rcases hx with rfl|rfl
 ·unfold s8 at hx2;simp only [jb,decide_eq_true_eq,SV] at hx2;obtain⟨⟨a1,a2⟩,a3⟩:=hx2;have e:=KU hlen hc (q:=(fk,fm,a)) hf;rw [hs1] at e;have e2:kf (aA D.x.ms) (aA D.x.ss+1) D.l (fk,fm,a)=balA (aA D.x.ms) (aA D.x.ss+1) D.l fk fm a:=rfl;have a3':kf (aA D.x.ms) (aA D.x.ss+1) (kD (aA D.x.ms) (aA D.x.ss+1) D.l (kr fk fm tk tm a n)) (fk,fm,a)<iL D.h fk fm a:=a3;grind
 unfold s8 at hx2;simp only [jb,decide_eq_true_eq,SV] at hx2;obtain⟨⟨a1,a2⟩,a3⟩:=hx2;have e:=KU hlen hc (q:=(tk,tm,a)) ht;rw [hs2] at e;have a2':kf (aA D.x.ms) (aA D.x.ss+1) (kD (aA D.x.ms) (aA D.x.ss+1) D.l (kr fk fm tk tm a n)) (tk,tm,a)<kf (aA D.x.ms) (aA D.x.ss+1) D.l (tk,tm,a):=a2;omega
theorem aI4 {fk fm tk tm a n:Int}(h:uZ D fk fm tk tm a n=0)(hlen:aA D.l=((aA D.x.ss+1))*(6+3*(aA D.x.ms))) {k m b:Int} {i:Nat}(hp:plcA (aA D.x.ms) (aA D.x.ss+1) k m b=aC i):balA (aA D.x.ms) (aA D.x.ss+1) (bj D fk fm tk tm a n) k m b=balA (aA D.x.ms) (aA D.x.ss+1) D.l k m b+((if (k,m,b)=(fk,fm,a) then-n else 0)+(if (k,m,b)=(tk,tm,a) then n else 0)):=by have h':lV (aA D.x.ms) (aA D.x.ss+1) D.l D.h (kr fk fm tk tm a n)=0:=h;unfold bj;rw [ifP h',<-SA];exact KU hlen (YW h').1 (q:=(k,m,b)) hp
theorem nN.mv {fk fm tk tm a n:Int}(H:nN (aA D.x.ms) (aA D.x.ss+1) D.l)(hA:aA D.x.ss<=8):nN (aA D.x.ms) (aA D.x.ss+1) (bj D fk fm tk tm a n):=by
 by_cases h:lV (aA D.x.ms) (aA D.x.ss+1) D.l D.h (kr fk fm tk tm a n)=0
 ·unfold bj;rw [ifP h];exact H.post (by omega) h
 grind [bj]
end
end
def Bg(m a:Int)(L:List Ob):Int:=if dS m a L<(aA L) then 0 else 8
def Bh(m a:Int)(L:List Ob):Int:=match L[dS m a L]? with
 |none=>0
 |some x=>x.size-x.done
theorem a6o {k:IntKind} {a b c d:Int}(h:a=c)(h':b=d):
 aT (bB #[aG k a,aG k b])=aT (bB #[aG k c,aG k d]):=by rw [h,h']
theorem a5s(L:List Ob)(m a:Int)(v:aN)(bs base:Nat)(w:aJ)(h:fN w bs base v L)(hL:sM L):
 aQ aM 119 #[π bs,ν m,ν a] w λe w'=>e=aT (bB #[ν (Bh m a L),ν (Bg m a L)])/\β w w':=by
 have hl:aA L<=1000000:=by have:=hL.len;omega
 have HH:=η h;by_cases hi:dS m a L<aA L
 ·have HI:=η (VO hi);have hE:Bg m a L=0:=by unfold Bg;rw [ifP hi]
  have hV:Bh m a L=L[dS m a L].size-L[dS m a L].done:=by unfold Bh;rw [iD hi]
  obtain⟨o1,o2,o3,o4,o5⟩:=hL.each _ (cK hi);have HE:=η hE;have HV:=η hV;generalize dS m a L=i at*;have cE:=η o1;have hs2:L[i].size<=9223372036854775807:=by unfold Ob.size;unfold fJ at o1;split<;>omega
  go_enter aAZ,aBM
  go_wp2_with fail
  refine(KW L m a v bs base _ HH.o hl).mono ?_;rintro e w1 ⟨rfl,hb1⟩;rw [HI.o];obtain⟨g,cap,rfl,hg,hgb,Ex,vU,d0,d1,d2,d3,d4,d5⟩:=Kh (HH.o.below hb1) hi;have c0:=(HH.o.below hb1).c0;have F6:=(HH.o.below hb1).lt;have aR:=η hb1;have hz1:=hb1.size;have hkb:(i:Int)<(aA L:Int):=by omega
  have eY:(0:Int)<=(i:Int):=by omega
  have yb:aF.wrap (L[i].size-L[i].done)=L[i].size-L[i].done:=sR _ (by omega);go_wp2_with fail
  go_region_held3 (λw'=>w'.cell? ⟨bs,0,aB⟩=aC (aH (aC ⟨g,0,aB⟩) (aA L) cap)/\w'.cell? ⟨g,i*6,aB⟩=aC (ν L[i].c)/\w'.cell? ⟨g,i*6+1,aB⟩=aC (ν L[i].m)/\w'.cell? ⟨g,i*6+2,aB⟩=aC (ν L[i].a)/\w'.cell? ⟨g,i*6+3,aB⟩=aC (ν L[i].az)/\w'.cell? ⟨g,i*6+4,aB⟩=aC (ν L[i].done)/\w'.cell? ⟨g,i*6+5,aB⟩=aC (ν L[i].st))
   (first|exact⟨c0,d0,d1,d2,d3,d4,d5⟩|exact⟨(hb2.cell (p:=⟨bs,0,aB⟩) F6).trans c0,(hb2.cell (p:=⟨g,i*6,aB⟩) hg).trans d0,(hb2.cell (p:=⟨g,i*6+1,aB⟩) hg).trans d1,(hb2.cell (p:=⟨g,i*6+2,aB⟩) hg).trans d2,(hb2.cell (p:=⟨g,i*6+3,aB⟩) hg).trans d3,(hb2.cell (p:=⟨g,i*6+4,aB⟩) hg).trans d4,(hb2.cell (p:=⟨g,i*6+5,aB⟩) hg).trans d5⟩)
   (first|(go_at_call 176;refine(a5t L[i] _ cE.o o2).mono ?_;rintro e w2 ⟨rfl,vR⟩;have hb2:β w1 w2:=((aX _ _).drew).trans vR))
  have aV:=η hb2;go_wp2_with fail
  go_ret2;refine⟨a6o ?_ HE.o.symm,aR.o.trans (aV.o.mono hz1)⟩;rw [HV.o]
 have HI:=η (VP hi);have hE:Bg m a L=8:=by unfold Bg;rw [ifN hi]
 have hV:Bh m a L=0:=by unfold Bh;rw [Lc (by omega)]
 have HE:=η hE;have HV:=η hV;go_enter aAZ,aBM
 go_wp2_with fail
 refine(KW L m a v bs base _ HH.o hl).mono ?_;rintro e w1 ⟨rfl,hb1⟩;rw [HI.o];have aR:=η hb1;go_wp2_with fail
 go_ret2;exact⟨a6o HV.o.symm HE.o.symm,aR.o⟩
theorem aq.cell {db:Nat} {p:Dp} {D:Dk} {w w':aJ}(h:aq db p D w w') {k:Nat}(o:Nat)(hk:k<w.heap.size)(hn:¬eV db p k):w'.cell? ⟨k,o,aB⟩=w.cell? ⟨k,o,aB⟩:=by obtain⟨p1,_,_,_,_,_,hu,_⟩:=h;exact hu.cell o hk hn
theorem bW.Fb {w w':aJ} {db:Nat} {p:Dp} {D:Dk} {cR:List Ob} {E:Int} {e:dU}(H:bW w db p D)(h:Ga p.sb 0 p.sv cR E w e w'):e=aT (aG aF E)/\aq db p {D with ob:=cR} w w':=by
 obtain⟨SD,rfl,hs,ho,hf⟩:=h;refine⟨rfl, {p with sv:=SD},H.aKV ho.upd hs,rfl,rfl,rfl,rfl,ho.upd.mono (λk hk=> .inl (.inr (.inr (.inl hk)))), ?_⟩;rintro k (e|e|(e|e)|e|e|e)
 ·exact .inl (.inl e)
 ·exact .inl (.inr (.inl e))
 ·exact .inl (.inr (.inr (.inl (.inl e))))
 ·exact(hf k e).imp (λh=> .inr (.inr (.inl (.inr h)))) id
 ·exact .inl (.inr (.inr (.inr (.inl e))))
 ·exact .inl (.inr (.inr (.inr (.inr (.inl e)))))
 exact .inl (.inr (.inr (.inr (.inr (.inr e)))))
def Bk(D:Dk)(m a E:Int)(cR:List Ob):Int:=if oQ D m a≠0 then oQ D m a else if E≠0 then E else Bg m a cR
def Bl(D:Dk)(m a E:Int)(cR:List Ob):Int:=if oQ D m a≠0 then 0 else if E≠0 then 0 else Bh m a cR
def pR(D:Dk)(m a n fk fm tk tm kd E:Int)(cR:List Ob):Dk:=if oQ D m a≠0 then D else if E≠0 then {D with ob:=cR} else {D with ob:=cR,l:=bj D fk fm tk tm a n,log:=D.log++ [⟨kd,m,a,n,0⟩]}
theorem aEz(db:Nat)(p:Dp)(D:Dk)(m a n fk fm tk tm kd E:Int)(cR:List Ob)(w:aJ)(H:bW w db p D)(hO:fX D)(hm:aL m)(ha:aL a)(hn:aL n)(hf:aL fk/\aL fm)(ht:aL tk/\aL tm)
 (F7:sM cR) (ly:E=0->0<=n) (hS:∀W,bW W db p D->aQ aM 60 #[bF (aC ⟨p.sb,0,aB⟩),aG aF m,aG aF a,aG aF n] W (Ga p.sb 0 p.sv cR E W)):
 aQ aM 59 #[bF (aC ⟨db,0,aB⟩),aG aF m,aG aF a,aG aF n,.func (.func 60) #[bF (aC ⟨p.sb,0,aB⟩)] #[],bU #[aG aF fk,aG aF fm],bU #[aG aF tk,aG aF tm],aG aF kd] w (CD db p (pR D m a n fk fm tk tm kd E cR) (Bl D m a E cR) (Bk D m a E cR) w):=by
 have HE:Hid (Bk D m a E cR=if oQ D m a≠0 then oQ D m a else if E≠0 then E else Bg m a cR):=η rfl;have HV:Hid (Bl D m a E cR=if oQ D m a≠0 then 0 else if E≠0 then 0 else Bh m a cR):=η rfl;have rE:Hid (pR D m a n fk fm tk tm kd E cR=if oQ D m a≠0 then D else if E≠0 then {D with ob:=cR} else {D with ob:=cR,l:=bj D fk fm tk tm a n,log:=D.log++ [⟨kd,m,a,n,0⟩]}):=η rfl;have aY:Hid (aa w.heap.size w ((w.alloc (aK #[aG aF fk,aG aF fm] 51)).alloc (aK #[aG aF tk,aG aF tm] 51))):=η (σ.alloc (by simp) _);have o7:Hid (((w.alloc (aK #[aG aF fk,aG aF fm] 51)).alloc (aK #[aG aF tk,aG aF tm] 51)).heap[w.heap.size]? =aC (aK #[aG aF fk,aG aF fm] 51 (0,0))):=η ((fF _ _ (by simp)).trans (cO w _));have kM:Hid (((w.alloc (aK #[aG aF fk,aG aF fm] 51)).alloc (aK #[aG aF tk,aG aF tm] 51)).heap[w.heap.size+1]? =aC (aK #[aG aF tk,aG aF tm] 51 (0,0))):=η (by have h:=cO (w.alloc (aK #[aG aF fk,aG aF fm] 51)) (aK #[aG aF tk,aG aF tm] 51);rwa [Cz] at h);have hz0:((w.alloc (aK #[aG aF fk,aG aF fm] 51)).alloc (aK #[aG aF tk,aG aF tm] 51)).heap.size=w.heap.size+2:=by simp
 have HF:=η H;have HO:=η hO;have ur:=η hS;have mh:Hid (∀k,eV db p k->k<w.heap.size):=η (λk hk=>H.uW hk);have jM:=η (H.below aY.o);have qX:=η (a2r db p D m a _ jM.o hm ha);have uA:=η F7;have od:=η ly;clear H hO hS F7 ly;generalize oQ D m a=se at*;go_enter aB6,aBs
 go_upto_region 1 with (fail)
 generalize (w.alloc (aK #[aG aF fk,aG aF fm] 51)).alloc (aK #[aG aF tk,aG aF tm] 51)=w1 at*;obtain⟨bx,bT⟩:∃bx,bx=w.heap.size:=⟨_,rfl⟩;have dH:=η bT;rw [<-bT] at o7 kM hz0 ⊢;clear bT;go_upto_region 2 with (go_at_call 118;refine qX.o.mono ?_;rintro e w2 ⟨rfl,hb2⟩;have aV:=η hb2;clear hb2)
 have cC:Hid (aa w.heap.size w w2):=η (aY.o.trans (aV.o.mono aY.o.size));have EO:Hid (w2.heap[bx]? =aC (aK #[aG aF fk,aG aF fm] 51 (0,0))):=η ((aV.o.block bx (by omega)).trans o7.o);have Ci:Hid (w2.heap[bx+1]? =aC (aK #[aG aF tk,aG aF tm] 51 (0,0))):=η ((aV.o.block (bx+1) (by omega)).trans kM.o);have hz2:bx+1<w2.heap.size:=by have:=aV.o.size;omega
 have cJ:=η (jM.o.below aV.o);clear jM aV o7 kM aY qX hz0;by_cases h1:se=0
 case neg=>
  have hb:(se==0)=aP:=by simpa using h1
  have mK:Hid (se≠0):=η h1;clear h1;go_wp2_with fail
  go_ret2;refine⟨?_, ?_⟩
  ·rw [HE.o,HV.o,ifP mK.o,ifP mK.o];rfl
  rw [rE.o,ifP mK.o];exact aq.bZ HF.o cC.o
 subst h1;rw [ifN (by simp)] at HE HV rE;have sQ:=η (ur.o w2 cJ.o);go_upto_region 5 with (go_at_call 60;refine sQ.o.mono ?_;intro e w3 h3;obtain⟨rfl,h4⟩:=cJ.o.Fb h3;have oq:=η h4;clear h3 h4)
 have LO:Hid (aq db p {D with ob:=cR} w w3):=η (aq.trans (bC.bZ _ cC.o) (λ_ h=> .inl h) ⟨rfl,rfl,rfl,rfl⟩ oq.o);by_cases h2:E=0
 case neg=>
  have hb:(E==0)=aP:=by simpa using h2
  have mK:Hid (E≠0):=η h2;clear h2;go_wp2_with fail
  go_ret2;refine⟨?_, ?_⟩
  ·rw [HE.o,HV.o,ifP mK.o,ifP mK.o];rfl
  rw [rE.o,ifP mK.o];exact LO.o
 subst h2;rw [ifN (by simp)] at HE HV rE;have kB:=od.o rfl;have bX:Hid (∀k,eV db p k->k<bx):=η (λk hk=>by rw [dH.o];exact mh.o k hk);have GG:Hid (w3.heap[bx]? =aC (aK #[aG aF fk,aG aF fm] 51 (0,0))):=η (by obtain⟨_,_,_,_,_,_,hu,_⟩:=oq.o;exact(hu.keep bx (by omega) (λh=>by have:=bX.o _ h;omega)).trans EO.o);have yJ:Hid (w3.heap[bx+1]? =aC (aK #[aG aF tk,aG aF tm] 51 (0,0))):=η (by obtain⟨_,_,_,_,_,_,hu,_⟩:=oq.o;exact(hu.keep (bx+1) hz2 (λh=>by have:=bX.o _ h;omega)).trans Ci.o);have hz3:bx+1<w3.heap.size:=by obtain⟨_,_,_,_,_,_,hu,_⟩:=oq.o;have:=hu.size;omega
 obtain⟨p3,H3,e1,e2,e3,e4,qN,hs3⟩:=oq.o;have wQ:=η H3;have dw:Hid (∀W D2,aq db p3 D2 w3 W->aq db p D2 w W):=η (λW D2 h=>aq.trans (bC.bZ _ cC.o) (λ_ h=> .inl h) ⟨rfl,rfl,rfl,rfl⟩ (aq.trans qN hs3 ⟨e1,e2,e3,e4⟩ h));have zF:Hid (∀k,eV db p3 k->k≠bx/\k≠bx+1):=η (by
  intro k hk;rcases hs3 k hk with h|h
  ·have:=bX.o k h;omega
  omega)
 have Mq:fX {D with ob:=cR}:=⟨HO.o.lI,HO.o.hl,HO.o.wl,HO.o.gl,uA.o,HO.o.bl,HO.o.st⟩;clear H3 e1 e2 e3 e4 qN hs3 oq LO cJ EO Ci hz2 cC bX mh sQ ur od;go_upto_region 7 with (fail)
 have lZ:=η (Gz db p3 {D with ob:=cR} fk fm tk tm a n w3.drew (wQ.o.below (aX _ _).drew) Mq hf ht ha hn kB);have d0:w3.drew.cell? ⟨db,8,aB⟩=aC (bF (aC ⟨p3.vb,0,aB⟩)):=wQ.o.cells.c8;have d1:w3.drew.cell? ⟨bx,0,aB⟩=aC (aG aF fk):=ρ GG.o;have d2:w3.drew.cell? ⟨bx,1,aB⟩=aC (aG aF fm):=ρ GG.o;have d3:w3.drew.cell? ⟨bx+1,0,aB⟩=aC (aG aF tk):=ρ yJ.o;have d4:w3.drew.cell? ⟨bx+1,1,aB⟩=aC (aG aF tm):=ρ yJ.o;have hzd:bx+1<w3.drew.heap.size:=hz3;go_region_held3 (λW=>W.cell? ⟨db,8,aB⟩=aC (bF (aC ⟨p3.vb,0,aB⟩))/\W.cell? ⟨bx,0,aB⟩=aC (aG aF fk)/\W.cell? ⟨bx,1,aB⟩=aC (aG aF fm)/\W.cell? ⟨bx+1,0,aB⟩=aC (aG aF tk)/\W.cell? ⟨bx+1,1,aB⟩=aC (aG aF tm)) (first|(with_reducible exact⟨d0,d1,d2,d3,d4⟩)|(with_reducible exact⟨m0,m1,m2,m3,m4⟩)) ((go_at_call 87;refine lZ.o.mono ?_;rintro e w7 ⟨rfl,dE,m0⟩;have m1:=(dE.cell 0 (by omega) (λh=>(zF.o bx h).1 rfl)).trans d1;have m2:=(dE.cell 1 (by omega) (λh=>(zF.o bx h).1 rfl)).trans d2;have m3:=(dE.cell 0 hzd (λh=>(zF.o (bx+1) h).2 rfl)).trans d3;have m4:=(dE.cell 1 hzd (λh=>(zF.o (bx+1) h).2 rfl)).trans d4))
 have gA:Hid (aq db p3 {D with ob:=cR,l:=bj {D with ob:=cR} fk fm tk tm a n} w3 w7):=η (aq.trans (bC.bZ _ (aX _ _).drew) (λ_ h=> .inl h) ⟨rfl,rfl,rfl,rfl⟩ dE);clear dE m0 m1 m2 m3 m4 d0 d1 d2 d3 d4 hzd lZ GG yJ hz3 zF Mq wQ;obtain⟨p4,H4,e1,e2,e3,e4,qO,j5⟩:=gA.o;have kU:=η (H4.below ((aX w7.heap.size w7).alloc (aZ _) (aK #[aG aF kd,aG aF m,aG aF a,aG aF n,aG aF 0] 45)));have kW:=η (xK db p4 {D with ob:=cR,l:=bj {D with ob:=cR} fk fm tk tm a n} [⟨kd,m,a,n,0⟩] w7.heap.size 1 _ kU.o (dN w7 45 #[aG aF kd,aG aF m,aG aF a,aG aF n,aG aF 0] rfl) (by simp) (by simp) (by have:=HO.o.gl;simp only;omega));have pg:Hid (∀W,aq db p4 {D with ob:=cR,l:=bj {D with ob:=cR} fk fm tk tm a n,log:=D.log++ [⟨kd,m,a,n,0⟩]} (w7.alloc (aK #[aG aF kd,aG aF m,aG aF a,aG aF n,aG aF 0] 45)) W->aq db p {D with ob:=cR,l:=bj {D with ob:=cR} fk fm tk tm a n,log:=D.log++ [⟨kd,m,a,n,0⟩]} w W):=η (λW h=>dw.o W _ (aq.trans qO j5 ⟨e1,e2,e3,e4⟩ (aq.trans (bC.bZ _ σ) (λ_ h=> .inl h) ⟨rfl,rfl,rfl,rfl⟩ h)));clear H4 e1 e2 e3 e4 qO j5 gA;go_upto_region 9 with (go_at_call 55;refine kW.o.mono ?_;rintro e w8 ⟨rfl,h8⟩;have rJ:=η (pg.o _ h8);clear h8)
 obtain⟨p5,h5,-⟩:=rJ.o;have c9:=h5.cells.c9;have TN:=η (a5s cR m a p5.sv p5.sb 0 w8 h5.sh uA.o);clear h5 pg kW kU dw;generalize Bh m a cR=lv1 at*;generalize Bg m a cR=le1 at*;go_wp2_with (go_at_call 119;refine TN.o.mono ?_;rintro e w9 ⟨rfl,gK⟩;have Fw:=η (rJ.o.below gK);clear gK)
 go_ret2;refine⟨?_, ?_⟩
 ·rw [HE.o,HV.o];rfl
 rw [rE.o];exact Fw.o
theorem aF0(db:Nat)(p:Dp)(D:Dk)(m a n fk fm tk tm kd E:Int)(cR:List Ob)(w:aJ)(H:bW w db p D)(hO:fX D)(hm:aL m)(ha:aL a)(hn:aL n)(hf:aL fk/\aL fm)(ht:aL tk/\aL tm)
 (F7:sM cR) (ly:E=0->0<=n) (hS:∀W,bW W db p D->aQ aM 84 #[bF (aC ⟨p.sb,0,aB⟩),aG aF m,aG aF a,aG aF n] W (Ga p.sb 0 p.sv cR E W)):
 aQ aM 59 #[bF (aC ⟨db,0,aB⟩),aG aF m,aG aF a,aG aF n,.func (.func 84) #[bF (aC ⟨p.sb,0,aB⟩)] #[],bU #[aG aF fk,aG aF fm],bU #[aG aF tk,aG aF tm],aG aF kd] w (CD db p (pR D m a n fk fm tk tm kd E cR) (Bl D m a E cR) (Bk D m a E cR) w):=by
 have HE:Hid (Bk D m a E cR=if oQ D m a≠0 then oQ D m a else if E≠0 then E else Bg m a cR):=η rfl;have HV:Hid (Bl D m a E cR=if oQ D m a≠0 then 0 else if E≠0 then 0 else Bh m a cR):=η rfl;have rE:Hid (pR D m a n fk fm tk tm kd E cR=if oQ D m a≠0 then D else if E≠0 then {D with ob:=cR} else {D with ob:=cR,l:=bj D fk fm tk tm a n,log:=D.log++ [⟨kd,m,a,n,0⟩]}):=η rfl;have aY:Hid (aa w.heap.size w ((w.alloc (aK #[aG aF fk,aG aF fm] 51)).alloc (aK #[aG aF tk,aG aF tm] 51))):=η (σ.alloc (by simp) _);have o7:Hid (((w.alloc (aK #[aG aF fk,aG aF fm] 51)).alloc (aK #[aG aF tk,aG aF tm] 51)).heap[w.heap.size]? =aC (aK #[aG aF fk,aG aF fm] 51 (0,0))):=η ((fF _ _ (by simp)).trans (cO w _));have kM:Hid (((w.alloc (aK #[aG aF fk,aG aF fm] 51)).alloc (aK #[aG aF tk,aG aF tm] 51)).heap[w.heap.size+1]? =aC (aK #[aG aF tk,aG aF tm] 51 (0,0))):=η (by have h:=cO (w.alloc (aK #[aG aF fk,aG aF fm] 51)) (aK #[aG aF tk,aG aF tm] 51);rwa [Cz] at h);have hz0:((w.alloc (aK #[aG aF fk,aG aF fm] 51)).alloc (aK #[aG aF tk,aG aF tm] 51)).heap.size=w.heap.size+2:=by simp
 have HF:=η H;have HO:=η hO;have ur:=η hS;have mh:Hid (∀k,eV db p k->k<w.heap.size):=η (λk hk=>H.uW hk);have jM:=η (H.below aY.o);have qX:=η (a2r db p D m a _ jM.o hm ha);have uA:=η F7;have od:=η ly;clear H hO hS F7 ly;generalize oQ D m a=se at*;go_enter aB6,aBs
 go_upto_region 1 with (fail)
 generalize (w.alloc (aK #[aG aF fk,aG aF fm] 51)).alloc (aK #[aG aF tk,aG aF tm] 51)=w1 at*;obtain⟨bx,bT⟩:∃bx,bx=w.heap.size:=⟨_,rfl⟩;have dH:=η bT;rw [<-bT] at o7 kM hz0 ⊢;clear bT;go_upto_region 2 with (go_at_call 118;refine qX.o.mono ?_;rintro e w2 ⟨rfl,hb2⟩;have aV:=η hb2;clear hb2)
 have cC:Hid (aa w.heap.size w w2):=η (aY.o.trans (aV.o.mono aY.o.size));have EO:Hid (w2.heap[bx]? =aC (aK #[aG aF fk,aG aF fm] 51 (0,0))):=η ((aV.o.block bx (by omega)).trans o7.o);have Ci:Hid (w2.heap[bx+1]? =aC (aK #[aG aF tk,aG aF tm] 51 (0,0))):=η ((aV.o.block (bx+1) (by omega)).trans kM.o);have hz2:bx+1<w2.heap.size:=by have:=aV.o.size;omega
 have cJ:=η (jM.o.below aV.o);clear jM aV o7 kM aY qX hz0;by_cases h1:se=0
 case neg=>
  have hb:(se==0)=aP:=by simpa using h1
  have mK:Hid (se≠0):=η h1;clear h1;go_wp2_with fail
  go_ret2;refine⟨?_, ?_⟩
  ·rw [HE.o,HV.o,ifP mK.o,ifP mK.o];rfl
  rw [rE.o,ifP mK.o];exact aq.bZ HF.o cC.o
 subst h1;rw [ifN (by simp)] at HE HV rE;have sQ:=η (ur.o w2 cJ.o);go_upto_region 5 with (go_at_call 84;refine sQ.o.mono ?_;intro e w3 h3;obtain⟨rfl,h4⟩:=cJ.o.Fb h3;have oq:=η h4;clear h3 h4)
 have LO:Hid (aq db p {D with ob:=cR} w w3):=η (aq.trans (bC.bZ _ cC.o) (λ_ h=> .inl h) ⟨rfl,rfl,rfl,rfl⟩ oq.o);by_cases h2:E=0
 case neg=>
  have hb:(E==0)=aP:=by simpa using h2
  have mK:Hid (E≠0):=η h2;clear h2;go_wp2_with fail
  go_ret2;refine⟨?_, ?_⟩
  ·rw [HE.o,HV.o,ifP mK.o,ifP mK.o];rfl
  rw [rE.o,ifP mK.o];exact LO.o
 subst h2;rw [ifN (by simp)] at HE HV rE;have kB:=od.o rfl;have bX:Hid (∀k,eV db p k->k<bx):=η (λk hk=>by rw [dH.o];exact mh.o k hk);have GG:Hid (w3.heap[bx]? =aC (aK #[aG aF fk,aG aF fm] 51 (0,0))):=η (by obtain⟨_,_,_,_,_,_,hu,_⟩:=oq.o;exact(hu.keep bx (by omega) (λh=>by have:=bX.o _ h;omega)).trans EO.o);have yJ:Hid (w3.heap[bx+1]? =aC (aK #[aG aF tk,aG aF tm] 51 (0,0))):=η (by obtain⟨_,_,_,_,_,_,hu,_⟩:=oq.o;exact(hu.keep (bx+1) hz2 (λh=>by have:=bX.o _ h;omega)).trans Ci.o);have hz3:bx+1<w3.heap.size:=by obtain⟨_,_,_,_,_,_,hu,_⟩:=oq.o;have:=hu.size;omega
 obtain⟨p3,H3,e1,e2,e3,e4,qN,hs3⟩:=oq.o;have wQ:=η H3;have dw:Hid (∀W D2,aq db p3 D2 w3 W->aq db p D2 w W):=η (λW D2 h=>aq.trans (bC.bZ _ cC.o) (λ_ h=> .inl h) ⟨rfl,rfl,rfl,rfl⟩ (aq.trans qN hs3 ⟨e1,e2,e3,e4⟩ h));have zF:Hid (∀k,eV db p3 k->k≠bx/\k≠bx+1):=η (by
  intro k hk;rcases hs3 k hk with h|h
  ·have:=bX.o k h;omega
  omega)
 have Mq:fX {D with ob:=cR}:=⟨HO.o.lI,HO.o.hl,HO.o.wl,HO.o.gl,uA.o,HO.o.bl,HO.o.st⟩;clear H3 e1 e2 e3 e4 qN hs3 oq LO cJ EO Ci hz2 cC bX mh sQ ur od;go_upto_region 7 with (fail)
 have lZ:=η (Gz db p3 {D with ob:=cR} fk fm tk tm a n w3.drew (wQ.o.below (aX _ _).drew) Mq hf ht ha hn kB);have d0:w3.drew.cell? ⟨db,8,aB⟩=aC (bF (aC ⟨p3.vb,0,aB⟩)):=wQ.o.cells.c8;have d1:w3.drew.cell? ⟨bx,0,aB⟩=aC (aG aF fk):=ρ GG.o;have d2:w3.drew.cell? ⟨bx,1,aB⟩=aC (aG aF fm):=ρ GG.o;have d3:w3.drew.cell? ⟨bx+1,0,aB⟩=aC (aG aF tk):=ρ yJ.o;have d4:w3.drew.cell? ⟨bx+1,1,aB⟩=aC (aG aF tm):=ρ yJ.o;have hzd:bx+1<w3.drew.heap.size:=hz3;go_region_held3 (λW=>W.cell? ⟨db,8,aB⟩=aC (bF (aC ⟨p3.vb,0,aB⟩))/\W.cell? ⟨bx,0,aB⟩=aC (aG aF fk)/\W.cell? ⟨bx,1,aB⟩=aC (aG aF fm)/\W.cell? ⟨bx+1,0,aB⟩=aC (aG aF tk)/\W.cell? ⟨bx+1,1,aB⟩=aC (aG aF tm)) (first|(with_reducible exact⟨d0,d1,d2,d3,d4⟩)|(with_reducible exact⟨m0,m1,m2,m3,m4⟩)) ((go_at_call 87;refine lZ.o.mono ?_;rintro e w7 ⟨rfl,dE,m0⟩;have m1:=(dE.cell 0 (by omega) (λh=>(zF.o bx h).1 rfl)).trans d1;have m2:=(dE.cell 1 (by omega) (λh=>(zF.o bx h).1 rfl)).trans d2;have m3:=(dE.cell 0 hzd (λh=>(zF.o (bx+1) h).2 rfl)).trans d3;have m4:=(dE.cell 1 hzd (λh=>(zF.o (bx+1) h).2 rfl)).trans d4))
 have gA:Hid (aq db p3 {D with ob:=cR,l:=bj {D with ob:=cR} fk fm tk tm a n} w3 w7):=η (aq.trans (bC.bZ _ (aX _ _).drew) (λ_ h=> .inl h) ⟨rfl,rfl,rfl,rfl⟩ dE);clear dE m0 m1 m2 m3 m4 d0 d1 d2 d3 d4 hzd lZ GG yJ hz3 zF Mq wQ;obtain⟨p4,H4,e1,e2,e3,e4,qO,j5⟩:=gA.o;have kU:=η (H4.below ((aX w7.heap.size w7).alloc (aZ _) (aK #[aG aF kd,aG aF m,aG aF a,aG aF n,aG aF 0] 45)));have kW:=η (xK db p4 {D with ob:=cR,l:=bj {D with ob:=cR} fk fm tk tm a n} [⟨kd,m,a,n,0⟩] w7.heap.size 1 _ kU.o (dN w7 45 #[aG aF kd,aG aF m,aG aF a,aG aF n,aG aF 0] rfl) (by simp) (by simp) (by have:=HO.o.gl;simp only;omega));have pg:Hid (∀W,aq db p4 {D with ob:=cR,l:=bj {D with ob:=cR} fk fm tk tm a n,log:=D.log++ [⟨kd,m,a,n,0⟩]} (w7.alloc (aK #[aG aF kd,aG aF m,aG aF a,aG aF n,aG aF 0] 45)) W->aq db p {D with ob:=cR,l:=bj {D with ob:=cR} fk fm tk tm a n,log:=D.log++ [⟨kd,m,a,n,0⟩]} w W):=η (λW h=>dw.o W _ (aq.trans qO j5 ⟨e1,e2,e3,e4⟩ (aq.trans (bC.bZ _ σ) (λ_ h=> .inl h) ⟨rfl,rfl,rfl,rfl⟩ h)));clear H4 e1 e2 e3 e4 qO j5 gA;go_upto_region 9 with (go_at_call 55;refine kW.o.mono ?_;rintro e w8 ⟨rfl,h8⟩;have rJ:=η (pg.o _ h8);clear h8)
 obtain⟨p5,h5,-⟩:=rJ.o;have c9:=h5.cells.c9;have TN:=η (a5s cR m a p5.sv p5.sb 0 w8 h5.sh uA.o);clear h5 pg kW kU dw;generalize Bh m a cR=lv1 at*;generalize Bg m a cR=le1 at*;go_wp2_with (go_at_call 119;refine TN.o.mono ?_;rintro e w9 ⟨rfl,gK⟩;have Fw:=η (rJ.o.below gK);clear gK)
 go_ret2;refine⟨?_, ?_⟩
 ·rw [HE.o,HV.o];rfl
 rw [rE.o];exact Fw.o
theorem aq.c9 {db:Nat} {p:Dp} {D:Dk} {w w':aJ}(h:aq db p D w w'):w'.cell? ⟨db,9,aB⟩=aC (bF (aC ⟨p.sb,0,aB⟩)):=by obtain⟨p1,H1,_,e2,_⟩:=h;rw [<-e2];exact H1.cells.c9
theorem aJF {m a n:Int} {L:List Ob}(h:j6 m a n L=0):0<=n:=by
 unfold j6 at h;split at h
 ·cases h
 split at h
 ·cases h
 split at h
 ·cases h
 omega
theorem aLB {m a n:Int} {L:List Ob}(h:lA m a n L=0):0<=n:=by
 unfold lA at h;split at h
 ·cases h
 split at h
 ·cases h
 split at h
 ·cases h
 omega
def Jx(D:Dk)(er:Int):Int:=if D.st=1 then er else 11
def Jy(D:Dk)(v:Int):Int:=if D.st=1 then v else 0
def zn(D D':Dk):Dk:=if D.st=1 then D' else D
theorem a2b(db:Nat)(p:Dp)(D:Dk)(m a n:Int)(w:aJ)(H:bW w db p D)(hO:fX D)(hm:aL m)(ha:aL a)(hn:aL n):
 aQ aM 27 #[π db,ν m,ν a,ν n] w (CD db p (zn D (pR D m a n 7 m 1 0 5 (j6 m a n D.ob) (kS m a n D.ob))) (Jy D (Bl D m a (j6 m a n D.ob) (kS m a n D.ob))) (Jx D (Bk D m a (j6 m a n D.ob) (kS m a n D.ob))) w):=by
 have hb0:β w (w.alloc (aK #[ν 1] 3)):=(aX _ _).alloc (aZ _) _;have jO:=η (Js db p D 1 (aC ⟨w.heap.size,0,aB⟩) 1 _ (H.below hb0) (λj u hu=>⟨w.heap.size,0,rfl,by simp,by
  match j,hu with
  |0,hu=>exact(cL w #[ν 1] 3 0 rfl).trans (by simpa using hu)
  |j+1,hu=>simp at hu⟩))
 have lZ:=η (λW (hW:β w W)=>aEz db p D m a n 7 m 1 0 5 (j6 m a n D.ob) (kS m a n D.ob) W (H.below hW) hO hm ha hn ⟨by decide,hm⟩ ⟨by decide,by decide⟩ (aFa m a n hO.ob).1 aJF (λW' Ep=>aIW D.ob m a n p.sv p.sb 0 W' Ep.sh hO.ob hn.2));have HF:=η H;have aY:=η hb0;unfold zn Jy Jx;generalize pR D m a n 7 m 1 0 5 (j6 m a n D.ob) (kS m a n D.ob)=D' at*;generalize Bl D m a (j6 m a n D.ob) (kS m a n D.ob)=mv at*;generalize Bk D m a (j6 m a n D.ob) (kS m a n D.ob)=me at*;by_cases h1:D.st=1
 case neg=>
  rw [ifN h1] at jO ⊢;rw [ifN h1,ifN h1];go_enter aAw,aBj
  go_wp2_with (go_at_call 51;refine κ jO.o aY λw1 aR=> ?_)
  go_ret2;exact⟨rfl,aq.bZ HF.o aR.o⟩
 rw [ifP h1] at jO ⊢;rw [ifP h1,ifP h1];go_enter aAw,aBj
 go_upto_region 4 with (go_at_call 51;refine κ jO.o aY λw4 ar=> ?_)
 have lG:=η (HF.o.below ar.o);have bO:=η (λW (hW:β w4 W)=>(lG.o.below hW).cells.c9);have eW:=η (λW (hW:β w4 W)=>lZ.o W (ar.o.trans (hW.mono ar.o.size)));have bP:β w4 w4.drew:=(aX _ _).drew;have hdd:=bO.o _ bP;go_region_held3 (λW=>W.cell? ⟨db,9,aB⟩=aC (π p.sb)) (first|(with_reducible assumption)) (first|(go_at_call 61;refine(xG _).mono ?_;rintro e w5 ⟨rfl,gD⟩;have qK:β w4 w5:=jt (by with_reducible assumption) (gD.mono (gT (by with_reducible assumption)));have hcc:=bO.o _ qK)|(go_at_call 49;refine(Ed m _).mono ?_;rintro e w6 ⟨rfl,tI⟩;have xN:β w4 w6:=jt (by with_reducible assumption) (tI.mono (gT (by with_reducible assumption)));have qu:=bO.o _ xN)|(go_at_call 59;refine(eW.o _ (by with_reducible assumption)).mono ?_;rintro e w7 ⟨rfl,dE⟩;have hcm:=dE.c9))
 all_goals
  have gA:Hid (aq db p D' w w7):=η (aq.trans (bC.bZ _ (ar.o.trans (Below.mono (by with_reducible assumption) ar.o.size))) (λ_ h=> .inl h) ⟨rfl,rfl,rfl,rfl⟩ dE);go_wp2
  go_ret2;exact⟨rfl,gA.o⟩
theorem aEi(db:Nat)(p:Dp)(D:Dk)(m a n:Int)(w:aJ)(H:bW w db p D)(hO:fX D)(hm:aL m)(ha:aL a)(hn:aL n):
 aQ aM 35 #[π db,ν m,ν a,ν n] w (CD db p (zn D (pR D m a n 1 0 7 m 6 (lA m a n D.ob) (nu m a n D.ob))) (Jy D (Bl D m a (lA m a n D.ob) (nu m a n D.ob))) (Jx D (Bk D m a (lA m a n D.ob) (nu m a n D.ob))) w):=by
 have hb0:β w (w.alloc (aK #[ν 1] 3)):=(aX _ _).alloc (aZ _) _;have jO:=η (Js db p D 1 (aC ⟨w.heap.size,0,aB⟩) 1 _ (H.below hb0) (λj u hu=>⟨w.heap.size,0,rfl,by simp,by
  match j,hu with
  |0,hu=>exact(cL w #[ν 1] 3 0 rfl).trans (by simpa using hu)
  |j+1,hu=>simp at hu⟩))
 have lZ:=η (λW (hW:β w W)=>aF0 db p D m a n 1 0 7 m 6 (lA m a n D.ob) (nu m a n D.ob) W (H.below hW) hO hm ha hn ⟨by decide,by decide⟩ ⟨by decide,hm⟩ (aFb m a n hO.ob).1 aLB (λW' Ep=>aIX D.ob m a n p.sv p.sb 0 W' Ep.sh hO.ob hn.2));have HF:=η H;have aY:=η hb0;unfold zn Jy Jx;generalize pR D m a n 1 0 7 m 6 (lA m a n D.ob) (nu m a n D.ob)=D' at*;generalize Bl D m a (lA m a n D.ob) (nu m a n D.ob)=mv at*;generalize Bk D m a (lA m a n D.ob) (nu m a n D.ob)=me at*;by_cases h1:D.st=1
 case neg=>
  rw [ifN h1] at jO ⊢;rw [ifN h1,ifN h1];go_enter aB3,aBo
  go_wp2_with (go_at_call 51;refine κ jO.o aY λw1 aR=> ?_)
  go_ret2;exact⟨rfl,aq.bZ HF.o aR.o⟩
 rw [ifP h1] at jO ⊢;rw [ifP h1,ifP h1];go_enter aB3,aBo
 go_upto_region 4 with (go_at_call 51;refine κ jO.o aY λw4 ar=> ?_)
 have lG:=η (HF.o.below ar.o);have bO:=η (λW (hW:β w4 W)=>(lG.o.below hW).cells.c9);have eW:=η (λW (hW:β w4 W)=>lZ.o W (ar.o.trans (hW.mono ar.o.size)));have bP:β w4 w4.drew:=(aX _ _).drew;have hdd:=bO.o _ bP;go_region_held3 (λW=>W.cell? ⟨db,9,aB⟩=aC (π p.sb)) (first|(with_reducible assumption)) (first|(go_at_call 61;refine(xG _).mono ?_;rintro e w5 ⟨rfl,gD⟩;have qK:β w4 w5:=jt (by with_reducible assumption) (gD.mono (gT (by with_reducible assumption)));have hcc:=bO.o _ qK)|(go_at_call 49;refine(Ed m _).mono ?_;rintro e w6 ⟨rfl,tI⟩;have xN:β w4 w6:=jt (by with_reducible assumption) (tI.mono (gT (by with_reducible assumption)));have qu:=bO.o _ xN)|(go_at_call 59;refine(eW.o _ (by with_reducible assumption)).mono ?_;rintro e w7 ⟨rfl,dE⟩;have hcm:=dE.c9))
 all_goals
  have gA:Hid (aq db p D' w w7):=η (aq.trans (bC.bZ _ (ar.o.trans (Below.mono (by with_reducible assumption) ar.o.size))) (λ_ h=> .inl h) ⟨rfl,rfl,rfl,rfl⟩ dE);go_wp2
  go_ret2;exact⟨rfl,gA.o⟩
def Dx(L:List Lg)(a:Int):Bool:=decide (yo L a≠0)||(decide (jq L a>kR a)||decide (lU L a>kR a))
def oT(L:List Lg):List Nat->Int->Int
 | [],r=>r
 |a::ks,r=>if Dx L (a:Int)=aO then 2 else if jq L (a:Int)=lU L (a:Int) then oT L ks r else oT L ks 17
theorem aJl(A k:Nat)(h:k<A):(dQ A).drop k=k::(dQ A).drop (k+1):=by rw [Ja (by simpa using h)];simp
theorem aFA(db:Nat)(p:Dp)(D:Dk)(L:List Lg)(A:Option aj)(c:Nat)(w:aJ)(H:bW w db p D)(hs:aW w w.heap.size A (bA L))(hl:aA L<=100000)(hI:∀x∈L,aL x.n)(Qr:aA D.x.ss<=100000):
 aQ aM 53 #[π db,aH A (aA L) c] w λe w'=>e=aT (ν (oT L (dQ (aA D.x.ss+1)) 0))/\β w w':=by
 have qX:=η (λW (hW:β w W) (k:Nat)=>aIL L (k:Int) A c W ((hs.below hW).mono hW.size) hl hI);have c1:=H.cells.c1;obtain⟨ee,he⟩:=xq (oT L (dQ (aA D.x.ss+1)) 0);rw [<-he];have wP:Hid (oT L ((dQ (aA D.x.ss+1)).drop 0) 0=ee):=η (by rw [he,List.drop_zero]);have aY:Hid (β w w):=η (aX _ _);generalize (aA D.x.ss)=n at*;go_enter func53,ntmps53
 go_wp2
 go_loopw [5,6,7,8,9,17] (λr _ _ _ _ i wr=>∃(k:Nat) (z:Int),k<=n+1/\i=ν (k:Int)/\r=ν z/\Hid (oT L ((dQ (n+1)).drop k) z=ee)/\Hid (β w wr)) (λ_ _ _ _ _ i _=>n+1-(ag i).toNat)
 ·exact⟨0,0,bL _,rfl,rfl,wP,aY⟩
 ·
  obtain⟨k,z,hk,rfl,rfl,HK,HB⟩:=hrel;by_cases hlt:k<n+1
  ·have rj:(k:Int)<(n:Int)+1:=by omega
   have HN:=η (qX.o wr HB.o k);have lY:Hid ((if Dx L (k:Int)=aO then 2 else if jq L (k:Int)=lU L (k:Int) then oT L ((dQ (n+1)).drop (k+1)) z else oT L ((dQ (n+1)).drop (k+1)) 17)=ee):=η (by rw [<-HK.o,aJl _ _ hlt];rfl);have HW:Hid (Dx L (k:Int)=(decide (yo L (k:Int)≠0)||(decide (jq L (k:Int)>kR (k:Int))||decide (lU L (k:Int)>kR (k:Int))))):=η rfl;have uo:=η (λW=>aE6 (k:Int) W);unfold Yy at HN;generalize Dx L (k:Int)=wb at*;generalize yo L (k:Int)=se at*;generalize jq L (k:Int)=so at*;generalize lU L (k:Int)=sc at*;generalize kR (k:Int)=mo at*;by_cases h1:se=0
   ·subst h1;rw [ifP rfl,ifP rfl] at HN;by_cases h2:so>mo
    ·have HF:Hid (2=ee):=η (by rw [<-lY.o,HW.o,ifP (by simp [h2])]);go_wp2_with (first|(go_at_call 105;refine κ HN.o HB λw1 aR=> ?_)|(go_at_call 106;refine(uo.o _).mono ?_;rintro e w2 ⟨rfl,rfl⟩))
     go_ret;exact⟨cW HF.o,aR.o⟩
    by_cases h3:sc>mo
    ·have HF:Hid (2=ee):=η (by rw [<-lY.o,HW.o,ifP (by simp [h3])]);go_wp2_with (first|(go_at_call 105;refine κ HN.o HB λw1 aR=> ?_)|(go_at_call 106;refine(uo.o _).mono ?_;rintro e w2 ⟨rfl,rfl⟩))
     go_ret;exact⟨cW HF.o,aR.o⟩
    have HWF:Hid (wb=aP):=η (by rw [HW.o];simp;omega);rw [HWF.o,ifN (by simp)] at lY;by_cases h4:so=sc
    ·subst h4;rw [ifP rfl] at lY;go_wp2_with (first|(go_at_call 105;refine κ HN.o HB λw1 aR=> ?_)|(go_at_call 106;refine(uo.o _).mono ?_;rintro e w2 ⟨rfl,rfl⟩))
     go_roundw
     ·exact⟨k+1,z,by omega,by go_num,rfl,lY,aR⟩
     simp [ag];omega
    rw [ifN h4] at lY;go_wp2_with (first|(go_at_call 105;refine κ HN.o HB λw1 aR=> ?_)|(go_at_call 106;refine(uo.o _).mono ?_;rintro e w2 ⟨rfl,rfl⟩))
    go_roundw
    ·exact⟨k+1,17,by omega,by go_num,rfl,lY,aR⟩
    simp [ag];omega
   have hb:(se==0)=aP:=by simpa using h1
   rw [ifN h1,ifN h1] at HN;have HF:Hid (2=ee):=η (by rw [<-lY.o,HW.o,ifP (by simp [h1])]);go_wp2_with (first|(go_at_call 105;refine κ HN.o HB λw1 aR=> ?_)|(go_at_call 106;refine(uo.o _).mono ?_;rintro e w2 ⟨rfl,rfl⟩))
   go_ret;exact⟨cW HF.o,aR.o⟩
  obtain rfl:k=n+1:=by omega
  have HF:Hid (z=ee):=η (by rw [<-HK.o,List.drop_of_length_le (by simp)];rfl);rw [show ((n+1:Nat):Int)=(n:Int)+1 by omega];go_wp2
  go_ret;exact⟨cW HF.o,HB.o⟩
theorem V8(L:List Lg)(A:Option aj)(c:Nat)(w:aJ)(hs:aW w w.heap.size A (bA L))(hI:∀x∈L,aL x.n)(hl:aA L<=100000):
 aQ aM 67 #[aH A (aA L) c] w λe w'=>e=aT (ν (iW L))/\β w w':=by
 have HS:=η (PV L A c w hs hI hl);generalize iW L=sv at*;generalize dC L=se at*;go_enter func67,ntmps67
 go_wp2_with (go_at_call 129;refine mG HS.o λw1 aR=> ?_)
 go_ret;exact⟨rfl,aR⟩
def KP(D:Dk)(n:Int):Int:=pS n (balA (aA D.x.ms) (aA D.x.ss+1) D.l 1 0 0)
theorem a2l(db:Nat)(p:Dp)(D:Dk)(n:Int)(w:aJ)(H:bW w db p D)(hn:aL n)(hb:aL (balA (aA D.x.ms) (aA D.x.ss+1) D.l 1 0 0)):
 aQ aM 66 #[π db,ν n] w λe w'=>e=aT (ν (KP D n))/\β w w':=by
 have ew:=η (λW (hW:β w W)=>zk db p D 1 0 0 W (H.below hW) (by decide) (by decide));have zG:=η (λW=>V7 n (balA (aA D.x.ms) (aA D.x.ss+1) D.l 1 0 0) hn hb W);unfold KP;generalize balA (aA D.x.ms) (aA D.x.ss+1) D.l 1 0 0=bq at*;generalize pS n bq=ov at*;go_enter func66,ntmps66
 go_wp2_with (first|(go_at_call 61;refine mG (xG _) λw2 aV=> ?_)|(go_at_call 46;refine κ (ew.o _ aV.o) aV λw3 af=> ?_)|(go_at_call 86;refine κ (zG.o _) af λw4 ar=> ?_))
 go_ret;exact⟨rfl,ar⟩
def di(D:Dk)(a:Int):List Lg:=(D.ob.filter λx=>x.st==1&&tA (pJ a D.who) x).map Ob.claim
theorem MA(db:Nat)(p:Dp)(D:Dk)(a:Int)(w:aJ)(H:bW w db p D)(hO:fX D):
 aQ aM 68 #[π db,ν a] w (Sh w (di D a)):=by
 have km:aA D.ob<=1000000:=by have:=hO.ob.len;omega
 have Ad:=η (λW (hW:β w W)=>KV D.ob p.sv p.sb 0 W (H.below hW).sh km);obtain⟨Aw,cw,hv⟩:=bK H.who;have pB:=η (λW (hW:β w W)=>(show aW W W.heap.size Aw (D.who.map (aG aF)) by have h1:=(H.below hW).who;rw [hv] at h1;exact aW.cA h1));have bO:=η (λW (hW:β w W)=>(show W.cell? ⟨db,9,aB⟩=aC (π p.sb)/\W.cell? ⟨db,11,aB⟩=aC (aH Aw (aA D.who) cw) from⟨(H.below hW).cells.c9,by rw [<-hv];exact(H.below hW).cells.c11⟩));have HI:Hid (∀x∈D.ob,aL x.az):=η (λx hx=>by have h:=hO.ob.each x hx;have h1:=h.lo;have h2:=h.hi;unfold fJ at h1;unfold aL;omega);have IL:aA D.who<=1000000:=by have:=hO.wl;omega
 go_enter func68,ntmps68
 go_upto_region 1 with (fail)
 have bP:β w w.drew:=(aX _ _).drew;have hdd:=bO.o _ bP;go_region_held3 (λW=>W.cell? ⟨db,9,aB⟩=aC (π p.sb)/\W.cell? ⟨db,11,aB⟩=aC (aH Aw (aA D.who) cw)) (first|(with_reducible assumption)) (first|(go_at_call 43;refine(Ad.o _ ‹_›).mono ?_;rintro e w1 ⟨v1,rfl,eB,hb1⟩;obtain⟨A1,c1,AH⟩:=bK eB;subst AH;have dX:β w w1:=jt ‹_› (hb1.mono (gT ‹_›));have hcc:=bO.o _ dX)|(go_at_call 130;refine(aFs D.ob A1 c1 a D.who Aw cw _ (aW.cA eB) km HI.o (pB.o _ dX) IL).mono ?_;rintro e w2 hg2;obtain⟨v2,h21,h22,h23⟩:=hg2;subst h21;have hb2:=dX.trans (h23.mono dX.size);have hc2:=bO.o _ hb2))
 all_goals
  have dD:=η h22;have aV:=η hb2;have hz2:=dX.size;go_wp2
  go_ret;exact⟨v2,rfl,iB dD.o hz2,aV.o⟩
theorem Q5(D:Dk)(a:Int):aA (di D a)<=aA D.ob:=by unfold di;rw [iR];exact qd _ _
theorem MN {D:Dk}(h:sM D.ob)(a:Int):∀x∈di D a,aL x.n:=by intro x hx;unfold di at hx;obtain⟨y,hy,rfl⟩:=dW.1 hx;have h0:=h.each y (jD.1 hy).1;have h1:=h0.lo;have h2:=h0.hi;unfold Ob.claim aL;unfold fJ at*;simp only;split<;>omega
theorem SC(L:List Lg):aL (iW L):=by
 unfold iW;split
 ·rename_i h;exact(BO h).2.2
 decide
def yQ(D:Dk):Int:=pS (balA (aA D.x.ms) (aA D.x.ss+1) D.l 1 0 0) (iW (di D 0))
def jK(D:Dk)(a:Int):Int:=AV (balA (aA D.x.ms) (aA D.x.ss+1) D.l 1 0 a) (di D a)
theorem aEm(db:Nat)(p:Dp)(D:Dk)(w:aJ)(H:bW w db p D)(hO:fX D)(hb:aL (balA (aA D.x.ms) (aA D.x.ss+1) D.l 1 0 0)):
 aQ aM 135 #[π db] w λe w'=>e=aT (ν (yQ D))/\β w w':=by
 have ew:=η (λW (hW:β w W)=>zk db p D 1 0 0 W (H.below hW) (by decide) (by decide));have y9:=η (λW (hW:β w W)=>MA db p D 0 W (H.below hW) hO);have zG:=η (λW=>V7 (balA (aA D.x.ms) (aA D.x.ss+1) D.l 1 0 0) (iW (di D 0)) hb (SC _) W);have CP:=η (MN hO.ob 0);have kA:aA (di D 0)<=100000:=by have h1:=Q5 D 0;have h2:=hO.ob.len;omega
 unfold yQ;generalize balA (aA D.x.ms) (aA D.x.ss+1) D.l 1 0 0=bq at*;generalize di D 0=L at*;have LS:=η (λW A c (hs:aW W W.heap.size A (bA L))=>V8 L A c W hs CP kA);generalize iW L=sv at*;generalize pS bq sv=ov at*;go_enter func135,ntmps135
 go_wp2_with (first|(go_at_call 61;refine mG (xG _) λw2 aV=> ?_)|(go_at_call 46;refine κ (ew.o _ aV.o) aV λw3 af=> ?_)|(go_at_call 68;refine(y9 _ af).mono ?_;rintro e w4 ⟨v4,rfl,gz,hb4⟩;have ar:=τ af hb4;obtain⟨A4,c4,hv4⟩:=bK gz;subst hv4;have dV:=η (aW.cA gz))|(go_at_call 67;refine κ (LS.o _ _ _ dV.o) ar λw5 cV=> ?_)|(go_at_call 86;refine κ (zG.o _) cV λw6 gG=> ?_))
 go_ret;exact⟨rfl,gG⟩
theorem VD(db:Nat)(p:Dp)(D:Dk)(a:Int)(w:aJ)(H:bW w db p D)(hO:fX D)(hb:aL (balA (aA D.x.ms) (aA D.x.ss+1) D.l 1 0 a)):
 aQ aM 69 #[π db,ν a] w λe w'=>e=aT (ν (jK D a))/\β w w':=by
 have ew:=η (λW (hW:β w W)=>zk db p D 1 0 a W (H.below hW) (by decide) (by decide));have y9:=η (λW (hW:β w W)=>MA db p D a W (H.below hW) hO);have CP:=η (MN hO.ob a);have kA:aA (di D a)<=100000:=by have h1:=Q5 D a;have h2:=hO.ob.len;omega
 have yz:=η hb;unfold jK;generalize balA (aA D.x.ms) (aA D.x.ss+1) D.l 1 0 a=bq at*;generalize di D a=L at*;have ur:=η (λW A c (hs:aW W W.heap.size A (bA L))=>a7L bq L A c W yz hs CP kA);generalize AV bq L=sv at*;generalize jJ bq L=se at*;go_enter func69,ntmps69
 go_wp2_with (first|(go_at_call 61;refine mG (xG _) λw2 aV=> ?_)|(go_at_call 46;refine κ (ew.o _ aV.o) aV λw3 af=> ?_)|(go_at_call 68;refine(y9 _ af).mono ?_;rintro e w4 ⟨v4,rfl,gz,hb4⟩;have ar:=τ af hb4;obtain⟨A4,c4,hv4⟩:=bK gz;subst hv4;have dV:=η (aW.cA gz))|(go_at_call 131;refine κ (ur.o _ _ _ dV.o) ar λw5 cV=> ?_))
 go_ret;exact⟨rfl,cV⟩
def sB(a n dn:Int)(lost:Bool):Int:=if dn≥n then 2 else if a=0\/lost=aO then 5 else 4
def Bj(n dn:Int):Int:=if dn≥n then n else dn
theorem aEy(db:Nat)(p:Dp)(D:Dk)(m a n dn:Int)(lost:Bool)(w:aJ)(H:bW w db p D)(hO:fX D):
 aQ aM 74 #[bF (aC ⟨db,0,aB⟩),bU #[aG aF m,aG aF a,aG aF n],aG aF dn,bJ lost] w λe w'=>e=aT (bB #[])/\aq db p {D with ob:=lS m a (sB a n dn lost) (Bj n dn) D.ob} w w':=by
 have aY:Hid (aa w.heap.size w (w.alloc (aK #[aG aF m,aG aF a,aG aF n] 76))):=η σ;have cZ:Hid ((w.alloc (aK #[aG aF m,aG aF a,aG aF n] 76)).heap[w.heap.size]? =aC (aK #[aG aF m,aG aF a,aG aF n] 76 (0,0))):=η (cO w _);have hz0:w.heap.size<(w.alloc (aK #[aG aF m,aG aF a,aG aF n] 76)).heap.size:=by simp
 have HF:=η H;have O8:=η hO.ob;have mh:Hid (∀k,eV db p k->k<w.heap.size):=η (λk hk=>H.uW hk);clear H hO;go_enter func74,ntmps74
 go_upto_region 1 with (fail)
 generalize w.alloc (aK #[aG aF m,aG aF a,aG aF n] 76)=w1 at*;obtain⟨bx,bT⟩:∃bx,bx=w.heap.size:=⟨_,rfl⟩;have dH:=η bT;rw [<-bT] at cZ hz0 ⊢;clear bT;have c1:w1.cell? ⟨bx,1,aB⟩=aC (aG aF a):=ρ cZ.o;have c2:w1.cell? ⟨bx,2,aB⟩=aC (aG aF n):=ρ cZ.o;by_cases h1:dn≥n
 ·have HS:Hid (sB a n dn lost=2):=η (by unfold sB;rw [ifP h1]);have HN:Hid (Bj n dn=n):=η (by unfold Bj;rw [ifP h1]);go_upto_region 3 with (fail)
  go_quiet (fail)
  clear c1 c2;go_upto_region 6 with (fail)
  have aV:Hid (aa w1.heap.size w1 (w1.drewN nq)):=η (below_drewN (aX _ _) nq);have kM:Hid ((w1.drewN nq).heap[bx]? =aC (aK #[aG aF m,aG aF a,aG aF n] 76 (0,0))):=η cZ.o;have hz2:bx<(w1.drewN nq).heap.size:=hz0;have cJ:Hid (bW (w1.drewN nq).drew db p D):=η (HF.o.below (aY.o.trans ((aV.o.mono aY.o.size).trans ((aX _ _).drew.mono (bz aY.o.size aV.o.size)))));have ir:Hid (aa w.heap.size w (w1.drewN nq).drew):=η (aY.o.trans ((aV.o.mono aY.o.size).trans ((aX _ _).drew.mono (bz aY.o.size aV.o.size))));have rH:=η (NP D.ob m a 2 n p.sv p.sb 0 (w1.drewN nq).drew cJ.o.sh O8.o);have d9:(w1.drewN nq).drew.cell? ⟨db,9,aB⟩=aC (bF (aC ⟨p.sb,0,aB⟩)):=cJ.o.cells.c9;have d0:(w1.drewN nq).drew.cell? ⟨bx,0,aB⟩=aC (aG aF m):=ρ kM.o;have d1:(w1.drewN nq).drew.cell? ⟨bx,1,aB⟩=aC (aG aF a):=ρ kM.o;have hzd:bx<(w1.drewN nq).drew.heap.size:=hz2;have bX:Hid (¬eV db p bx):=η (λh=>by have:=mh.o bx h;rw [dH.o] at this;omega);go_region_held3 (λW=>W.cell? ⟨db,9,aB⟩=aC (bF (aC ⟨p.sb,0,aB⟩))/\W.cell? ⟨bx,0,aB⟩=aC (aG aF m)/\W.cell? ⟨bx,1,aB⟩=aC (aG aF a)) (first|(with_reducible exact⟨d9,d0,d1⟩)|(with_reducible exact⟨m9,m0,m1⟩)) ((go_at_call 124;refine rH.o.mono ?_;intro e w7 h7;obtain⟨rfl,dE⟩:=cJ.o.Fb h7;have m9:=dE.c9;have m0:=(dE.cell 0 hzd bX.o).trans d0;have m1:=(dE.cell 1 hzd bX.o).trans d1))
  have gA:Hid (aq db p {D with ob:=lS m a 2 n D.ob} w w7):=η (aq.trans (bC.bZ _ ir.o) (λ_ h=> .inl h) ⟨rfl,rfl,rfl,rfl⟩ dE);clear dE h7 m9 m0 m1 d9 d0 d1 hzd rH;go_wp2_with fail
  go_end0
  refine⟨rfl, ?_⟩;rw [HS.o,HN.o];exact gA.o
 have HN:Hid (Bj n dn=dn):=η (by unfold Bj;rw [ifN h1]);have uQ:dn<n:=by omega
 by_cases h2:a=0
 ·have HS:Hid (sB a n dn lost=5):=η (by unfold sB;rw [ifN h1,ifP (.inl h2)]);subst h2;clear h1;go_upto_region 6 with (fail)
  have aV:Hid (aa w1.heap.size w1 w1):=η (aX _ _);have kM:Hid (w1.heap[bx]? =aC (aK #[aG aF m,aG aF 0,aG aF n] 76 (0,0))):=η cZ.o;have hz2:bx<w1.heap.size:=hz0;have cJ:Hid (bW w1.drew db p D):=η (HF.o.below (aY.o.trans ((aV.o.mono aY.o.size).trans ((aX _ _).drew.mono (bz aY.o.size aV.o.size)))));have ir:Hid (aa w.heap.size w w1.drew):=η (aY.o.trans ((aV.o.mono aY.o.size).trans ((aX _ _).drew.mono (bz aY.o.size aV.o.size))));have rH:=η (NP D.ob m 0 5 dn p.sv p.sb 0 w1.drew cJ.o.sh O8.o);have d9:w1.drew.cell? ⟨db,9,aB⟩=aC (bF (aC ⟨p.sb,0,aB⟩)):=cJ.o.cells.c9;have d0:w1.drew.cell? ⟨bx,0,aB⟩=aC (aG aF m):=ρ kM.o;have d1:w1.drew.cell? ⟨bx,1,aB⟩=aC (aG aF 0):=ρ kM.o;have hzd:bx<w1.drew.heap.size:=hz2;have bX:Hid (¬eV db p bx):=η (λh=>by have:=mh.o bx h;rw [dH.o] at this;omega);go_region_held3 (λW=>W.cell? ⟨db,9,aB⟩=aC (bF (aC ⟨p.sb,0,aB⟩))/\W.cell? ⟨bx,0,aB⟩=aC (aG aF m)/\W.cell? ⟨bx,1,aB⟩=aC (aG aF 0)) (first|(with_reducible exact⟨d9,d0,d1⟩)|(with_reducible exact⟨m9,m0,m1⟩)) ((go_at_call 124;refine rH.o.mono ?_;intro e w7 h7;obtain⟨rfl,dE⟩:=cJ.o.Fb h7;have m9:=dE.c9;have m0:=(dE.cell 0 hzd bX.o).trans d0;have m1:=(dE.cell 1 hzd bX.o).trans d1))
  have gA:Hid (aq db p {D with ob:=lS m 0 5 dn D.ob} w w7):=η (aq.trans (bC.bZ _ ir.o) (λ_ h=> .inl h) ⟨rfl,rfl,rfl,rfl⟩ dE);clear dE h7 m9 m0 m1 d9 d0 d1 hzd rH;go_wp2_with fail
  go_end0
  refine⟨rfl, ?_⟩;rw [HS.o,HN.o];exact gA.o
 have hb:(a==0)=aP:=by simpa using h2
 cases lost with
 |true=>
  have HS:Hid (sB a n dn aO=5):=η (by unfold sB;rw [ifN h1,ifP (.inr rfl)]);clear h1;go_upto_region 6 with (fail)
  have aV:Hid (aa w1.heap.size w1 w1):=η (aX _ _);have kM:Hid (w1.heap[bx]? =aC (aK #[aG aF m,aG aF a,aG aF n] 76 (0,0))):=η cZ.o;have hz2:bx<w1.heap.size:=hz0;have cJ:Hid (bW w1.drew db p D):=η (HF.o.below (aY.o.trans ((aV.o.mono aY.o.size).trans ((aX _ _).drew.mono (bz aY.o.size aV.o.size)))));have ir:Hid (aa w.heap.size w w1.drew):=η (aY.o.trans ((aV.o.mono aY.o.size).trans ((aX _ _).drew.mono (bz aY.o.size aV.o.size))));have rH:=η (NP D.ob m a 5 dn p.sv p.sb 0 w1.drew cJ.o.sh O8.o);have d9:w1.drew.cell? ⟨db,9,aB⟩=aC (bF (aC ⟨p.sb,0,aB⟩)):=cJ.o.cells.c9;have d0:w1.drew.cell? ⟨bx,0,aB⟩=aC (aG aF m):=ρ kM.o;have d1:w1.drew.cell? ⟨bx,1,aB⟩=aC (aG aF a):=ρ kM.o;have hzd:bx<w1.drew.heap.size:=hz2;have bX:Hid (¬eV db p bx):=η (λh=>by have:=mh.o bx h;rw [dH.o] at this;omega);go_region_held3 (λW=>W.cell? ⟨db,9,aB⟩=aC (bF (aC ⟨p.sb,0,aB⟩))/\W.cell? ⟨bx,0,aB⟩=aC (aG aF m)/\W.cell? ⟨bx,1,aB⟩=aC (aG aF a)) (first|(with_reducible exact⟨d9,d0,d1⟩)|(with_reducible exact⟨m9,m0,m1⟩)) ((go_at_call 124;refine rH.o.mono ?_;intro e w7 h7;obtain⟨rfl,dE⟩:=cJ.o.Fb h7;have m9:=dE.c9;have m0:=(dE.cell 0 hzd bX.o).trans d0;have m1:=(dE.cell 1 hzd bX.o).trans d1))
  have gA:Hid (aq db p {D with ob:=lS m a 5 dn D.ob} w w7):=η (aq.trans (bC.bZ _ ir.o) (λ_ h=> .inl h) ⟨rfl,rfl,rfl,rfl⟩ dE);clear dE h7 m9 m0 m1 d9 d0 d1 hzd rH;go_wp2_with fail
  go_end0
  refine⟨rfl, ?_⟩;rw [HS.o,HN.o];exact gA.o
 |false=>
  have HS:Hid (sB a n dn aP=4):=η (by unfold sB;rw [ifN h1,ifN (by simp [h2])]);clear h1;go_upto_region 6 with (fail)
  have aV:Hid (aa w1.heap.size w1 w1):=η (aX _ _);have kM:Hid (w1.heap[bx]? =aC (aK #[aG aF m,aG aF a,aG aF n] 76 (0,0))):=η cZ.o;have hz2:bx<w1.heap.size:=hz0;have cJ:Hid (bW w1.drew db p D):=η (HF.o.below (aY.o.trans ((aV.o.mono aY.o.size).trans ((aX _ _).drew.mono (bz aY.o.size aV.o.size)))));have ir:Hid (aa w.heap.size w w1.drew):=η (aY.o.trans ((aV.o.mono aY.o.size).trans ((aX _ _).drew.mono (bz aY.o.size aV.o.size))));have rH:=η (NP D.ob m a 4 dn p.sv p.sb 0 w1.drew cJ.o.sh O8.o);have d9:w1.drew.cell? ⟨db,9,aB⟩=aC (bF (aC ⟨p.sb,0,aB⟩)):=cJ.o.cells.c9;have d0:w1.drew.cell? ⟨bx,0,aB⟩=aC (aG aF m):=ρ kM.o;have d1:w1.drew.cell? ⟨bx,1,aB⟩=aC (aG aF a):=ρ kM.o;have hzd:bx<w1.drew.heap.size:=hz2;have bX:Hid (¬eV db p bx):=η (λh=>by have:=mh.o bx h;rw [dH.o] at this;omega);go_region_held3 (λW=>W.cell? ⟨db,9,aB⟩=aC (bF (aC ⟨p.sb,0,aB⟩))/\W.cell? ⟨bx,0,aB⟩=aC (aG aF m)/\W.cell? ⟨bx,1,aB⟩=aC (aG aF a)) (first|(with_reducible exact⟨d9,d0,d1⟩)|(with_reducible exact⟨m9,m0,m1⟩)) ((go_at_call 124;refine rH.o.mono ?_;intro e w7 h7;obtain⟨rfl,dE⟩:=cJ.o.Fb h7;have m9:=dE.c9;have m0:=(dE.cell 0 hzd bX.o).trans d0;have m1:=(dE.cell 1 hzd bX.o).trans d1))
  have gA:Hid (aq db p {D with ob:=lS m a 4 dn D.ob} w w7):=η (aq.trans (bC.bZ _ ir.o) (λ_ h=> .inl h) ⟨rfl,rfl,rfl,rfl⟩ dE);clear dE h7 m9 m0 m1 d9 d0 d1 hzd rH;go_wp2_with fail
  go_end0
  refine⟨rfl, ?_⟩;rw [HS.o,HN.o];exact gA.o
def leave1(D:Dk)(a:Int):Dk:=if 0<balA (aA D.x.ms) (aA D.x.ss+1) D.l 1 0 a then {D with l:=bj D 1 0 2 0 a (balA (aA D.x.ms) (aA D.x.ss+1) D.l 1 0 a),log:=D.log++ [⟨16,0,a,balA (aA D.x.ms) (aA D.x.ss+1) D.l 1 0 a,0⟩]} else D
def leaveD(D:Dk):Nat->Dk
 |0=>D
 |k+1=>leave1 (leaveD D k) (k:Int)
theorem aHY(D:Dk)(k:Nat):(leaveD D k).x=D.x:=by
 induction k with
 |zero=>rfl
 |succ k ih=>unfold leaveD leave1;split<;>exact ih
theorem aEw(db:Nat)(p:Dp)(D:Dk)(w:aJ)(H:bW w db p D)(hO:∀k,k<=aA D.x.ss+1->fX (leaveD D k))(hI:∀k,k<=aA D.x.ss->aL (balA (aA D.x.ms) (aA D.x.ss+1) (leaveD D k).l 1 0 (k:Int)))(Qr:aA D.x.ss<=100000):
 aQ aM 76 #[π db] w λe w'=>e=aT (bB #[])/\aq db p (leaveD D (aA D.x.ss+1)) w w':=by
 have HO:=η hO;have HI:=η hI;have c1:=H.cells.c1;have iX:Hid (aq db p (leaveD D 0) w w):=η (aq.refl H);have HX:Hid (∀k,(leaveD D k).x=D.x):=η (aHY D);obtain⟨n,hn⟩:∃n,n=aA D.x.ss:=⟨_,rfl⟩;have HN:=η hn;rw [<-hn] at HO HI c1 Qr ⊢;clear H hO hI hn;go_enter func76,ntmps76
 go_wp2_with fail
 go_loopw [2,3,11] (λ_ _ i wr=>∃k:Nat,k<=n+1/\i=ν (k:Int)/\Hid (aq db p (leaveD D k) w wr)) (λ_ _ i _=>n+1-(ag i).toNat)
 case atStart=>exact⟨0,bL _,rfl,iX⟩
 case round=>
  clear iX;obtain⟨k,hk,rfl,HP⟩:=hrel;by_cases hlt:k<n+1
  ·have rj:(k:Int)<(n:Int)+1:=by omega
   obtain⟨p1,h1,e1,e2,e3,e4,dA,hs1⟩:=HP.o;have HF:=η h1;have HT:Hid (∀W D2,aq db p1 D2 wr W->aq db p D2 w W):=η (λW D2 h=>aq.trans dA hs1 ⟨e1,e2,e3,e4⟩ h);have HL:Hid (leaveD D (k+1)=leave1 (leaveD D k) (k:Int)):=η rfl;have dP:=η (HO.o k hk);have K6:=HI.o k (by omega);rw [HN.o,<-HX.o k] at K6;have QC:aL (k:Int):=by unfold aL;omega
   clear h1 e1 e2 e3 e4 dA hs1 HP;generalize leaveD D k=E at*;have ew:=η (λW (hW:β wr W)=>zk db p1 E 1 0 (k:Int) W (HF.o.below hW) (by decide) (by decide));have um:Hid (leave1 E (k:Int)=if 0<balA (aA E.x.ms) (aA E.x.ss+1) E.l 1 0 (k:Int) then {E with l:=bj E 1 0 2 0 (k:Int) (balA (aA E.x.ms) (aA E.x.ss+1) E.l 1 0 (k:Int)),log:=E.log++ [⟨16,0,(k:Int),balA (aA E.x.ms) (aA E.x.ss+1) E.l 1 0 (k:Int),0⟩]} else E):=η rfl;generalize balA (aA E.x.ms) (aA E.x.ss+1) E.l 1 0 (k:Int)=bq at*;have yz:=η K6;by_cases hb:0<bq
   ·go_upto_region 5 with (first|(go_at_call 61;refine(xG _).mono ?_;rintro e w2 ⟨rfl,hb2⟩;have aV:=η hb2;clear hb2)|(go_at_call 46;refine(ew.o _ aV.o).mono ?_;rintro e w4 ⟨rfl,hb3⟩;have ar:=τ aV hb3;clear hb3))
    have lG:=η (HF.o.below ar.o);have lZ:=η (λW (hW:β w4 W)=>Gz db p1 E 1 0 2 0 (k:Int) bq W (lG.o.below hW) dP.o ⟨by decide,by decide⟩ ⟨by decide,by decide⟩ QC yz.o (by omega));have bO:=η (λW (hW:β w4 W)=>(lG.o.below hW).cells.c8);have bP:β w4 w4.drew:=(aX _ _).drew;have hdd:=bO.o _ bP;go_region_held3 (λW=>W.cell? ⟨db,8,aB⟩=aC (π p1.vb)) (first|(with_reducible assumption)) (first|(go_at_call 61;refine(xG _).mono ?_;rintro e w5 ⟨rfl,gD⟩;have qK:β w4 w5:=jt (by with_reducible assumption) (gD.mono (gT (by with_reducible assumption)));have hcc:=bO.o _ qK)|(go_at_call 87;refine(lZ.o _ (by with_reducible assumption)).mono ?_;rintro e w7 ⟨rfl,dE,hcm⟩))
    have gA:Hid (aq db p1 {E with l:=bj E 1 0 2 0 (k:Int) bq} wr w7):=η (aq.trans (bC.bZ _ (ar.o.trans (Below.mono (by with_reducible assumption) ar.o.size))) (λ_ h=> .inl h) ⟨rfl,rfl,rfl,rfl⟩ dE);clear dE hcm gD qK hcc bP hdd lZ bO lG ar aV;obtain⟨p4,H4,e1,e2,e3,e4,qO,j5⟩:=gA.o;have kU:=η (H4.below ((aX w7.heap.size w7).alloc (aZ _) (aK #[ν 16,ν 0,ν (k:Int),ν bq,ν 0] 45)));have kW:=η (xK db p4 {E with l:=bj E 1 0 2 0 (k:Int) bq} [⟨16,0,(k:Int),bq,0⟩] w7.heap.size 1 _ kU.o (dN w7 45 #[ν 16,ν 0,ν (k:Int),ν bq,ν 0] rfl) (by simp) (by simp) (by have:=dP.o.gl;simp only;omega));have pg:Hid (∀W,aq db p4 {E with l:=bj E 1 0 2 0 (k:Int) bq,log:=E.log++ [⟨16,0,(k:Int),bq,0⟩]} (w7.alloc (aK #[ν 16,ν 0,ν (k:Int),ν bq,ν 0] 45)) W->aq db p (leaveD D (k+1)) w W):=η (λW h=>by rw [HL.o,um.o,ifP hb];exact HT.o W _ (aq.trans qO j5 ⟨e1,e2,e3,e4⟩ (aq.trans (bC.bZ _ σ) (λ_ h=> .inl h) ⟨rfl,rfl,rfl,rfl⟩ h)));clear H4 e1 e2 e3 e4 qO j5 gA;go_wp2_with (go_at_call 55;refine kW.o.mono ?_;rintro e w8 ⟨rfl,h8⟩;have dw:=η (pg.o _ h8);clear h8)
    go_roundw
    case rel=>exact⟨k+1,by omega,by go_num,dw⟩
    case measure=>simp [ag];omega
   go_wp2_with (first|(go_at_call 61;refine(xG _).mono ?_;rintro e w2 ⟨rfl,hb2⟩;have aV:=η hb2;clear hb2)|(go_at_call 46;refine(ew.o _ aV.o).mono ?_;rintro e w4 ⟨rfl,hb3⟩;have ar:=τ aV hb3;clear hb3))
   have dw:Hid (aq db p (leaveD D (k+1)) w w4):=η (by rw [HL.o,um.o,ifN (by omega)];exact HT.o _ _ (aq.bZ HF.o ar.o));go_roundw
   case rel=>exact⟨k+1,by omega,by go_num,dw⟩
   case measure=>simp [ag];omega
  obtain rfl:k=n+1:=by omega
  rw [show ((n+1:Nat):Int)=(n:Int)+1 by omega];go_wp2_with fail
  go_end0
  exact⟨rfl,HP.o⟩
def Hi(D:Dk)(x:Lg):Dk:= {D with l:=bj D 1 0 7 x.m x.a x.n,log:=D.log++ [⟨13,x.m,x.a,x.n,0⟩]}
def iw(D:Dk)(L:List Lg):Dk:=L.foldl Hi D
theorem aFn {D:Dk} {L:List Lg} {k:Nat}(h:k<aA L):iw D (L.take (k+1))=Hi (iw D (L.take k)) L[k]:=by rw [fE h];unfold iw;rw [List.foldl_append];rfl
theorem a2g(db:Nat)(p:Dp)(D:Dk)(L:List Lg)(A:Option aj)(c:Nat)(w:aJ)(H:bW w db p D)(hs:aW w w.heap.size A (bA L))(hA:bA L≠ []->∀q,A=aC q->¬eV db p q.block)(hO:∀k,k<=aA L->fX (iw D (L.take k)))(hI:∀x∈L,aL x.m/\aL x.a/\aL x.n/\0<=x.n)(hl:aA L<=100000):
 aQ aM 138 #[π db,aH A (aA L) c] w λe w'=>e=aT (bB #[])/\aq db p (iw D L) w w':=by
 have HO:=η hO;have HI:=η hI;have iX:Hid (aq db p (iw D (L.take 0)) w w):=η (aq.refl H);have BB:Hid (∀W D2,aq db p D2 w W->aW W W.heap.size A (bA L)):=η (λW D2 h=>by obtain⟨_,_,_,_,_,_,hu,_⟩:=h;exact hu.dt hs hA);clear H hs hA hO hI;go_enter func138,ntmps138
 go_wp2_with fail
 go_loopw [5,8] (λ_ i wr=>∃k:Nat,k<=aA L/\i=ν (k:Int)/\Hid (aq db p (iw D (L.take k)) w wr)) (λ_ i _=>aA L-(ag i).toNat)
 case atStart=>exact⟨0,bL _,rfl,iX⟩
 case round=>
  clear iX;obtain⟨k,hk,rfl,HP⟩:=hrel;by_cases hlt:k<aA L
  ·obtain⟨bl,ol,kO,hbl,l0,l1,l2⟩:=oL (BB.o _ _ HP.o) hlt;have eY:(0:Int)<=(k:Int):=by omega
   have hkb:(k:Int)<(aA L:Int):=by omega
   obtain⟨p1,h1,e1,e2,e3,e4,dA,hs1⟩:=HP.o;have HF:=η h1;have mh:Hid (∀j,eV db p1 j->j<wr.heap.size):=η (λj hj=>h1.uW hj);have HT:Hid (∀W D2,aq db p1 D2 wr W->aq db p D2 w W):=η (λW D2 h=>aq.trans dA hs1 ⟨e1,e2,e3,e4⟩ h);have HL:=η (aFn (D:=D) hlt);have dP:=η (HO.o k hk);obtain⟨qL,qM,rZ,vV⟩:=HI.o _ (cK hlt);clear h1 e1 e2 e3 e4 dA hs1 HP;subst kO;generalize iw D (L.take k)=E at*;generalize L[k]=x at*;obtain⟨xm,xa,xn⟩:=x;simp only at l0 l1 l2 qL qM rZ vV;have oY:=η (kT qL (kT qM (kT rZ vV)));have um:Hid (Hi E ⟨xm,xa,xn⟩= {E with l:=bj E 1 0 7 xm xa xn,log:=E.log++ [⟨13,xm,xa,xn,0⟩]}):=η rfl;have ar:Hid (β wr (wr.alloc (aK #[ν xm,ν xa,ν xn] 76))):=η σ;have pC:Hid ((wr.alloc (aK #[ν xm,ν xa,ν xn] 76)).heap[wr.heap.size]? =aC (aK #[ν xm,ν xa,ν xn] 76 (0,0))):=η (cO wr _);have mW:wr.heap.size<(wr.alloc (aK #[ν xm,ν xa,ν xn] 76)).heap.size:=by simp
   clear qL qM rZ vV;go_upto_region 3 with (fail)
   generalize wr.alloc (aK #[ν xm,ν xa,ν xn] 76)=w4 at*;obtain⟨bx,bT⟩:∃bx,bx=wr.heap.size:=⟨_,rfl⟩;have dH:=η bT;rw [<-bT] at pC mW ⊢;clear bT;have lG:=η (HF.o.below ar.o);have bX:Hid (¬eV db p1 bx):=η (λh=>by have:=mh.o bx h;rw [dH.o] at this;omega);have lZ:=η (λW (hW:β w4 W)=>Gz db p1 E 1 0 7 xm xa xn W (lG.o.below hW) dP.o ⟨by decide,by decide⟩ ⟨by decide,oY.o.1⟩ oY.o.2.1 oY.o.2.2.1 oY.o.2.2.2);have bO:Hid (∀W,β w4 W->W.cell? ⟨db,8,aB⟩=aC (π p1.vb)/\W.cell? ⟨bx,0,aB⟩=aC (ν xm)/\W.cell? ⟨bx,1,aB⟩=aC (ν xa)/\W.cell? ⟨bx,2,aB⟩=aC (ν xn)):=η (λW hW=>by have hd:=(hW.block bx mW).trans pC.o;exact⟨(lG.o.below hW).cells.c8,ρ hd,ρ hd,ρ hd⟩);have LF:Hid (∀W W',β w4 W->aq db p1 {E with l:=bj E 1 0 7 xm xa xn} W W'->W'.cell? ⟨db,8,aB⟩=aC (π p1.vb)->W'.cell? ⟨db,8,aB⟩=aC (π p1.vb)/\W'.cell? ⟨bx,0,aB⟩=aC (ν xm)/\W'.cell? ⟨bx,1,aB⟩=aC (ν xa)/\W'.cell? ⟨bx,2,aB⟩=aC (ν xn)):=η (λW W' hW h h8=>by have hz:=cP mW hW.size;obtain⟨_,q0,q1,q2⟩:=bO.o W hW;exact⟨h8,(h.cell 0 hz bX.o).trans q0,(h.cell 1 hz bX.o).trans q1,(h.cell 2 hz bX.o).trans q2⟩);have bP:β w4 w4.drew:=(aX _ _).drew;have hdd:=bO.o _ bP;go_region_held3 (λW=>W.cell? ⟨db,8,aB⟩=aC (π p1.vb)/\W.cell? ⟨bx,0,aB⟩=aC (ν xm)/\W.cell? ⟨bx,1,aB⟩=aC (ν xa)/\W.cell? ⟨bx,2,aB⟩=aC (ν xn)) (first|(with_reducible assumption)) (first|(go_at_call 61;refine(xG _).mono ?_;rintro e w5 ⟨rfl,gD⟩;have qK:β w4 w5:=jt (by with_reducible assumption) (gD.mono (gT (by with_reducible assumption)));have hcc:=bO.o _ qK)|(go_at_call 49;refine(Ed xm _).mono ?_;rintro e w6 ⟨rfl,tI⟩;have xN:β w4 w6:=jt (by with_reducible assumption) (tI.mono (gT (by with_reducible assumption)));have qu:=bO.o _ xN)|(go_at_call 87;refine(lZ.o _ (by with_reducible assumption)).mono ?_;rintro e w7 ⟨rfl,dE,hcm⟩;have zy:=LF.o _ _ (by with_reducible assumption) dE hcm))
   all_goals
    have gA:Hid (aq db p1 {E with l:=bj E 1 0 7 xm xa xn} wr w7):=η (aq.trans (bC.bZ _ (ar.o.trans (Below.mono (by with_reducible assumption) ar.o.size))) (λ_ h=> .inl h) ⟨rfl,rfl,rfl,rfl⟩ dE);obtain⟨_,m0,m1,m2⟩:=zy;clear dE hcm gD qK hcc tI xN qu bP hdd lZ bO lG ar LF pC mW;obtain⟨p4,H4,e1,e2,e3,e4,qO,j5⟩:=gA.o;have kU:=η (H4.below ((aX w7.heap.size w7).alloc (aZ _) (aK #[ν 13,ν xm,ν xa,ν xn,ν 0] 45)));have kW:=η (xK db p4 {E with l:=bj E 1 0 7 xm xa xn} [⟨13,xm,xa,xn,0⟩] w7.heap.size 1 _ kU.o (dN w7 45 #[ν 13,ν xm,ν xa,ν xn,ν 0] rfl) (by simp) (by simp) (by have:=dP.o.gl;simp only;omega));have pg:Hid (∀W,aq db p4 {E with l:=bj E 1 0 7 xm xa xn,log:=E.log++ [⟨13,xm,xa,xn,0⟩]} (w7.alloc (aK #[ν 13,ν xm,ν xa,ν xn,ν 0] 45)) W->aq db p (iw D (L.take (k+1))) w W):=η (λW h=>by rw [HL.o,um.o];exact HT.o W _ (aq.trans qO j5 ⟨e1,e2,e3,e4⟩ (aq.trans (bC.bZ _ σ) (λ_ h=> .inl h) ⟨rfl,rfl,rfl,rfl⟩ h)));clear H4 e1 e2 e3 e4 qO j5 gA;go_wp2_with (go_at_call 55;refine kW.o.mono ?_;rintro e w8 ⟨rfl,h8⟩;have dw:=η (pg.o _ h8);clear h8)
    go_roundw
    case rel=>exact⟨k+1,by omega,by go_num,dw⟩
    case measure=>simp [ag];omega
  obtain rfl:k=aA L:=by omega
  rw [cT] at HP;go_wp2_with fail
  go_end0
  exact⟨rfl,HP.o⟩
def jy(D:Dk)(kd:Int)(L:List Lg):Dk:= {D with log:=D.log++L.map λx=>(⟨kd,x.m,x.a,x.n,0⟩:Ev)}
theorem a3A {D:Dk} {kd:Int} {L:List Lg} {k:Nat}(h:k<aA L):jy D kd (L.take (k+1))= {jy D kd (L.take k) with log:=(jy D kd (L.take k)).log++ [⟨kd,L[k].m,L[k].a,L[k].n,0⟩]}:=by rw [fE h];unfold jy;simp only [df,yM,List.map_nil,List.append_assoc]
theorem a2C(db:Nat)(p:Dp)(D:Dk)(L:List Lg)(kd:Int)(A:Option aj)(c:Nat)(w:aJ)(H:bW w db p D)(hs:aW w w.heap.size A (bA L))(hA:bA L≠ []->∀q,A=aC q->¬eV db p q.block)(hg:aA D.log+aA L<=90000)(hl:aA L<=80000):
 aQ aM 139 #[aH A (aA L) c,ν kd,.func (.func 55) #[π db] #[]] w λe w'=>e=aT (bB #[])/\aq db p (jy D kd L) w w':=by
 have iX:Hid (aq db p (jy D kd (L.take 0)) w w):=η (by
  have e:jy D kd (L.take 0)=D:=by unfold jy;simp
  rw [e];exact aq.refl H)
 have BB:Hid (∀W D2,aq db p D2 w W->aW W W.heap.size A (bA L)):=η (λW D2 h=>by obtain⟨_,_,_,_,_,_,hu,_⟩:=h;exact hu.dt hs hA);go_enter func139,ntmps139
 go_wp2
 go_loopw [7,10] (λ_ i wr=>∃k:Nat,k<=aA L/\i=ν (k:Int)/\Hid (aq db p (jy D kd (L.take k)) w wr)) (λ_ i _=>aA L-(ag i).toNat)
 ·exact⟨0,bL _,rfl,iX⟩
 ·
  obtain⟨k,hk,rfl,HP⟩:=hrel;by_cases hlt:k<aA L
  ·obtain⟨bl,ol,kO,hbl,l0,l1,l2⟩:=oL (BB.o _ _ HP.o) hlt;have eY:(0:Int)<=(k:Int):=by omega
   have hkb:(k:Int)<(aA L:Int):=by omega
   have kA:(jy D kd (L.take k)).log.length<=100000:=by unfold jy;simp only [cN,iR,uz];omega
   obtain⟨p1,h1,e1,e2,e3,e4,dA,hs1⟩:=HP.o;have HF:=η h1;have HT:Hid (∀W D2,aq db p1 D2 wr W->aq db p D2 w W):=η (λW D2 h=>aq.trans dA hs1 ⟨e1,e2,e3,e4⟩ h);have HL:=η (a3A (D:=D) (kd:=kd) hlt);subst kO;generalize jy D kd (L.take k)=E at*;generalize L[k]=x at*;obtain⟨xm,xa,xn⟩:=x;simp only at l0 l1 l2;have ny:Hid (β wr ((wr.alloc (aK #[ν xm,ν xa,ν xn] 76)).alloc (aK #[ν kd,ν xm,ν xa,ν xn,ν 0] 45))):=η (σ.alloc (by simp) _);have kU:=η (HF.o.below ny.o);have kW:=η (xK db p1 E [⟨kd,xm,xa,xn,0⟩] (wr.heap.size+1) 1 _ kU.o (dN (wr.alloc (aK #[ν xm,ν xa,ν xn] 76)) 45 #[ν kd,ν xm,ν xa,ν xn,ν 0] (by simp)) (by simp) (by simp) (by omega));have pg:Hid (∀W,aq db p1 {E with log:=E.log++ [⟨kd,xm,xa,xn,0⟩]} ((wr.alloc (aK #[ν xm,ν xa,ν xn] 76)).alloc (aK #[ν kd,ν xm,ν xa,ν xn,ν 0] 45)) W->aq db p (jy D kd (L.take (k+1))) w W):=η (λW h=>by rw [HL.o];exact HT.o W _ (aq.trans (bC.bZ _ ny.o) (λ_ h=> .inl h) ⟨rfl,rfl,rfl,rfl⟩ h));go_wp2_with (go_at_call 55;refine kW.o.mono ?_;rintro e w8 ⟨rfl,h8⟩;have dw:=η (pg.o _ h8))
   go_roundw
   ·exact⟨k+1,by omega,by go_num,dw⟩
   simp [ag];omega
  obtain rfl:k=aA L:=by omega
  rw [cT] at HP;go_wp2
  go_end0
  exact⟨rfl,HP.o⟩
section
variable {F:Fence} {n:Nat} {P:Program} {β:Type}
def Hands(F:Fence)(n:Nat)(P:Program)(g:Nat)(lb:Array aN)(Hd:aN->β->aJ->Prop)(Kp:aJ->aJ->Prop)(ys:List β)(w:aJ):Prop:=
 ∀(l:Nat) (J:List β->aJ->Prop) (W:aJ),aa w.heap.size w W->AbidesFrom W.heap.size J->
  (∀pre y v W1,J pre W1->Hd v y W1->(pre++ [y])<+:ys->YieldAt F (n-1) P l #[v] W1 λe W'=>e=aT (bJ aO)/\J (pre++ [y]) W'/\Kp W1 W')->
  J [] W->
  CallsIn F n P g (#[.func (.yield l) #[] #[]]++lb) W λe W'=>(∃v,e=aT v)/\J ys W'
def a3x(Kp:aJ->aJ->Prop)(I:List β->aJ->Prop)(ys:List β)(W:aJ):Exit->Act->aJ->Prop
 | .normal,_,W'=>KeepsOthers W W'/\Kp W W'/\I ys W'
 |_,_,_=>False
theorem a8U {g:Operand} {t:Tmp} {assign body:Code} {Q:Exit->Act->aJ->Prop} {a:Act} {w:aJ}
 (hro:F.round=aB) (h1:1<=n) {gf:Nat} {lb:Array aN} (hg:a.eval g= .func (.func gf) #[] lb) (hFg:F.fn gf) (eg:∀args w,(callFunc gf args).run P w= .ok (.enter gf args) w)
 {Hd:aN->β->aJ->Prop} {Kp:aJ->aJ->Prop} {ys:List β} {w0:aJ} (hseq:Hands F (n-1) P gf lb Hd Kp ys w0)
 (hKt:∀ {A B C:aJ},Kp A B->Kp B C->Kp A C) (hKb:∀(W:aJ) (l:Nat) (o o':Obj),w.heap.size<=l->W.heap[l]? =aC o->o.isCells=aP->o.isWalk=aP->Kp W (W.putObj l o')) (hb0:aa w0.heap.size w0 w)
 (hHd:∀(v:aN) (y:β) (W:aJ) (l:Nat) (o o':Obj),Hd v y W->W.heap[l]? =aC o->o.isCells=aP->Hd v y (W.putObj l o'))
 (I:List β->aJ->Prop) (hI:OwnFrom w.heap.size I) (h0:I [] w) (a₁:aN->Act)
 (aG8:∀(l:Nat) (v:aN) (W:aJ) (K:Act->aJ->Prop),K (a₁ v) W->assign.wpIn (F.inRound l) (n-1-1) P (Exit.then K (λ_ _ _=>False)) {tmps:=a.tmps.setIfInBounds t v,defers:= []} W)
 (aGB:∀(l:Nat) (pre:List β) (y:β) (v:aN) (W:aJ),I pre W->Hd v y W->(pre++ [y])<+:ys->body.wpIn (F.inRound l) (n-1-1) P (a3x Kp I (pre++ [y]) W) (a₁ v) W)
 (hdone:∀(D:Nat) (W:aJ),w.heap.size<=D->I ys W->W.heap[D]? =aC (.deferred (aC []))->Q .normal {a with defers:= {target:= .collected D,args:= #[]}::a.defers} W):
 (Code.rangeFunc g #[t] assign body).wpIn F n P Q a w:=by
 refine wpIn_rangeFunc ?_;intro fn hfn;rw [hro];obtain⟨rec,FI⟩:∃rec:LoopState->Option Code->Loop,rec=λst pe=> {state:=st,pending:=pe,fn,tmps:=a.tmps,params:= #[t],assign,body,defers:=w.heap.size}:=⟨_,rfl⟩
 obtain⟨W1,hW1⟩:∃W1,(w.alloc (.deferred (aC []))).alloc (.loop (rec .ready aB))=W1:=⟨_,rfl⟩;have hz1:W1.heap.size=w.heap.size+2:=by rw [<-hW1];simp
 have hL1:W1.heap[w.heap.size+1]? =aC (.loop (rec .ready aB)):=by rw [<-hW1];exact Mg _ _ (by simp)
 have QD:W1.heap[w.heap.size]? =aC (.deferred (aC [])):=by rw [<-hW1];exact(fF _ _ (by simp)).trans (Mg w _ rfl)
 have DL:I [] W1:=by rw [<-hW1];exact hI.alloc _ (hI.alloc _ h0)
 have hb1:aa w0.heap.size w0 W1:=by rw [<-hW1];exact hb0.trans ((((aX _ w).alloc (aZ _) _).alloc (by simp) _).mono hb0.size)
 refine⟨w.heap.size+1,[{target:= .collected w.heap.size,args:= #[]}],W1, {target:= .fn (.func gf) lb,args:= #[.func (.yield (w.heap.size+1)) #[] #[]]},W1,gf,
  #[.func (.yield (w.heap.size+1)) #[] #[]]++lb,W1, ?_, ?_, ?_, ?_,λ_=>h1, ?_⟩
 ·rw [<-hW1,FI];exact run_enterLoop_outer _ _ _ _ _
 ·simp only [resolve,hg];simp [go_sem]
 ·intro f' hf';simp [Target.leads] at hf';subst hf';exact hFg
 ·simp [invoke,go_sem,eg]
 have hw:∀ {A:aJ} {row:Option Nat},(∀r,row=aC r->W1.heap.size<=r/\∃o:Obj,A.heap[r]? =aC o/\o.isWalk=aO)->(∀r,row=aC r->w.heap.size<=r/\∃o:Obj,A.heap[r]? =aC o/\o.isCells=aP):=
  λhr r e=>by obtain⟨hB,o,ho,hx⟩:=hr r e;exact⟨by omega,o,ho,Obj.not_cells_of_walk hx⟩
 refine(hseq (w.heap.size+1)
  (λpre W=>I pre W/\W.heap[w.heap.size+1]? =aC (.loop (rec .ready aB))/\W.heap[w.heap.size]? =aC (.deferred (aC [])))
  W1 hb1
  (λs A B row hs DU hr=>⟨hI s A B row hs.1 DU (hw hr),(grownBy_keeps DU (λr e=>(hr r e).2) hs.2.1 rfl).trans hs.2.1,(grownBy_keeps DU (λr e=>(hr r e).2) hs.2.2 rfl).trans hs.2.2⟩)
  ?_ ⟨DL,hL1,QD⟩).mono ?_
 ·rintro pre y v W ⟨hi,hl,hk⟩ hd Wj;have hlt:w.heap.size+1<W.heap.size:=(fW.1 hl).1;have hy:=run_yield (P:=P) (args:= #[v]) hl (by rw [FI];rfl);rw [FI] at hy;refine⟨fn,_,assign,body,hy,roundIn_of_wpIn hfn ?_⟩;have N8:∀ts:Array aN,((#[t]:Array Tmp).zip #[v]).foldl (λts (x:Tmp×aN)=>match x with|(p,u)=>ts.setIfInBounds p u) ts=ts.setIfInBounds t v:=λts=>by simp
  dsimp only
  rw [N8];refine aG8 _ v W _ ?_;refine⟨_,run_beginRound hl (by rw [FI]), ?_⟩;obtain⟨busy,Vo⟩:∃o:Obj,o= .loop {rec .ready aB with state:= .busy}:=⟨_,rfl⟩;have hl2:(W.putObj (w.heap.size+1) busy).heap[w.heap.size+1]? =aC busy:=aCK hlt;have hk2:(W.putObj (w.heap.size+1) busy).heap[w.heap.size]? =aC (.deferred (aC [])):=(PN (by omega)).trans hk;have hw2:Kp W (W.putObj (w.heap.size+1) busy):=hKb _ _ _ _ (by omega) hl rfl rfl;rw [<-Vo];refine wpIn_mono (aGB _ pre y v _ (hI.putObj _ hi (by omega) hl rfl) (hHd _ _ _ _ _ _ hd hl rfl) Wj) ?_;rintro e a3 W3 hp;cases e with
  |normal=>
   obtain⟨hk3,aGV,rZ⟩:=hp;have Mk:=hk3.same _ _ hl2 (by rw [Vo];rfl);rw [Vo] at Mk;have hr:=run_endRound (P:=P) aB Mk;rw [FI] at hr;refine⟨_,_,hr, ?_⟩;refine⟨rfl,⟨hI.putObj _ rZ (by omega) Mk rfl, ?_,(PN (by omega)).trans (hk3.same _ _ hk2 rfl)⟩,hKt (hKt hw2 aGV) (hKb _ _ _ _ (by omega) Mk rfl rfl)⟩;rw [aCK (fW.1 Mk).1,FI];rfl
  |_=>exact hp.elim
 rintro e W2 ⟨⟨v,rfl⟩,hi,hl,hk⟩;exact⟨aB,_,by have:=run_endLoop (P:=P) hl (by rw [FI];simp);rw [FI] at this;exact this,hdone _ _ (aZ _) (hI.putObj _ hi (by omega) hl rfl) ((PN (by omega)).trans hk)⟩
end
section
open Go.Shelf
attribute [local go_sem] Oper.semAt_some
structure cB where
 co:List Int
 Ac:Option aj
 cc:Nat
 fu:List Int
 Af:Option aj
 cf:Nat
 line:Int
 cap:Int
structure iY(n1 bo bp:Nat)(W W':aJ):Prop where
 size:W.heap.size<=W'.heap.size
 keep:∀k,(k<n1\/k=bo\/k=bp)->k<W.heap.size->W'.heap[k]? =W.heap[k]?
theorem iY.refl(n1 bo bp:Nat)(W:aJ):iY n1 bo bp W W:=⟨aZ _,λ_ _ _=>rfl⟩
theorem iY.trans {n1 bo bp:Nat} {A B C:aJ}(h:iY n1 bo bp A B)(k:iY n1 bo bp B C):iY n1 bo bp A C:=
 ⟨bz h.size k.size,λj hj hl=>(k.keep j hj (cP hl h.size)).trans (h.keep j hj hl)⟩
theorem iY.bZ {n1 bo bp:Nat} {W W':aJ}(h:aa W.heap.size W W'):iY n1 bo bp W W':=⟨h.size,λj _ hl=>h.block j hl⟩
theorem iY.alloc {n1 bo bp:Nat} {W W':aJ}(h:iY n1 bo bp W W')(o:Obj):iY n1 bo bp W (W'.alloc o):=h.trans (.bZ ((aX _ _).alloc (aZ _) o))
structure Lk(n0:Nat)(W:aJ)(bo bp:Nat)(p:cB)(os:List Int)(Ao:Option aj)(ko:Nat):Prop where
 o:W.cell? ⟨bo,0,aB⟩=aC (aH Ao (aA os) ko)
 c0:W.cell? ⟨bp,0,aB⟩=aC (aH p.Ac (aA p.co) p.cc)
 c1:W.cell? ⟨bp,1,aB⟩=aC (aH p.Af (aA p.fu) p.cf)
 c2:W.cell? ⟨bp,2,aB⟩=aC (ν p.line)
 c3:W.cell? ⟨bp,3,aB⟩=aC (ν p.cap)
 so:aW W n0 Ao (os.map (aG aF))
 sc:aW W n0 p.Ac (p.co.map (aG aF))
 sf:aW W n0 p.Af (p.fu.map (aG aF))
 lo:bo<W.heap.size
 lp:bp<W.heap.size
 ln:n0<=W.heap.size
theorem Lk.keep {n0:Nat} {W W':aJ} {bo bp:Nat} {p:cB} {os:List Int} {Ao:Option aj} {ko:Nat}(h:Lk n0 W bo bp p os Ao ko)(hk:iY n0 bo bp W W'):Lk n0 W' bo bp p os Ao ko:=by
 have ho:=hk.keep bo (.inr (.inl rfl)) h.lo;have hp:=hk.keep bp (.inr (.inr rfl)) h.lp;have hs:∀q:aj,q.block<n0->W'.cell? q=W.cell? q:=λq hq=>gh (hk.keep q.block (.inl hq) (cP hq h.ln))
 exact⟨(gh (a:=⟨bo,0,aB⟩) ho).trans h.o,(gh (a:=⟨bp,0,aB⟩) hp).trans h.c0,(gh (a:=⟨bp,1,aB⟩) hp).trans h.c1,(gh (a:=⟨bp,2,aB⟩) hp).trans h.c2,(gh (a:=⟨bp,3,aB⟩) hp).trans h.c3,h.so.keep hs,h.sc.keep hs,h.sf.keep hs,cP h.lo hk.size,cP h.lp hk.size,bz h.ln hk.size⟩
def LZ(v:aN)(y:List Dw)(W:aJ):Prop:=∃A c,v=aH A (aA y) c/\aW W W.heap.size A (gS y)/\(∀x∈y,aL x.n)/\aA y<=1000
def cU(l:List Int)(m:Int):Int:=l.getD (m-1).toNat 0
def kE(fu os:List Int)(k:Nat):List Dw:=(dQ k).flatMap λ(i:Nat)=>if os.contains ((i:Int)+1) then [] else [⟨9,(i:Int)+1,fu.getD i 0⟩]
def vx(fu os:List Int):List Dw:=kE fu os (aA fu)
theorem a6I {fu os:List Int} {k:Nat}(hk:k<aA fu)(b:Bool)(hb:os.contains ((k:Int)+1)=b):kE fu os (k+1)=kE fu os k++if b then [] else [⟨9,(k:Int)+1,fu[k]⟩]:=by unfold kE;rw [List.range_succ,List.flatMap_append,a9u,hb,sV,iD hk];rfl
theorem Kc(fu os:List Int):∀k,aA (kE fu os k)<=k
 |0=>by simp [kE]
 |k+1=>by
  have:=Kc fu os k;unfold kE at*;rw [List.range_succ,List.flatMap_append,a9u,cN];have h9:aA (if os.contains ((k:Int)+1) then ([]:List Dw) else [⟨9,(k:Int)+1,fu.getD k 0⟩])<=1:=by split<;>simp
  omega
def fR(p:cB)(os:List Int):List (List Dw):=
 os.map (λm=> [⟨8,m,cU p.co m⟩])++os.map (λm=> [⟨9,m,cU p.fu m⟩])++ [vx p.fu os,[⟨3,0,p.line⟩],[⟨4,0,p.cap⟩]]
theorem PU(W:aJ)(k m n:Int)(hn:aL n):LZ (aH (aC ⟨W.heap.size,0,aB⟩) 1 1) [⟨k,m,n⟩] (W.alloc (aK #[aG aF k,aG aF m,aG aF n] 196)):=
 ⟨_,_,rfl,λj u hu=>⟨W.heap.size,0,rfl,by simp,by rw [Nat.zero_add,cL _ _ _ j rfl,<-Array.getElem?_toList];simpa [gS,Dw.cells] using hu⟩,by simpa using hn,by simp⟩
theorem aIw {fu os:List Int}(h:∀x∈fu,aL x)(k:Nat):∀x∈kE fu os k,aL x.n:=by
 intro x hx;unfold kE at hx;obtain⟨i,_,hx⟩:=List.mem_flatMap.1 hx;split at hx
 ·simp at hx
 simp at hx;subst hx;show aL (fu[i]?.getD 0);rcases rQ i (aA fu) with hl|hl
 ·rw [iD hl];exact h _ (cK hl)
 rw [Lc hl];unfold aL;simp
theorem Jj {l:List Int} {s:Nat}(h:s<aA l):cU l ((s:Int)+1)=l[s]:=by unfold cU;rw [show ((s:Int)+1-1).toNat=s by omega,sV,iD h];rfl
theorem a5V {α β:Type}(f:α->β)(l:List α)(k:Nat):(l.take k).map f<+:l.map f:=⟨(l.drop k).map f,by rw [<-df,List.take_append_drop]⟩
theorem aKl(p:cB)(os:List Int)(k:Nat):(os.take k).map (λm=> [(⟨8,m,cU p.co m⟩:Dw)])<+:fR p os:=by unfold fR;exact((a5V _ os k).trans (a0I _ _)).trans (a0I _ _)
theorem aKm(p:cB)(os:List Int)(k:Nat):os.map (λm=> [(⟨8,m,cU p.co m⟩:Dw)])++(os.take k).map (λm=> [(⟨9,m,cU p.fu m⟩:Dw)])<+:fR p os:=by unfold fR;exact((List.prefix_append_right_inj _).2 (a5V _ os k)).trans (a0I _ _)
theorem aKn(p:cB)(os:List Int):os.map (λm=> [(⟨8,m,cU p.co m⟩:Dw)])++os.map (λm=> [(⟨9,m,cU p.fu m⟩:Dw)])++ [vx p.fu os]<+:fR p os:=⟨[[⟨3,0,p.line⟩],[⟨4,0,p.cap⟩]],by simp [fR]⟩
theorem aKo(p:cB)(os:List Int):os.map (λm=> [(⟨8,m,cU p.co m⟩:Dw)])++os.map (λm=> [(⟨9,m,cU p.fu m⟩:Dw)])++ [vx p.fu os]++ [[⟨3,0,p.line⟩]]<+:fR p os:=⟨[[⟨4,0,p.cap⟩]],by simp [fR]⟩
theorem aKp(p:cB)(os:List Int):os.map (λm=> [(⟨8,m,cU p.co m⟩:Dw)])++os.map (λm=> [(⟨9,m,cU p.fu m⟩:Dw)])++ [vx p.fu os]++ [[⟨3,0,p.line⟩]]++ [[⟨4,0,p.cap⟩]]<+:fR p os:=⟨[],by simp [fR]⟩
theorem a7Y(n n0 bo bp:Nat)(hn:3<=n)(p:cB)(os:List Int)(Ao:Option aj)(ko:Nat)(w:aJ)(hP:Lk n0 w bo bp p os Ao ko)(ho:∀m∈os,1<=m/\m<=aA p.co)(hl:aA p.fu=aA p.co)(hc:aA p.co<=1000)(km:aA os<=1000)(hIc:∀x∈p.co,aL x)(hIf:∀x∈p.fu,aL x)(hIl:aL p.line)(QC:aL p.cap):
 Hands Kn n aM 221 #[π bo,π bp] LZ (iY n0 bo bp) (fR p os) w:=by
 intro l J W hW hJ hY h0;have Hm:=hP.keep (iY.bZ hW);have TH:=η hIc;have ZN:=η hIf;have tx:=η (kT hIl QC);have HJ:=η hJ;have HY:=η hY;have HO:=η ho;have EE:=η hl;have HP:=η Hm;have gV:aA p.fu<=aA p.co:=by omega
 have hfg:aA p.co<=aA p.fu:=by omega
 clear hP hJ hY ho hl hW hIc hIf hIl QC;refine callsIn_of_wp func221 rfl trivial ?_ rfl;simp only [ntmps221,List.size_toArray,uF,ES,Nat.reduceAdd,Nat.reduceSub,Array.replicate_succ,Array.replicate_zero,List.push_toArray,List.append_toArray,GL,List.cons_append];have o0:=Hm.o;have c0:=Hm.c0;have c1:=Hm.c1;have c2:=Hm.c2;have c3:=Hm.c3;clear Hm
 gi_wp2
 gi_loopw [13] (λi wr=>∃k:Nat,k<=aA os/\i=ν k/\Hid (J ((os.take k).map (λm=> [⟨8,m,cU p.co m⟩])) wr/\iY n0 bo bp W wr)) (λi _=>aA os-(ag i).toNat)
 case atStart=>exact⟨0,bL _,rfl,h0,iY.refl _ _ _ _⟩
 case round=>
  obtain⟨k,hk,rfl,HK⟩:=hrel;have kP:=HP.o.keep HK.o.2;have o0:=kP.o;have c0:=kP.c0;have c1:=kP.c1;have c2:=kP.c2;have c3:=kP.c3;by_cases hlt:k<aA os
  ·obtain⟨ba,oa,rfl,nA,ha⟩:=tP kP.so hlt;obtain⟨tK,xR⟩:=HO.o _ (cK hlt);obtain⟨s,hs,hsm⟩:∃s:Nat,s<aA p.co/\os[k]=(s:Int)+1:=⟨(os[k]-1).toNat,by omega,by omega⟩;obtain⟨bc,oc,MQ,gD,hcc⟩:=tP kP.sc hs;rw [MQ] at c0;rw [hsm] at ha;have BW:aF.wrap ((s:Int)+1-1)=(s:Int):=by rw [sR _ (by omega)];omega
   have aGW:aF.wrap (s:Int)=(s:Int):=sR _ (by omega);have Wm:(s:Int)<(aA p.co:Int):=by omega
   gi_wp2
   refine⟨trivial,λ_=>by omega, ?_⟩;refine(sj.2 (PT _ _ _ _)).mono ?_;rintro e w2 ⟨rfl,hw2⟩;have gB:Hid (iY n0 bo bp W w2):=η (by rw [<-hw2];exact HK.o.2.alloc _);have LB:Hid (J ((os.take k).map (λm=> [⟨8,m,cU p.co m⟩])) w2):=η (by rw [<-hw2];exact HJ.o _ _ _ aB HK.o.1 (Gk _ _ _) (λr e=>by cases e));have Hy:=PU wr 8 ((s:Int)+1) p.co[s] (TH.o _ (cK hs));rw [hw2] at Hy;have cG:Hid ((os.take (k+1)).map (λm=> [⟨8,m,cU p.co m⟩])=(os.take k).map (λm=> [⟨8,m,cU p.co m⟩])++ [[(⟨8,(s:Int)+1,p.co[s]⟩:Dw)]]):=η (by rw [fE hlt,df,a9z,hsm,Jj hs]);obtain⟨fn,tmps,assign,body,hy,hR⟩:=HY.o _ _ _ _ LB.o Hy (by rw [<-cG.o];exact aKl p os (k+1));clear Hy hw2
   gi_wp2
   refine⟨λ_=>by omega, ?_⟩;refine hR.mono ?_;rintro e W3 ⟨rfl,hJ3,hk3⟩;rw [<-cG.o] at hJ3;have oZ:=η (kT hJ3 (gB.o.trans hk3));clear hJ3 hk3
   gi_wp2
   go_roundw
   case rel=>exact⟨k+1,by omega,by go_num,oZ⟩
   case measure=>simp [ag];omega
  obtain rfl:k=aA os:=by omega
  have CR:Hid (J (os.map (λm=> [⟨8,m,cU p.co m⟩])++(os.take 0).map (λm=> [⟨9,m,cU p.fu m⟩])) wr/\iY n0 bo bp W wr):=η (by have:=HK.o;rw [cT] at this;rw [nQ,List.map_nil,List.append_nil];exact this);clear HK kP
  gi_wp2
  gi_loopw [31] (λi wr=>∃k:Nat,k<=aA os/\i=ν k/\Hid (J (os.map (λm=> [⟨8,m,cU p.co m⟩])++(os.take k).map (λm=> [⟨9,m,cU p.fu m⟩])) wr/\iY n0 bo bp W wr)) (λi _=>aA os-(ag i).toNat)
  case atStart=>exact⟨0,bL _,rfl,CR.o⟩
  case round=>
   clear CR;obtain⟨k,hk,rfl,HK⟩:=hrel;have kP:=HP.o.keep HK.o.2;have o0:=kP.o;have c0:=kP.c0;have c1:=kP.c1;have c2:=kP.c2;have c3:=kP.c3;by_cases hlt:k<aA os
   ·obtain⟨ba,oa,rfl,nA,ha⟩:=tP kP.so hlt;obtain⟨tK,xR⟩:=HO.o _ (cK hlt);obtain⟨s,hs,hsm⟩:∃s:Nat,s<aA p.co/\os[k]=(s:Int)+1:=⟨(os[k]-1).toNat,by omega,by omega⟩;have hs2:s<aA p.fu:=by omega
    obtain⟨bc,oc,MQ,gD,hcc⟩:=tP kP.sf hs2;rw [MQ] at c1;rw [hsm] at ha;have BW:aF.wrap ((s:Int)+1-1)=(s:Int):=by rw [sR _ (by omega)];omega
    have aGW:aF.wrap (s:Int)=(s:Int):=sR _ (by omega);have Wm:(s:Int)<(aA p.fu:Int):=by omega
    gi_wp2
    refine⟨trivial,λ_=>by omega, ?_⟩;refine(sj.2 (PT _ _ _ _)).mono ?_;rintro e w2 ⟨rfl,hw2⟩;have gB:Hid (iY n0 bo bp W w2):=η (by rw [<-hw2];exact HK.o.2.alloc _);have LB:Hid (J (os.map (λm=> [⟨8,m,cU p.co m⟩])++(os.take k).map (λm=> [⟨9,m,cU p.fu m⟩])) w2):=η (by rw [<-hw2];exact HJ.o _ _ _ aB HK.o.1 (Gk _ _ _) (λr e=>by cases e));have Hy:=PU wr 9 ((s:Int)+1) p.fu[s] (ZN.o _ (cK hs2));rw [hw2] at Hy;have cG:Hid ((os.take (k+1)).map (λm=> [⟨9,m,cU p.fu m⟩])=(os.take k).map (λm=> [⟨9,m,cU p.fu m⟩])++ [[(⟨9,(s:Int)+1,p.fu[s]⟩:Dw)]]):=η (by rw [fE hlt,df,a9z,hsm,Jj hs2]);obtain⟨fn,tmps,assign,body,hy,hR⟩:=HY.o _ _ _ _ LB.o Hy (by rw [List.append_assoc,<-cG.o];exact aKm p os (k+1));clear Hy hw2
    gi_wp2
    refine⟨λ_=>by omega, ?_⟩;refine hR.mono ?_;rintro e W3 ⟨rfl,hJ3,hk3⟩;rw [List.append_assoc,<-cG.o] at hJ3;have oZ:=η (kT hJ3 (gB.o.trans hk3));clear hJ3 hk3
    gi_wp2
    go_roundw
    case rel=>exact⟨k+1,by omega,by go_num,oZ⟩
    case measure=>simp [ag];omega
   obtain rfl:k=aA os:=by omega
   have LD:=HK.o;rw [cT] at LD;have CR:=η LD;clear HK LD kP;obtain⟨wm,hwm⟩:∃wm,wm=wr:=⟨_,rfl⟩;subst hwm;have Zj:Hid (wm.ownsRow wm.heap.size 196 3 (aH aB 0 0) (aA (kE p.fu os 0)) (gS (kE p.fu os 0))):=η ⟨by simp [kE,gS],aS ⟨rfl,rfl⟩⟩;obtain⟨i0,bu,hz0,fj,hz2⟩:=dL Pu;obtain⟨Af,VX⟩:∃A,A=p.Af:=⟨_,rfl⟩;rw [<-VX] at c1;have HAF:=η VX;clear VX
   gi_wp2
   gi_loopw [8,50] (λu i wr=>∃k:Nat,k<=aA p.fu/\i=ν k/\Hid (wr.ownsRow wm.heap.size 196 3 u (aA (kE p.fu os k)) (gS (kE p.fu os k)))/\Hid (β wm wr)) (λ_ i _=>aA p.fu-(ag i).toNat)
   case atStart=>exact⟨0,bL _,rfl,Zj.o,aX _ _⟩
   case round=>
    obtain⟨k,hk,rfl,cD,af⟩:=hrel;have hsz:=af.o.size;have kP:=(HP.o.keep CR.o.2).keep (iY.bZ af.o);have o0:=kP.o;have c0:=kP.c0;have c1:=kP.c1;have c2:=kP.c2;have c3:=kP.c3;by_cases hlt:k<aA p.fu
    ·have Wn:=kP.sf;rw [<-HAF.o] at Wn c1;obtain⟨bf,of,rfl,hbf,nX⟩:=tP Wn hlt;clear Wn;have Ss:=η (a2U os Ao ko ((k:Int)+1) wr (kP.so.mono kP.ln) (by omega));have cG:=η (λb=>a6I (os:=os) hlt b);have Bc:=Kc p.fu os k;have BW:aF.wrap ((k:Int)+1)=(k:Int)+1:=sR _ (by omega);have hkb:(k:Int)<(aA p.fu:Int):=by omega
     have eY:(0:Int)<=(k:Int):=by omega
     clear kP
     gi_wp2
     refine⟨trivial,λ_=>by omega, ?_⟩;refine(sj.2 Ss.o).mono ?_;rintro e w9 ⟨rfl,rfl⟩;cases Ht:os.contains ((k:Int)+1) with
     |true=>
      have Ve:=cD.o;have zL:=cG.o aO Ht;simp only [if_true,List.append_nil] at zL;rw [<-zL] at Ve;have wW:=η Ve;clear Ve zL cD Ht
      gi_wp2
      go_roundw
      case rel=>exact⟨k+1,by omega,by go_num,wW,af⟩
      case measure=>simp [ag];omega
     |false=>
      have zL:=η (cG.o aP Ht);clear Ht;generalize kE p.fu os k=ys at*
      gi_wp2_with (gi_at_builtin;refine wpListIn_append_own _ rfl _ _ 257 rfl wm.heap.size 196 i0 _ 3 24 underlying257 bu hz0 fj hz2 rfl (by decide) _ (aA ys) (gS ys) rfl (cD.o.alloc _) ⟨wr.heap.size,0,aB⟩ 1 1 (Dw.cells ⟨9,(k:Int)+1,p.fu[k]⟩) rfl rfl (dN _ _ #[_,_,_] (by simp)) (VG ⟨9,(k:Int)+1,p.fu[k]⟩) (by simp only [bM];omega) (by omega) (by simp;omega) ?_)
      intro v' w4 hown1 dF _;have dV:Hid (w4.ownsRow wm.heap.size 196 3 v' (aA (kE p.fu os (k+1))) (gS (kE p.fu os (k+1)))):=η (by rw [zL.o];simp only [Yj,if_false];rw [a2t,cN,uG];exact hown1);have ar:Hid (β wm w4):=η ((af.o.alloc hsz _).grown dF (by simp;omega) (λj hj=>eT cD.o j hj));clear hown1 dF
      gi_wp2
      go_roundw
      case rel=>exact⟨k+1,by omega,by go_num,dV,ar⟩
      case measure=>simp [ag];omega
    obtain rfl:k=aA p.fu:=by omega
    obtain⟨A8,c8,rfl⟩:=bK cD.o;have ZU:=η (HJ.o _ _ _ aB CR.o.1 (show wm.grownBy wr aB from⟨af.o.os,af.o.tape,af.o.output,af.o.size,λj hj _=>af.o.block j hj⟩) (λr e=>by cases e));have zN:Hid (iY n0 bo bp W wr):=η (CR.o.2.trans (iY.bZ af.o));have EB:Hid (LZ (aH A8 (aA (kE p.fu os (aA p.fu))) c8) (vx p.fu os) wr):=η ⟨A8,c8,rfl,aW.cA cD.o,aIw ZN.o _,by have:=Kc p.fu os (aA p.fu);show aA (kE p.fu os (aA p.fu))<=1000;omega⟩;clear kP o0 c0 c1 c2 c3 cD af CR Zj;obtain⟨fn,tmps,assign,body,hy,hR⟩:=HY.o _ _ _ _ ZU.o EB.o (aKn p os)
    gi_wp2
    refine⟨λ_=>by omega, ?_⟩;refine hR.mono ?_;rintro e W3 ⟨rfl,hJ3,hk3⟩;clear hR hy EB ZU;have TK:=η hJ3;have mM:=η (zN.o.trans hk3);clear hJ3 hk3;have c2:=(HP.o.keep mM.o).c2
    gi_wp2
    refine⟨trivial,λ_=>by omega, ?_⟩;refine(sj.2 (PT _ _ _ _)).mono ?_;rintro e W3a ⟨rfl,Ww⟩;have a9d:Hid (iY n0 bo bp W W3a):=η (by rw [<-Ww];exact mM.o.alloc _);have ZT:=η (HJ.o _ _ _ aB TK.o (Gk W3 (aK #[ν 3,ν 0,ν p.line] 196) _) (λr e=>by cases e));have Vz:=PU W3 3 0 p.line tx.o.1;rw [Ww] at Vz ZT;obtain⟨fn,tmps,assign,body,hy,hR⟩:=HY.o _ _ _ _ ZT.o Vz (aKo p os);clear Ww Vz
    gi_wp2
    refine⟨λ_=>by omega, ?_⟩;refine hR.mono ?_;rintro e W5 ⟨rfl,a3n,a3p⟩;clear hR hy;have HJ5:=η a3n;have qC:=η (a9d.o.trans a3p);clear a3n a3p;have c3:=(HP.o.keep qC.o).c3
    gi_wp2
    refine⟨trivial,λ_=>by omega, ?_⟩;refine(sj.2 (PT _ _ _ _)).mono ?_;rintro e W5a ⟨rfl,Wx⟩;have a9e:Hid (iY n0 bo bp W W5a):=η (by rw [<-Wx];exact qC.o.alloc _);have ZV:=η (HJ.o _ _ _ aB HJ5.o (Gk W5 (aK #[ν 4,ν 0,ν p.cap] 196) _) (λr e=>by cases e));have W4:=PU W5 4 0 p.cap tx.o.2;rw [Wx] at W4 ZV;obtain⟨fn,tmps,assign,body,hy,hR⟩:=HY.o _ _ _ _ ZV.o W4 (aKp p os);clear Wx W4
    gi_wp2
    refine⟨λ_=>by omega, ?_⟩;refine hR.mono ?_;rintro e W7 ⟨rfl,a3o,a3q⟩;clear hR hy;have HJ7:=η a3o;have Zx:=η (a9e.o.trans a3q);clear a3o a3q
    gi_wp2
    go_end0
    refine⟨⟨_,rfl⟩, ?_⟩;have e9:fR p os=os.map (λm=> [⟨8,m,cU p.co m⟩])++os.map (λm=> [⟨9,m,cU p.fu m⟩])++ [vx p.fu os]++ [[⟨3,0,p.line⟩]]++ [[⟨4,0,p.cap⟩]]:=by simp [fR]
    rw [e9];exact HJ7.o
end
structure Ab(w:aJ)(A:Option aj)(c:Nat)(zs:List Int):Prop where
 dt:aW w w.heap.size A (zs.map (aG aF))
 nil:A=aB->aA zs=0/\c=0
theorem Ab.below {w w':aJ} {A:Option aj} {c:Nat} {zs:List Int}(h:Ab w A c zs)(hb:aa w.heap.size w w'):Ab w' A c zs:=⟨(h.dt.below hb).mono hb.size,h.nil⟩
theorem aCc(zs:List Int):∀u∈zs.map (aG aF),u.oneCell'=aO:=by intro u hu;obtain⟨x,_,rfl⟩:=dW.1 hu;rfl
theorem Ui:(aM.info? 2).map (λi=>(i.zero,i.size,i.bytes))=aC (aC (aG aF 0),1,8):=by kernel_rfl
theorem Yb {w:aJ} {ops:Array Oper} {rest:List Oper} {o:Oper} {a:Act} {Q:Exit->Act->aJ->Prop}(hgd:o.guard=aB)(s x:Operand)
 (ho:o.op= .call {callee:= .builtin .append,args:= #[s,x],argTypes:= #[53,53]}) (base:Nat)
 (v:aN) (n:Nat) (xs:List aN) (hs:a.eval s=v) (hown:w.ownsRow base 2 1 v n xs)
 (A:Option aj) (c:Nat) (L:List Int) (hx:a.eval x=aH A (aA L) c) (hz:Ab w A c L) (hlen:n+aA L<=1000000) (hbase:base<=w.heap.size)
 (h:∀v' w',w'.ownsRow base 2 1 v' (n+aA L) (xs++L.map (aG aF))->w.grownBy w' v.ownBlock->wpList aM ops Q rest (a.put o.dst v') w'):wpList aM ops Q (o::rest) a w:=by
 obtain⟨i0,bu,hz0,hz1,hz2⟩:=dL Ui;cases A with
 |none=>
  obtain⟨h1,rfl⟩:=hz.nil rfl;obtain rfl:L= []:=nO h1;refine wpList_append_own_none hgd s x 53 ho base 2 i0 1 mP bu v n xs hs hown hx (h v w (by simpa using hown) ⟨rfl,rfl,rfl,aZ _,λ_ _ _=>rfl⟩)
 |some ad=>
  refine j9 w hgd s x 53 ho base 2 i0 _ 1 8 mP bu hz0 hz1 hz2 rfl (by decide) v n xs hs hown ad (aA L) c (L.map (aG aF)) hx (by simp) ?_ (aCc L) (by simp only [bM];omega) (by omega) hbase ?_
  ·intro j u hu;obtain⟨b,o',e,_,hc⟩:=hz.dt j u hu;have e:=pE e;subst e;have ea:(⟨b,o',aB⟩:aj).add j=⟨b,o'+j,aB⟩:=by unfold Addr.add;split<;>simp_all
   rw [ea];exact hc
  intro v' w' h1 h2 _;exact h v' w' h1 h2
theorem aFu(w:aJ)(n:Nat)(hn:n<=1000000):jw (w.drew.alloc (aK (([]:List aN).toArray++E5 (aG aF 0).cells (0+n-0)++E5 (aG aF 0).cells (xM w (0+n) 0 2-(0+n))) 2)) w.heap.size 2 1 (aH (aC ⟨w.heap.size,0,aB⟩) 0 (xM w (0+n) 0 2)) 0 []:=a3h w _ n 1 _ rfl hn
def Yt(l:List Int)(w:aJ)(e:dU)(w':aJ):Prop:=∃A c,e=aT (aH A (aA l) c)/\aW w' w'.heap.size A (l.map (aG aF))/\aa w.heap.size w w'
theorem aEG(z1 z2:List Int)(x y:Int)(A1 A2 A3:Option aj)(c1 c2 c3 g:Nat)(w:aJ)(h1:Ab w A1 c1 z1)(h2:Ab w A2 c2 z2)(h3:Ab w A3 c3 [x,y])(g0:w.cell? ⟨g,0,aB⟩=aC (aH A1 (aA z1) c1))(g1:w.cell? ⟨g,1,aB⟩=aC (aH A2 (aA z2) c2))(g2:w.cell? ⟨g,2,aB⟩=aC (aH A3 2 c3))(hg:g<w.heap.size)(oK:aA z1<=1000)(hl2:aA z2<=1000):
 aQ aM 253 #[aH (aC ⟨g,0,aB⟩) 3 3] w (Yt (z1++z2++ [x,y]) w):=by
 have H1:=η h1;have H2:=η h2;have H3:=η h3;clear h1 h2 h3;have G1:=η g1;have G2:=η g2;have yb:aF.wrap ((aA z1:Int)+aA z2)=(aA z1:Int)+aA z2:=sR _ (by omega);have hw2:aF.wrap ((aA z1:Int)+aA z2+2)=(aA z1:Int)+aA z2+2:=sR _ (by omega);obtain⟨i0,bu,hz0,hz1,hz2⟩:=dL Ui;go_enter func253,ntmps253
 go_wp2_with fail
 refine ug 4 ?_;rw [eC];go_wp2_with fail
 rw [eC];go_wp2_with fail
 rw [eC];go_wp2_with fail
 rw [eC];go_wp2_with fail
 clear yb hw2;rw [show ((aA z1:Int)+(aA z2:Int)+2)=((aA z1+aA z2+2:Nat):Int) from by omega];refine(Any8.slices_Grow_grow growA i0 (ν 0) bu hz0 (by rw [hz1];decide) aB 0 0 (aA z1+aA z2+2) [] _ (by omega) (by omega) (by rw [hz2];omega) (by omega) (by simp) (λ_=>rfl) (λa h=>by cases h)).mono ?_;rintro e w2 ⟨rfl,hw2⟩;have qT:Hid (w2.ownsRow w.heap.size 2 1 (aH (aC ⟨w.heap.size,0,aB⟩) 0 (xM w (0+(aA z1+aA z2+2)) 0 2)) 0 []):=by show jw _ _ _ _ _ _ _;rw [hw2];exact aFu w (aA z1+aA z2+2) (by omega)
 have pA:Hid (β w w2):=by show RowKit.Below _ _ _;rw [hw2];exact(aX _ _).drew.alloc (aZ _) _
 have HZ:=η pA.o.size;have wK:=η (H1.o.below pA.o);have p0:w2.cell? ⟨g,0,aB⟩=aC (aH A1 (aA z1) c1):=(pA.o.cell (p:=⟨g,0,aB⟩) hg).trans g0;clear hw2 g0 g1 g2;rw [show (growA_ren.t 25)=2 from rfl];generalize xM w (0+(aA z1+aA z2+2)) 0 2=cap at*;go_wp2_with fail
 refine ug 4 ?_;rw [eC];go_wp2_with (at_builtin;refine Yb rfl _ _ rfl w.heap.size _ 0 [] rfl qT.o A1 c1 z1 rfl wK.o (by omega) HZ.o ?_)
 intro v3 w3 iz hg3;have cD:Hid (w3.ownsRow w.heap.size 2 1 v3 (aA z1) (z1.map (aG aF))):=by show jw _ _ _ _ _ _ _;simpa using iz
 have mM:Hid (β w w3):=η (pA.o.trans ((aX _ _).grown hg3 HZ.o (λj hj=>eT qT.o j hj)));have q1:w3.cell? ⟨g,1,aB⟩=aC (aH A2 (aA z2) c2):=(mM.o.cell (p:=⟨g,1,aB⟩) hg).trans G1.o;have CF:=η (H2.o.below mM.o);have uu:=η mM.o.size;clear iz hg3;go_wp2_with fail
 rw [eC];go_wp2_with (at_builtin;refine Yb rfl _ _ rfl w.heap.size _ (aA z1) (z1.map (aG aF)) rfl cD.o A2 c2 z2 rfl CF.o (by omega) uu.o ?_)
 intro v4 w4 gz hg4;have dV:Hid (w4.ownsRow w.heap.size 2 1 v4 (aA z1+aA z2) ((z1++z2).map (aG aF))):=by show jw _ _ _ _ _ _ _;rw [df];exact gz
 have zN:Hid (β w w4):=η (mM.o.trans ((aX _ _).grown hg4 uu.o (λj hj=>eT cD.o j hj)));have q2:w4.cell? ⟨g,2,aB⟩=aC (aH A3 2 c3):=(zN.o.cell (p:=⟨g,2,aB⟩) hg).trans G2.o;have a9C:=η (H3.o.below zN.o);have HZ4:=η zN.o.size;clear gz hg4 q1;generalize hzz:(z1++z2).map (aG aF)=zz at*;have HZZ:=η hzz;clear hzz;go_wp2_with fail
 rw [eC];go_wp2_with (at_builtin;refine Yb rfl _ _ rfl w.heap.size _ (aA z1+aA z2) zz rfl dV.o A3 c3 [x,y] rfl a9C.o (by simp;omega) HZ4.o ?_)
 intro v5 w5 iU ej;have fL:Hid (w5.ownsRow w.heap.size 2 1 v5 (aA (z1++z2++ [x,y])) ((z1++z2++ [x,y]).map (aG aF))):=by show jw _ _ _ _ _ _ _;rw [df,HZZ.o,cN,cN];exact iU
 have qC:Hid (β w w5):=η (zN.o.trans ((aX _ _).grown ej HZ4.o (λj hj=>eT dV.o j hj)));clear iU ej q2;go_wp2_with fail
 rw [eC];go_wp2_with fail
 go_ret;obtain⟨A4,c4,rfl⟩:=bK fL.o;exact⟨A4,c4,rfl,aW.cA fL.o,qC.o⟩
theorem aKO(w:aJ)(t:bY)(xs:List aN) {b:Nat}(hb:b=w.heap.size):aW (w.alloc (aK xs.toArray t)) (w.alloc (aK xs.toArray t)).heap.size (aC ⟨b,0,aB⟩) xs:=λj u hu=>
 ⟨b,0,rfl,by rw [hb];simp,by rw [Nat.zero_add,cL _ _ _ j hb,<-Array.getElem?_toList];exact hu⟩
def cB.val(p:cB):aN:=bU #[aH p.Ac (aA p.co) p.cc,aH p.Af (aA p.fu) p.cf,aG aF p.line,aG aF p.cap]
structure Cn(w:aJ)(p:cB):Prop where
 c:Ab w p.Ac p.cc p.co
 f:Ab w p.Af p.cf p.fu
theorem Cn.below {w w':aJ} {p:cB}(h:Cn w p)(hb:aa w.heap.size w w'):Cn w' p:=⟨h.c.below hb,h.f.below hb⟩
def xg(n:Int):Bool:=decide (0<=n)&&decide (n<=1099511627776)
def gN(p:cB):List Int:=p.co++p.fu++ [p.line,p.cap]
def FW(p:cB):Bool:=decide (aA p.co=aA p.fu)&&(decide (aA p.co<=16)&&(gN p).all xg)
def j8(p:cB):Int:=if FW p then 0 else 1
theorem aJY {p:cB}(h:¬aA p.co=aA p.fu):j8 p=1:=by unfold j8 FW;rw [decide_eq_false h];rfl
theorem aJX {p:cB}(h:¬aA p.co<=16):j8 p=1:=by unfold j8 FW;rw [decide_eq_false h,Bool.false_and,Iw];rfl
theorem aJW {p:cB} {k:Nat}(hk:k<aA (gN p))(h:xg (gN p)[k]=aP):j8 p=1:=by
 have:(gN p).all xg=aP:=by rw [JZ];exact⟨_,cK hk,by rw [h];decide⟩
 unfold j8 FW;rw [this,Iw,Iw];rfl
theorem Xh {p:cB}(h1:aA p.co=aA p.fu)(h2:aA p.co<=16)(h:∀k (hk:k<aA (gN p)),xg (gN p)[k]=aO):j8 p=0:=by
 have:(gN p).all xg=aO:=by rw [List.all_eq_true];intro x hx;obtain⟨k,hk,rfl⟩:=List.getElem_of_mem hx;exact h k hk
 unfold j8 FW;rw [this,decide_eq_true h1,decide_eq_true h2];rfl
theorem aJG(p:cB)(w:aJ)(h:Cn w p)(hc:aA p.co<=bM):
 aQ aM 220 #[p.val] w λe w'=>e=aT (ν (j8 p))/\β w w':=by
 unfold bM at hc;have aY:Hid (β w (w.alloc (aK #[aH p.Ac (aA p.co) p.cc,aH p.Af (aA p.fu) p.cf,ν p.line,ν p.cap] 193))):=η σ;have HP:=η h;clear h;unfold cB.val;by_cases h1:aA p.co=aA p.fu
 ·by_cases h2:aA p.co<=16
  ·have HC:Hid (∀(W:aJ) (A3:Option aj) (c3 g:Nat),β w W->Ab W A3 c3 [p.line,p.cap]->W.cell? ⟨g,0,aB⟩=aC (aH p.Ac (aA p.co) p.cc)->W.cell? ⟨g,1,aB⟩=aC (aH p.Af (aA p.fu) p.cf)->W.cell? ⟨g,2,aB⟩=aC (aH A3 2 c3)->g<W.heap.size->aQ aM 253 #[aH (aC ⟨g,0,aB⟩) 3 3] W (Yt (gN p) W)):=η λW A3 c3 g hW h3 g0 g1 g2 hg=>aEG p.co p.fu p.line p.cap p.Ac p.Af A3 p.cc p.cf c3 g W (HP.o.c.below hW) (HP.o.f.below hW) h3 g0 g1 g2 hg (by omega) (by omega)
   have HG:=η (Xh h1 h2);have ir:=η (λk hk=>aJW (p:=p) (k:=k) hk);have hpl:aA (gN p)<=100:=by unfold gN;simp;omega
   have hne:((aA p.co:Int) !=(aA p.fu:Int))=aP:=by rw [h1];simp
   have Hw:decide ((16:Int)<(aA p.co:Int))=aP:=decide_eq_false (by omega);clear h1;generalize gN p=L at*;generalize j8 p=pe at*;go_enter a0e,a0y
   go_wp2_with fail
   refine(HC.o _ (aC ⟨w.heap.size+1,0,aB⟩) 2 (w.heap.size+2) ?_ ⟨?_,λe=>by cases e⟩ ?_ ?_ ?_ (by simp)).mono ?_
   ·exact(σ.alloc (by simp) _).alloc (by simp;omega) _
   ·exact((aKO _ 2 [ν p.line,ν p.cap] (by simp)).below σ).mono (by simp)
   ·rw [cL _ _ _ _ (by simp)];rfl
   ·rw [cL _ _ _ _ (by simp)];rfl
   ·rw [cL _ _ _ _ (by simp)];rfl
   rintro e w1 ⟨A1,c1,rfl,hs1,hb1⟩;have cY:=η hs1;have aR:Hid (β w w1):=η (((σ.alloc (by simp) _).alloc (by simp;omega) _).trans (hb1.mono (by simp;omega)));clear hs1 hb1 HC;go_wp2_with fail
   go_loop [30] (λi=>∃k:Nat,k<=aA L/\i=ν k/\Hid (∀j (hj:j<aA L),j<k->xg L[j]=aO)) (λi=>aA L-(ag i).toNat)
   case atStart=>exact⟨0,bL _,rfl,λj _ h=>absurd h (Nat.not_lt_zero _)⟩
   case round=>
    obtain⟨k,hk,rfl,HK⟩:=hrel;by_cases hlt:k<aA L
    ·obtain⟨b,o,rfl,hb,d0⟩:=tP cY.o hlt;have dP:Hid (xg L[k]=(decide (0<=L[k])&&decide (L[k]<=1099511627776))):=η rfl;have CS:=η (ir.o k hlt);have lY:Hid (xg L[k]=aO->∀j (hj:j<aA L),j<k+1->xg L[j]=aO):=η λh j hj hjk=>by
      by_cases e:j=k
      ·subst e;exact h
      exact HK.o j hj (by omega)
     generalize xg L[k]=ok at*;generalize L[k]=x at*;by_cases hx0:x<0
     ·have hE:ok=aP:=by rw [dP.o,decide_eq_false (by omega)];rfl
      have HE:=η (CS.o hE);clear hE;go_wp2_with fail
      go_ret;exact⟨cW HE.o.symm,aR.o⟩
     have hxd:decide (x<0)=aP:=decide_eq_false hx0;by_cases hx1:1099511627776<x
     ·have hE:ok=aP:=by rw [dP.o,decide_eq_false (by omega:¬x<=1099511627776),Iw]
      have HE:=η (CS.o hE);clear hE;go_wp2_with fail
      go_ret;exact⟨cW HE.o.symm,aR.o⟩
     have Qw:decide (1099511627776<x)=aP:=decide_eq_false hx1;have hE:ok=aO:=by rw [dP.o,decide_eq_true (by omega:0<=x),decide_eq_true (by omega:x<=1099511627776)];rfl
     have oZ:=η (lY.o hE);clear hE;go_wp2_with fail
     go_round
     case rel=>exact⟨k+1,by omega,by go_num,oZ⟩
     case measure=>simp [ag];omega
    obtain rfl:k=aA L:=by omega
    have HE:=η (HG.o λj hj=>HK.o j hj hj);go_wp2_with fail
    go_ret;exact⟨cW HE.o.symm,aR.o⟩
  have HE:=η (aJX h2);have hne:((aA p.co:Int) !=(aA p.fu:Int))=aP:=by rw [h1];simp
  have Hw:decide ((16:Int)<(aA p.co:Int))=aO:=decide_eq_true (by omega);clear h1 HP;generalize j8 p=pe at*;go_enter a0e,a0y
  go_wp2_with fail
  go_ret;exact⟨cW HE.o.symm,aY.o⟩
 have HE:=η (aJY h1);have hne:((aA p.co:Int) !=(aA p.fu:Int))=aO:=by simp [bne];omega
 clear h1 HP;generalize j8 p=pe at*;go_enter a0e,a0y
 go_wp2_with fail
 go_ret;exact⟨cW HE.o.symm,aY.o⟩
def tQ(n:Nat)(os:List Int)(k:Nat):Bool:=decide (os.getD k 0<1)||(decide ((n:Int)<os.getD k 0)||(decide (0<k)&&decide (os.getD k 0<=os.getD (k-1) 0)))
def gF(p:cB)(os:List Int):Int:=if j8 p≠0 then j8 p else if (dQ (aA os)).any (tQ (aA p.co) os) then 9 else 0
theorem XL {p:cB} {os:List Int} {k:Nat}(h0:j8 p=0)(hk:k<aA os)(h:tQ (aA p.co) os k=aO):gF p os=9:=by unfold gF;rw [ifN (by omega),ifP (jv.2 ⟨k,nP.2 hk,h⟩)]
theorem a5Y {p:cB} {os:List Int}(h0:j8 p=0)(h:∀k,k<aA os->tQ (aA p.co) os k=aP):gF p os=0:=by unfold gF;rw [ifN (by omega),ifN];rw [jv];rintro⟨k,hk,h9⟩;rw [h k (nP.1 hk)] at h9;cases h9
theorem getD_at {l:List Int} {k:Nat}(h:k<aA l):l.getD k 0=l[k]:=by rw [sV,iD h];rfl
theorem a5Z(p:cB)(os:List Int)(A:Option aj)(c:Nat)(w:aJ)(h:Cn w p)(hc:aA p.co<=bM)(hs:aW w w.heap.size A (os.map (aG aF)))(hl:aA os<=100000)(hI:∀x∈os,aL x):
 aQ aM 183 #[p.val,aH A (aA os) c] w λe w'=>e=aT (ν (gF p os))/\β w w':=by
 have aY:Hid (β w (w.alloc (aK #[aH p.Ac (aA p.co) p.cc,aH p.Af (aA p.fu) p.cf,ν p.line,ν p.cap] 193))):=η σ;have HC:Hid (∀W,β w W->aQ aM 220 #[p.val] W λe w'=>e=aT (ν (j8 p))/\β W w'):=η λW hW=>aJG p W (h.below hW) hc
 have bT:(w.alloc (aK #[aH p.Ac (aA p.co) p.cc,aH p.Af (aA p.fu) p.cf,ν p.line,ν p.cap] 193)).cell? ⟨w.heap.size,0,aB⟩=aC (aH p.Ac (aA p.co) p.cc):=by rw [cL _ _ _ _ rfl];rfl
 have hbl:w.heap.size<(w.alloc (aK #[aH p.Ac (aA p.co) p.cc,aH p.Af (aA p.fu) p.cf,ν p.line,ν p.cap] 193)).heap.size:=by simp
 have dH:=η (kT bT hbl);have HS:=η hs;have HD:Hid (gF p os=if j8 p≠0 then j8 p else if (dQ (aA os)).any (tQ (aA p.co) os) then 9 else 0):=η rfl;have HG:=η (λ(h0:j8 p=0)=>a5Y (p:=p) (os:=os) h0);have ir:=η (λ(h0:j8 p=0) k (hk:k<aA os)=>XL (p:=p) (os:=os) (k:=k) h0 hk);unfold bM at hc;generalize gF p os=me at*;unfold cB.val at*;go_enter func183,ntmps183
 go_wp2_with fail
 generalize w.alloc (aK #[aH p.Ac (aA p.co) p.cc,aH p.Af (aA p.fu) p.cf,ν p.line,ν p.cap] 193)=w0 at*;refine(HC.o _ aY.o).mono ?_;rintro e w1 ⟨rfl,hb1⟩;have aR:Hid (β w w1):=τ aY hb1;have bT:w1.cell? ⟨w.heap.size,0,aB⟩=aC (aH p.Ac (aA p.co) p.cc):=(hb1.cell (p:=⟨w.heap.size,0,aB⟩) dH.o.2).trans dH.o.1;by_cases h0:j8 p=0
 ·rw [h0];have HG:=η (HG.o h0);have ir:=η (ir.o h0);go_wp2_with fail
  go_loop [6,16] (λla i=>∃k:Nat,∃lv:Int,k<=aA os/\i=ν k/\la=ν lv/\0<=lv/\Hid (lv=if k=0 then 0 else os.getD (k-1) 0)/\Hid (∀j,j<k->tQ (aA p.co) os j=aP)) (λ_ i=>aA os-(ag i).toNat)
  case atStart=>exact⟨0,0,bL _,rfl,rfl,dJ _,rfl,λj h=>absurd h (Nat.not_lt_zero _)⟩
  case round=>
   obtain⟨k,lv,hk,rfl,rfl,hlv,lJ,HK⟩:=hrel;by_cases hlt:k<aA os
   ·obtain⟨b,o,rfl,hb,d0⟩:=tP (HS.o.below aR.o) hlt;have uA:Hid (tQ (aA p.co) os k=(decide (os[k]<1)||(decide ((aA p.co:Int)<os[k])||(decide (0<k)&&decide (os[k]<=os.getD (k-1) 0))))):=η (by unfold tQ;rw [getD_at hlt]);have CS:=η (ir.o k hlt);have OX:Hid (os.getD k 0=os[k]):=η (getD_at hlt);generalize os[k]=x at*;by_cases h1:x<=lv
    ·have hE:tQ (aA p.co) os k=aO:=by
      rw [uA.o];have:=lJ.o;by_cases eY:k=0
      ·rw [ifP eY] at this;rw [decide_eq_true (by omega:x<1)];rfl
      rw [ifN eY] at this;rw [decide_eq_true (by omega:0<k),decide_eq_true (by omega:x<=os.getD (k-1) 0)];simp
     have HE:=η (CS.o hE);go_wp2_with fail
     go_ret;exact⟨cW HE.o.symm,aR.o⟩
    have h1d:decide (x<=lv)=aP:=decide_eq_false h1;by_cases h2:(aA p.co:Int)<x
    ·have hE:tQ (aA p.co) os k=aO:=by
      rw [uA.o,decide_eq_true h2];simp
     have HE:=η (CS.o hE);go_wp2_with fail
     go_ret;exact⟨cW HE.o.symm,aR.o⟩
    have VV:decide ((aA p.co:Int)<x)=aP:=decide_eq_false h2;have hE:tQ (aA p.co) os k=aP:=by
     rw [uA.o];have:=lJ.o;by_cases eY:k=0
     ·subst eY;rw [decide_eq_false (by omega:¬x<1),VV];rfl
     rw [ifN eY] at this;rw [decide_eq_false (by omega:¬x<1),VV,decide_eq_false (by omega:¬x<=os.getD (k-1) 0)];simp
    have lY:Hid (∀j,j<k+1->tQ (aA p.co) os j=aP):=η λj hj=>by
     by_cases e:j=k
     ·subst e;exact hE
     exact HK.o j (by omega)
    have CT:Hid (x=if k+1=0 then 0 else os.getD (k+1-1) 0):=η (by rw [ifN (by omega),Nat.add_sub_cancel];exact OX.o.symm);go_wp2_with fail
    go_round
    case rel=>exact⟨k+1,x,by omega,by go_num,rfl,by omega,CT,lY⟩
    case measure=>simp [ag];omega
   obtain rfl:k=aA os:=by omega
   have HE:=η (HG.o HK.o);go_wp2_with fail
   go_ret;exact⟨cW HE.o.symm,aR.o⟩
 have HE:Hid (me=j8 p):=η (by rw [HD.o,ifP h0]);generalize j8 p=pe at*;have IB:(pe !=0)=aO:=by simpa [bne] using h0
 go_wp2_with fail
 go_ret;exact⟨cW HE.o.symm,aR.o⟩
section
open Go.Shelf
attribute [local go_sem] Oper.semAt_some
theorem a7X(p:cB)(A:Option aj)(n c:Nat)(w:aJ):
 aQ aM 187 #[p.val,aH A n c] w λe w'=>e=aT (.func (.func 221) #[] #[π (w.heap.size+1),π w.heap.size])/\(w.alloc (aK #[aH p.Ac (aA p.co) p.cc,aH p.Af (aA p.fu) p.cf,ν p.line,ν p.cap] 193)).alloc (aK #[aH A n c] 46)=w':=by
 unfold cB.val;go_enter func187,ntmps187
 go_wp2
 go_ret;exact⟨rfl,rfl⟩
theorem a6W(p:cB)(os:List Int)(A:Option aj)(c n1:Nat)(w:aJ)(h:Cn w p)(hs:aW w w.heap.size A (os.map (aG aF)))(hn:w.heap.size=n1):
 ∀W,iY n1 n1 n1 w W->Lk n1 ((W.alloc (aK #[aH p.Ac (aA p.co) p.cc,aH p.Af (aA p.fu) p.cf,ν p.line,ν p.cap] 193)).alloc (aK #[aH A (aA os) c] 46)) (W.heap.size+1) W.heap.size p os A c:=by
 intro W hW;subst hn;have hsz:=hW.size;have hk:∀q:aj,q.block<w.heap.size->((W.alloc (aK #[aH p.Ac (aA p.co) p.cc,aH p.Af (aA p.fu) p.cf,ν p.line,ν p.cap] 193)).alloc (aK #[aH A (aA os) c] 46)).cell? q=w.cell? q:=λq hq=>by rw [qg _ _ _ (by simp;omega),qg _ _ _ (by omega)];exact gh (hW.keep q.block (.inl hq) hq)
 refine⟨by rw [cL _ _ _ _ (by simp)];rfl, ?_, ?_, ?_, ?_,hs.keep hk,h.c.dt.keep hk,h.f.dt.keep hk,by simp,by simp;omega,by simp;omega⟩
 all_goals
  rw [BM _ _ _ (by simp),cL _ _ _ _ rfl];rfl
def Bt(ys:List (List Dw)):Int:=ys.foldl (λn y=>aF.wrap (n+sJ y)) 0
theorem aJx(ys:List (List Dw))(y:List Dw):Bt (ys++ [y])=aF.wrap (Bt ys+sJ y):=by simp [Bt]
def r8(p:cB)(os:List Int):Int:=if gF p os=0 then Bt (fR p os) else 0
structure GN(p:cB)(os:List Int):Prop where
 len:aA p.fu=aA p.co
 big:aA p.co<=16
 os1:∀m∈os,1<=m/\m<=aA p.co
 all:∀x∈gN p,0<=x/\x<=1099511627776
theorem AO {p:cB} {os:List Int}(h:gF p os=0):GN p os:=by
 have h0:j8 p=0:=by
  unfold gF at h;by_cases h0:j8 p=0
  ·exact h0
  rw [ifP h0] at h;exact h
 have hb:FW p=aO:=by
  unfold j8 at h0;by_cases hb:FW p=aO
  ·exact hb
  rw [ifN hb] at h0;exact absurd h0 (by decide)
 unfold FW at hb;simp only [jb,decide_eq_true_eq] at hb;refine⟨hb.1.symm,hb.2.1,λm hm=> ?_,λx hx=> ?_⟩
 ·obtain⟨k,hk,rfl⟩:=List.getElem_of_mem hm;by_cases Eu:tQ (aA p.co) os k=aO
  ·rw [XL h0 hk Eu] at h;exact absurd h (by decide)
  have hf:tQ (aA p.co) os k=aP:=by simpa using Eu
  unfold tQ at hf;rw [getD_at hk] at hf;simp only [Bool.or_eq_false_iff,decide_eq_false_iff_not] at hf;omega
 have:=List.all_eq_true.1 hb.2.2 x hx;unfold xg at this;simp only [jb,decide_eq_true_eq] at this;exact this
theorem GN.i64 {p:cB} {os:List Int}(h:GN p os):(∀x∈p.co,aL x)/\(∀x∈p.fu,aL x)/\aL p.line/\aL p.cap:=by
 have k:∀x∈gN p,aL x:=λx hx=>by have:=h.all x hx;unfold aL;omega
 exact⟨λx hx=>k x (by simp [gN,hx]),λx hx=>k x (by simp [gN,hx]),k _ (by simp [gN]),k _ (by simp [gN])⟩
theorem a5D {n1 bo bp:Nat} {A B C:aJ}(h:iY n1 bo bp A B)(k:iY n1 bo bp B C):iY n1 bo bp A C:=h.trans k
theorem a5C {n1 bo bp B:Nat}(h1:n1<=B)(h2:bo<B)(h3:bp<B):∀(W:aJ) (l:Nat) (o o':Obj),B<=l->W.heap[l]? =aC o->o.isCells=aP->o.isWalk=aP->iY n1 bo bp W (W.putObj l o'):=λ_ _ _ _ hl _ _ _=>
 ⟨by simp [aCJ],λ_ hk _=>PN (by omega)⟩
theorem a4K(v:aN)(y:List Dw)(W:aJ)(l:Nat)(o o':Obj)(h:LZ v y W)(hl:W.heap[l]? =aC o)(ho:o.isCells=aP):LZ v y (W.putObj l o'):=by
 obtain⟨A,c,e,hs,h1,h2⟩:=h;refine⟨A,c,e,λj u hu=> ?_,h1,h2⟩;obtain⟨b,o9,e9,hb,hc⟩:=hs j u hu;refine⟨b,o9,e9,by simpa [aCJ] using hb, ?_⟩;have hne:b≠l:=λe=>by subst e;unfold World.cell? at hc;rw [hl] at hc;cases o<;>simp [Obj.isCells] at ho hc
 rw [<-hc];exact gh (w:=W) (w':=W.putObj l o') (a:=⟨b,o9+j,aB⟩) (PN (by simpa using hne))
theorem a4z {W W':aJ}(h:aa W.heap.size W W'):KeepsOthers W W':=⟨h.size,λk _ hk _=>(h.block k (fW.1 hk).1).trans hk⟩
theorem aK2 {w W w':aJ} {bn:Nat} {pre:List (List Dw)} {y:List Dw} {a:Act} {z:Int}(hb:aa W.heap.size W w')(hw:w.heap.size<=bn)(gK:aa w.heap.size w W)(hcw:∃u,w'.cell? ⟨bn,0,aB⟩=aC u)(hfw:w'.frozen? ⟨bn,0,aB⟩=aP)(hz:Bt (pre++ [y])=z):
 a3x (iY w.heap.size (bn+1+1) (bn+1)) (λpre W=>(W.cell? ⟨bn,0,aB⟩=aC (ν (Bt pre))/\W.frozen? ⟨bn,0,aB⟩=aP)/\β w W) (pre++ [y]) W .normal a (w'.setCell ⟨bn,0,aB⟩ (ν z)):=by
 obtain⟨u,hu⟩:=hcw;refine⟨(a4z hb).trans (a0D _ _ _),(iY.bZ hb).trans ⟨by simp [EY],λk hk _=>nK _ _ _ _ (by simp only [ne_eq];omega)⟩,⟨?_, ?_⟩,(gK.trans (hb.mono gK.size)).setCell (by simpa using hw) _⟩
 ·rw [hz];exact a1U _ _ _ (by rw [hu];rfl)
 rw [a1W];exact hfw
theorem aK1(p:cB)(os:List Int)(A:Option aj)(c:Nat)(w:aJ)(h:Cn w p)(hc:aA p.co<=bM)(hs:aW w w.heap.size A (os.map (aG aF)))(hl:aA os<=1000)(hI:∀x∈os,aL x):
 aQ aM 132 #[p.val,aH A (aA os) c] w λe w'=>e=aT (bB #[ν (r8 p os),ν (gF p os)])/\β w w':=by
 have aY:Hid (β w (w.alloc (aK #[aH p.Ac (aA p.co) p.cc,aH p.Af (aA p.fu) p.cf,ν p.line,ν p.cap] 193))):=η σ;have HM:Hid (∀W,β w W->aQ aM 183 #[p.val,aH A (aA os) c] W λe w'=>e=aT (ν (gF p os))/\β W w'):=η λW hW=>a5Z p os A c W (h.below hW) hc ((hs.below hW).mono hW.size) (by omega) hI
 have EJ:=η (a6W p os A c w.heap.size w h hs rfl);have rK:Hid (∀W,aQ aM 187 #[p.val,aH A (aA os) c] W λe w'=>e=aT (.func (.func 221) #[] #[π (W.heap.size+1),π W.heap.size])/\(W.alloc (aK #[aH p.Ac (aA p.co) p.cc,aH p.Af (aA p.fu) p.cf,ν p.line,ν p.cap] 193)).alloc (aK #[aH A (aA os) c] 46)=w'):=η λW=>a7X p A (aA os) c W
 have Oc:Hid (r8 p os=if gF p os=0 then Bt (fR p os) else 0):=η rfl;have TR:=η (λh=>AO (p:=p) (os:=os) h);generalize r8 p os=rv at*;unfold cB.val at*;by_cases h0:gF p os=0
 ·have F:=TR.o h0;rw [h0] at HM ⊢;rw [ifP h0] at Oc;have HF:=η F;refine(sj (n:=9)).1 ?_;refine callsIn_of_wp_marks aAd rfl trivial ?_ rfl;simp only [aBQ,List.size_toArray,uF,ES,Nat.reduceAdd,Nat.reduceSub,Array.replicate_succ,Array.replicate_zero,List.push_toArray,List.append_toArray,GL,List.cons_append]
  gi_wp2
  refine⟨trivial, ?_⟩;refine(sj.2 (HM.o _ aY.o)).mono ?_;rintro e w1 ⟨rfl,hb1⟩;have aR:Hid (β w w1):=τ aY hb1;have q0:w1.cell? ⟨w.heap.size,0,aB⟩=aC (aH p.Ac (aA p.co) p.cc):=(hb1.cell (p:=⟨w.heap.size,0,aB⟩) (by simp)).trans (by rw [cL _ _ _ _ rfl];rfl);have q1:w1.cell? ⟨w.heap.size,1,aB⟩=aC (aH p.Af (aA p.fu) p.cf):=(hb1.cell (p:=⟨w.heap.size,1,aB⟩) (by simp)).trans (by rw [cL _ _ _ _ rfl];rfl);have q2:w1.cell? ⟨w.heap.size,2,aB⟩=aC (ν p.line):=(hb1.cell (p:=⟨w.heap.size,2,aB⟩) (by simp)).trans (by rw [cL _ _ _ _ rfl];rfl);have q3:w1.cell? ⟨w.heap.size,3,aB⟩=aC (ν p.cap):=(hb1.cell (p:=⟨w.heap.size,3,aB⟩) (by simp)).trans (by rw [cL _ _ _ _ rfl];rfl);have F6:w.heap.size<w1.heap.size:=by have:=hb1.size;simp at this;omega
  gi_wp2
  refine⟨trivial, ?_⟩;refine(sj.2 (rK.o _)).mono ?_;rintro e w3 ⟨rfl,hw3⟩;have De:(w1.alloc (aK #[ν 0] 2)).heap.size=w1.heap.size+1:=by simp
  have fB:Hid (β w (w1.alloc (aK #[ν 0] 2))):=η (aR.o.alloc aR.o.size _);have zH:=EJ.o _ (iY.bZ fB.o);rw [hw3,De] at zH;have aGq:w3.heap.size=w1.heap.size+3:=by rw [<-hw3];simp
  have af:Hid (β w w3):=η (by rw [<-hw3];exact(fB.o.alloc fB.o.size _).alloc (bz fB.o.size (by simp)) _);have nh:w3.cell? ⟨w1.heap.size,0,aB⟩=aC (ν 0):=by rw [<-hw3,qg _ _ _ (by simp;omega),qg _ _ _ (by simp),cL _ _ _ _ rfl];rfl
  have hf3:w3.frozen? ⟨w1.heap.size,0,aB⟩=aP:=by rw [<-hw3,PM _ _ _ (by simp;omega),PM _ _ _ (by simp),a1V _ _ _ _ rfl]
  have N4:=aR.o.size;rw [De]
  gi_wp2
  refine a8U (β:=List Dw) rfl (by omega) (gf:=221) (lb:= #[bF (aC ⟨w1.heap.size+1+1,0,aB⟩),π (w1.heap.size+1)]) rfl trivial (enters_of func221 (by kernel_rfl) rfl)
   (a7Y 8 w.heap.size (w1.heap.size+1+1) (w1.heap.size+1) (by omega) p os A c w3 zH HF.o.os1 HF.o.len (by have:=HF.o.big;omega) hl HF.o.i64.1 HF.o.i64.2.1 HF.o.i64.2.2.1 HF.o.i64.2.2.2)
   a5D (a5C (by omega) (by omega) (by omega)) (aX _ _) a4K
   (λpre W=>(W.cell? ⟨w1.heap.size,0,aB⟩=aC (ν (Bt pre))/\W.frozen? ⟨w1.heap.size,0,aB⟩=aP)/\β w W)
   (OwnFrom.and (Own.from (λs A B row hs hg hr=>⟨cell_kept hs.1 hg hr,(frozen_kept hs.1 hg hr).trans hs.2⟩) _) (ownFrom_below (aZ _) (by omega)))
   ⟨⟨nh,hf3⟩,af.o⟩ ?a1 ?assign ?body ?done
  case assign=>
   intro l v W K hK
   gi_wp2
   exact hK
  case body=>
   rintro l pre y v W ⟨⟨xO,K9⟩,gK⟩ ⟨Ay,cy,rfl,N0,VZ,hly⟩ _;have hmx:aM.follows .mixedOrders=aO:=by kernel_rfl
   have Mm:w1.heap.size<W.heap.size:=by
    rcases rQ w1.heap.size W.heap.size with hh|hh
    ·exact hh
    unfold World.cell? at xO;rw [Iu hh] at xO;cases xO
   have Tr:Hid (∀W2,β W W2->aQ aM 186 #[aH Ay (aA y) cy] W2 λe w'=>e=aT (ν (sJ y))/\β W2 w'):=η λW2 hW2=>a8F y Ay cy W2 ((N0.below hW2).mono hW2.size) VZ (by omega)
   have G8:=η (aJx pre y);generalize Bt pre=rp at*;generalize sJ y=ty at*
   gi_wp2
   gi_region_with_o (refine⟨trivial, ?_⟩;gi_at_call 186;refine(CallsIn.inRound l (sj.2 (Tr.o _ (by first|exact aX _ _|exact(aX _ _).drew|exact(aX _ _).drew.drew)))).mono ?_;rintro e w' ⟨rfl,dX⟩;have hcw:=(dX.cell (p:=⟨w1.heap.size,0,aB⟩) Mm).trans xO;have hfw:=(dX.frozen (p:=⟨w1.heap.size,0,aB⟩) Mm).trans K9)
   all_goals gi_wp2
   all_goals exact aK2 (((aX _ _).drew).trans dX) N4 gK ⟨_,hcw⟩ hfw G8.o
  case done=>
   rintro D W hD ⟨⟨xO,K9⟩,gK⟩ hK
   gi_wp2
   refine⟨by simp,.inl ⟨_,_,rfl,run_takeDeferred hK, ?_⟩⟩;exact⟨_,results_tmp2 rfl _ _ _,by rw [Oc.o];rfl,gK.trans (belowK_b (w:=w) (aZ _) W D _ _ (by omega) hK rfl rfl)⟩
 have HE:=η h0;rw [ifN h0] at Oc;have hen:(gF p os !=0)=aO:=by simpa [bne] using h0
 generalize gF p os=me at*;go_enter aAd,aBQ
 go_wp2_with fail
 refine(HM.o _ aY.o).mono ?_;rintro e w1 ⟨rfl,hb1⟩;have aR:Hid (β w w1):=τ aY hb1;go_wp2_with fail
 go_ret2;exact⟨by rw [Oc.o];rfl,aR.o⟩
end
theorem aCX(T:Int)(l:List Int):aA (dK T l)<=aA l:=by
 unfold dK uI;split
 ·simp
 split
 ·exact aZ _
 split
 ·simp
 split
 ·simp
 rw [r9];exact aZ _
theorem aCW {T:Int} {l:List Int}(hl:∀x∈l,aL x):∀x∈dK T l,aL x:=by
 intro x hx;by_cases h:iK T l=0
 ·have G:=Ek h;obtain⟨i,hi,rfl⟩:=List.getElem_of_mem hx;have hi':i<aA l:=by rw [<-G.len];exact hi
  have:=G.bd i hi hi';have h2:=hl _ (cK hi');unfold aL at*;omega
 unfold dK at hx;rw [ifP h] at hx;simp at hx
def fg(s:List Dw):List Int:=s.map (·.n)
theorem aF6 {s:List Dw} {k:Nat}(hk:k<aA s):fg (s.take (k+1))=fg (s.take k)++ [s[k].n]:=by unfold fg;rw [fE hk,df];rfl
def iv(s:List Dw)(xs:List Int):List Dw:=(kN (λ(x:Dw) n=>(⟨x.k,x.m,n⟩:Dw)) s xs).filter λx=>decide (0<x.n)
theorem aF9 {s:List Dw} {xs:List Int} {k:Nat}(h:k<aA s)(h':k<aA xs):iv (s.take (k+1)) (xs.take (k+1))=iv (s.take k) (xs.take k)++if 0<xs[k] then [⟨s[k].k,s[k].m,xs[k]⟩] else []:=by unfold iv;rw [fE h,fE h',List.zipWith_append (by simp;omega),List.filter_append];by_cases hp:0<xs[k]<;>simp [hp]
theorem aF8(s:List Dw)(xs:List Int)(k:Nat):aA (iv (s.take k) (xs.take k))<=k:=by unfold iv;refine bz (qd _ _) ?_;rw [ET,uz];omega
theorem a8a {α β γ:Type}(f:α->β->γ):∀(s:List α) (xs:List β),aA xs<=aA s->kN f (s.take (aA xs)) xs=kN f s xs
 |_,[],_=>by simp
 | [],_::_,h=>by simp at h
 |x::s,y::xs,h=>by rw [uF,List.take_succ_cons,EW,EW,a8a f s xs (by simpa using h)]
theorem aF7(s:List Dw)(xs:List Int)(h:aA xs<=aA s):iv (s.take (aA xs)) (xs.take (aA xs))=iv s xs:=by unfold iv;rw [cT,a8a _ _ _ h]
def my(s:List Dw)(need:Int):List Dw:=iv s (dK need (fg s))
def Yu(l:List Dw)(w:aJ)(e:dU)(w':aJ):Prop:=∃A c,e=aT (aH A (aA l) c)/\w'.ownsRow w.heap.size 196 3 (aH A (aA l) c) (aA l) (gS l)/\aa w.heap.size w w'
theorem aFp(s:List Dw)(need:Int)(A:Option aj)(c:Nat)(w:aJ)(hs:aW w w.heap.size A (gS s))(hI:∀x∈s,aL x.n)(hN:aL need)(hl:aA s<=1000):
 aQ aM 185 #[aH A (aA s) c,ν need] w (Yu (my s need) w):=by
 obtain⟨i0,bu,hz0,hz1,hz2⟩:=dL Pu;obtain⟨j0,zv,jz0,jz1,jz2⟩:=dL (show (aM.info? 2).map (λi=>(i.zero,i.size,i.bytes))=aC (aC (ν 0),1,8) by kernel_rfl);have HS:=η hs;have HI:=η hI;have HN:=η hN;go_enter func185,ntmps185
 go_wp2
 go_loopw [5,15] (λu i wr=>∃k:Nat,k<=aA s/\i=ν k/\Hid (wr.ownsRow w.heap.size 2 1 u k ((fg (s.take k)).map (aG aF)))/\Hid (β w wr)) (λ_ i _=>aA s-(ag i).toNat)
 ·exact⟨0,bL _,rfl,gC _ _ _ _,aX _ _⟩
 ·
  obtain⟨k,hk,rfl,HO,HB⟩:=hrel;have hsz:=HB.o.size;by_cases hlt:k<aA s
  ·obtain⟨b,o,rfl,hb,d0,d1,d2⟩:=Pt (HS.o.below HB.o) hlt;have cG:=η (aF6 hlt);generalize s[k].n=n at*;generalize s[k].k=kk at*;generalize s[k].m=mm at*;generalize fg (s.take k)=ys at*;have cE:Hid (∀ob,(wr.alloc ob).ownsRow w.heap.size 2 1 _ k (ys.map (aG aF))):=η λob=>HO.o.alloc ob
   have aR:Hid (∀ob,β w (wr.alloc ob)):=η λob=>HB.o.alloc hsz ob
   go_wp2_with (at_builtin;refine j9 _ rfl _ _ 53 rfl w.heap.size 2 j0 _ 1 8 mP zv jz0 jz1 jz2 rfl (by decide) _ k (ys.map (aG aF)) rfl ((cE.o _).alloc _) ⟨wr.heap.size+1,0,aB⟩ 1 1 [ν n] rfl rfl (dN _ _ #[_] (by simp)) xh (by simp only [bM];omega) (by omega) (by simp;omega) ?_)
   intro v' w4 hown1 dF _;have dV:Hid (w4.ownsRow w.heap.size 2 1 v' (k+1) ((fg (s.take (k+1))).map (aG aF))):=η (by rw [cG.o,df];exact hown1);have ar:=η (((aR.o _).alloc (by simp;omega) _).grown dF (by simp;omega) (λj hj=>eT HO.o j hj));go_wp2
   go_roundw
   ·exact⟨k+1,by omega,by go_num,dV,ar⟩
   simp [ag];omega
  obtain rfl:k=aA s:=by omega
  have hO:=HO.o;rw [cT] at hO;obtain⟨A1,c1,rfl⟩:=bK hO;have pM:aA (fg s)=aA s:=by simp [fg]
  have Ad:=η (Yf need (fg s) A1 c1 wr HN.o (λz hz=>by obtain⟨y,hy,rfl⟩:=dW.1 hz;exact HI.o y hy) (aW.cA hO) (by unfold bM;omega));rw [pM] at Ad;have rX:=aCX need (fg s);rw [pM] at rX;have HG:Hid (my s need=iv s (dK need (fg s))):=η rfl;generalize dK need (fg s)=zs at*;generalize zV need (fg s)=ze at*;go_wp2_with (go_at_call 194;refine Ad.o.mono ?_;rintro e w2 ⟨A2,c2,rfl,hs2,hb2⟩;have cM:=η hs2;have aV:=η (HB.o.trans (hb2.mono hsz)))
  have IG:=aV.o.size;go_loopw [10,33] (λu i wr=>∃k:Nat,k<=aA zs/\i=ν k/\Hid (wr.ownsRow w2.heap.size 196 3 u (aA (iv (s.take k) (zs.take k))) (gS (iv (s.take k) (zs.take k))))/\Hid (β w2 wr)) (λ_ i _=>aA zs-(ag i).toNat)
  ·exact⟨0,bL _,rfl,⟨by simp [iv,gS],aS ⟨rfl,rfl⟩⟩,aX _ _⟩
  ·
   obtain⟨k,hk,rfl,HO,HB⟩:=hrel;have hsz:=HB.o.size;have cC:=η (aV.o.trans (HB.o.mono IG));by_cases hlt:k<aA zs
   ·have AB:k<aA s:=by omega
    obtain⟨b,o,rfl,hb,d0,d1,d2⟩:=Pt (HS.o.below cC.o) AB;obtain⟨b2,o2,rfl,hb2,hc2⟩:=tP (cM.o.below HB.o) hlt;have cG:=η (aF9 AB hlt);have Bc:=aF8 s zs k;have hkb:(k:Int)<(aA s:Int):=by omega
    have eY:(0:Int)<=(k:Int):=by omega
    generalize s[k].k=kk at*;generalize s[k].m=mm at*;generalize iv (s.take k) (zs.take k)=ys at*;generalize zs[k]=z at*;by_cases hp:0<z
    ·rw [ifP hp] at cG;go_wp2_with (at_builtin;refine j9 _ rfl _ _ 257 rfl w2.heap.size 196 i0 _ 3 24 underlying257 bu hz0 hz1 hz2 rfl (by decide) _ (aA ys) (gS ys) rfl (HO.o.alloc _) ⟨wr.heap.size,0,aB⟩ 1 1 (Dw.cells ⟨kk,mm,z⟩) rfl rfl (dN _ _ #[_,_,_] (by simp)) (VG ⟨kk,mm,z⟩) (by simp only [bM];omega) (by omega) (by simp;omega) ?_)
     intro v' w4 hown1 dF _;have dV:Hid (w4.ownsRow w2.heap.size 196 3 v' (aA (iv (s.take (k+1)) (zs.take (k+1)))) (gS (iv (s.take (k+1)) (zs.take (k+1))))):=η (by rw [cG.o,a2t,cN,uG];exact hown1);have ar:=η ((HB.o.alloc hsz _).grown dF (by simp;omega) (λj hj=>eT HO.o j hj));go_wp2
     go_roundw
     ·exact⟨k+1,by omega,by go_num,dV,ar⟩
     simp [ag];omega
    rw [ifN hp,List.append_nil] at cG;have jh:=HO.o;rw [<-cG.o] at jh;have cE:=η jh;go_wp2
    go_roundw
    ·exact⟨k+1,by omega,by go_num,cE,HB⟩
    simp [ag];omega
   obtain rfl:k=aA zs:=by omega
   have hO:=HO.o;rw [aF7 s zs (by omega)] at hO;obtain⟨A3,c3,rfl⟩:=bK hO;have cD:=η (iB hO IG);go_wp2
   go_ret;exact⟨A3,c3,by rw [HG.o];rfl,by rw [HG.o];exact cD.o,cC.o⟩
theorem aKE(ty:bY)(v x:aN)(w:aJ):(SX #[189,257] ty #[v,x]).run aM w=(SX #[189,189] ty #[v,x]).run aM w:=by obtain⟨i0,bu,_,_,_⟩:=dL Pu;cases v<;>simp [SX,run_underlying a1N,run_underlying underlying257,Go.sizeOf,typeInfo,bu]
theorem aFC(L:List Dw):∀u∈gS L,u.oneCell'=aO:=by intro u hu;obtain⟨x,_,hx⟩:=List.mem_flatMap.1 hu;exact VG x u hx
theorem aFB(L:List Dw):aA (gS L)=aA L*3:=by
 unfold gS;induction L with
 |nil=>rfl
 |cons x L ih=>rw [wZ,cN,ih,uF];simp [Dw.cells];omega
theorem aLm {w:aJ} {ops:Array Oper} {rest:List Oper} {o:Oper} {a:Act} {Q:Exit->Act->aJ->Prop}(hgd:o.guard=aB)(s x:Operand)
 (ho:o.op= .call {callee:= .builtin .append,args:= #[s,x],argTypes:= #[189,257]}) (base:Nat)
 (v:aN) (n:Nat) (xs:List aN) (hs:a.eval s=v) (hown:w.ownsRow base 196 3 v n xs)
 (lo:Nat) (xv:aN) (L:List Dw) (hx:a.eval x=xv) (hz:w.ownsRow lo 196 3 xv (aA L) (gS L)) (hlen:n+aA L<=1000000) (hbase:base<=w.heap.size)
 (h:∀v' w',w'.ownsRow base 196 3 v' (n+aA L) (xs++gS L)->w.grownBy w' v.ownBlock->wpList aM ops Q rest (a.put o.dst v') w'):wpList aM ops Q (o::rest) a w:=by
 obtain⟨i0,bu,hz0,hz1,hz2⟩:=dL Pu;refine wpList_plain hgd λK hK=> ?_
 have hrun:∃v' w',(SX #[189,189] o.type #[v,xv]).run aM w= .ok v' w'/\w'.ownsRow base 196 3 v' (n+aA L) (xs++gS L)/\w.grownBy w' v.ownBlock:=by
  rcases hz.2 with⟨rfl,h0⟩|⟨g,cap,cur,rfl,_⟩
  ·obtain rfl:L= []:=nO h0;exact⟨v,w,run_append_owned_none (P:=aM) (w:=w) base 189 o.type 196 i0 3 a1N bu v n xs hown,by simpa [gS] using hown,⟨rfl,rfl,rfl,aZ _,λ_ _ _=>rfl⟩⟩
  obtain⟨v',w',h1,h2,h3,_⟩:=run_append_own (P:=aM) w base 189 o.type 196 i0 _ 3 24 a1N bu hz0 hz1 hz2 rfl (by decide) v n xs hown ⟨g,0,aB⟩ (aA L) cap (gS L) (aFB L) (λj u hu=>by
   have KL:=aW.cA hz;obtain⟨b,o',e,_,hc⟩:=KL j u hu;have e:=pE e;injection e with e1 e2;subst e1 e2;have ea:(⟨g,0,aB⟩:aj).add j=⟨g,0+j,aB⟩:=by unfold Addr.add;split<;>simp_all
   rw [ea];exact hc) (aFC L) (by simp only [bM];omega) (by omega) hbase
  exact⟨v',w',h1,h2,h3⟩
 obtain⟨v',w',hr,KE,DU⟩:=hrun;rw [<-aKE] at hr;unfold Oper.wp;simp [execOp,ho,resolve,invoke,builtin,hs,hx,hr,uH];exact hK _ _ (h v' w' KE DU)
theorem Xa {w:aJ} {base:Nat} {e:bY} {size n:Nat} {v:aN} {xs:List aN}(h:w.ownsRow base e size v n xs) {p:aj}(hp:v.ownBlock≠aC p.block)(u:aN):(w.setCell p u).ownsRow base e size v n xs:=
 h.kept ⟨rfl,rfl,rfl,by simp [EY],λi _ hi=>nK _ _ _ _ (λe=>hi (by rw [e]))⟩ (Or.inr hp)
theorem a6L {w:aJ} {base:Nat} {e:bY} {size n:Nat} {v:aN} {xs:List aN}(h:w.ownsRow base e size v n xs):∀(j:Nat) (o:Obj),v.ownBlock=aC j->w.heap[j]? =aC o->o.isCells=aO:=by
 intro j o hj ho;rcases h.2 with⟨rfl,_⟩|⟨g,cap,cur,rfl,_,hh,_⟩
 ·cases hj
 have e2:g=j:=by simpa [dy] using hj
 subst e2;rw [hh] at ho;cases ho;rfl
structure GY(lo:Nat)(W:aJ)(bn bl:Nat)(nd:Int)(u:aN)(L:List Dw):Prop where
 cn:W.cell? ⟨bn,0,aB⟩=aC (ν nd)
 fn:W.frozen? ⟨bn,0,aB⟩=aP
 cl:W.cell? ⟨bl,0,aB⟩=aC u
 fl:W.frozen? ⟨bl,0,aB⟩=aP
 own:W.ownsRow lo 196 3 u (aA L) (gS L)
 ne:bn≠bl
 ln:bn<lo
 ll:bl<lo
 sz:lo<=W.heap.size
structure U2(bn bl:Nat)(u:aN)(W W':aJ):Prop where
 size:W.heap.size<=W'.heap.size
 keep:∀k,k<W.heap.size->k≠bn->k≠bl->aC k≠u.ownBlock->W'.heap[k]? =W.heap[k]?
 oth:KeepsOthers W W'
 os:W'.os=W.os
 tape:W'.tape=W.tape
 output:W'.output=W.output
def yl(st:Int×List Dw)(y:List Dw):Int×List Dw:=(aF.wrap (st.1-sJ (my y st.1)),st.2++my y st.1)
theorem aFo {s:List Dw} {need:Int}(h:∀x∈s,aL x.n):∀x∈my s need,aL x.n:=by intro x hx;unfold my iv at hx;have hx:=(jD.1 hx).1;obtain⟨i,hi,rfl⟩:=List.getElem_of_mem hx;rw [List.getElem_zipWith];refine aCW (T:=need) (l:=fg s) (λz hz=> ?_) _ (cK (by rw [ET] at hi;omega));obtain⟨y,hy,rfl⟩:=dW.1 hz;exact h y hy
theorem a3Z(s:List Dw)(need:Int):aA (my s need)<=aA s:=by unfold my iv;refine bz (qd _ _) ?_;rw [ET];omega
theorem aJL(lo bn bl:Nat)(nd:Int)(u:aN)(L s:List Dw)(A:Option aj)(c:Nat)(W:aJ)(h:GY lo W bn bl nd u L)(hs:aW W W.heap.size A (gS s))(hI:∀x∈s,aL x.n)(hl:aA s<=1000)(hN:aL nd)(hL:aA L<=100000):
 aQ aM 184 #[aH A (aA s) c,π bn,π bl] W λe W'=>(∃v,e=aT v)/\∃u',GY lo W' bn bl (yl (nd,L) s).1 u' (yl (nd,L) s).2/\U2 bn bl u W W':=by
 have HG:Hid (aQ aM 185 #[aH A (aA s) c,ν nd] W (Yu (my s nd) W)):=η (aFp s nd A c W hs hI hN hl);have HP:=η h;have CP:=η (aFo (need:=nd) hI);have kA:=a3Z s nd;have LN:Hid (yl (nd,L) s=(aF.wrap (nd-sJ (my s nd)),L++my s nd)):=η rfl;have cn:=h.cn;have Mm:bn<W.heap.size:=cP h.ln h.sz;have hlW:bl<W.heap.size:=cP h.ll h.sz;clear h hs hI;rw [LN.o];generalize my s nd=G at*;obtain⟨tg,Ws⟩:∃t,t=sJ G:=⟨_,rfl⟩;rw [<-Ws];have HTG:=η Ws;clear Ws;go_enter func184,ntmps184
 go_wp2_with fail
 refine HG.o.mono ?_;rintro e w1 ⟨A1,c1,rfl,eB,hb1⟩;have cE:=η eB;have aR:=η hb1;have hz1:=hb1.size;have cn1:=(hb1.cell (p:=⟨bn,0,aB⟩) Mm).trans cn;have fn1:=(hb1.frozen (p:=⟨bn,0,aB⟩) Mm).trans HP.o.fn;clear hb1 eB cn;have Tr:Hid (∀W2,β w1 W2->aQ aM 186 #[aH A1 (aA G) c1] W2 λe w'=>e=aT (ν tg)/\β W2 w'):=η λW2 hW2=>by rw [HTG.o];exact a8F G A1 c1 W2 (((aW.cA cE.o).below hW2).mono hW2.size) CP.o (by omega)
 have kB:bn<w1.heap.size:=by omega
 go_wp2_with fail
 go_region_with (go_at_call 186;refine(Tr.o _ (by first|exact aX _ _|exact(aX _ _).drew|exact(aX _ _).drew.drew)).mono ?_;rintro e w2 ⟨rfl,dX⟩;have hcw:=(dX.cell (p:=⟨bn,0,aB⟩) kB).trans cn1;have hfw:=(dX.frozen (p:=⟨bn,0,aB⟩) kB).trans fn1)
 all_goals
  have hb2:β w1 w2:=((aX _ _).drew).trans dX;have hz2:=hb2.size;have IJ:∀g,g<lo->u.ownBlock≠aC g:=λg hg e=>by have:=(HP.o.own.lt g e).1;omega
  have Wu:=HP.o.ln;have a4b:=HP.o.ll;have hgb:(aH A1 (aA G) c1).ownBlock≠aC bn:=λe=>by have:=(cE.o.lt bn e).1;omega
  have hne:=HP.o.ne;have nZ:=HP.o.sz;have BC:Hid (w2.ownsRow lo 196 3 u (aA L) (gS L)):=η (NV (NV HP.o.own aR.o) hb2);have JT:Hid ((w2.setCell ⟨bn,0,aB⟩ (ν (aF.wrap (nd-tg)))).ownsRow lo 196 3 u (aA L) (gS L)):=η (Xa BC.o (IJ bn Wu) _);have Az:Hid ((w2.setCell ⟨bn,0,aB⟩ (ν (aF.wrap (nd-tg)))).ownsRow W.heap.size 196 3 (aH A1 (aA G) c1) (aA G) (gS G)):=η (Xa (NV cE.o hb2) hgb _);have cl5:(w2.setCell ⟨bn,0,aB⟩ (ν (aF.wrap (nd-tg)))).cell? ⟨bl,0,aB⟩=aC u:=(gh (a:=⟨bl,0,aB⟩) (nK _ _ _ _ (by simp only [ne_eq];omega))).trans ((hb2.cell (p:=⟨bl,0,aB⟩) (by show bl<w1.heap.size;omega)).trans ((aR.o.cell (p:=⟨bl,0,aB⟩) hlW).trans HP.o.cl));have fl5:(w2.setCell ⟨bn,0,aB⟩ (ν (aF.wrap (nd-tg)))).frozen? ⟨bl,0,aB⟩=aP:=(Lv (a:=⟨bl,0,aB⟩) (nK _ _ _ _ (by simp only [ne_eq];omega))).trans ((hb2.frozen (p:=⟨bl,0,aB⟩) (by show bl<w1.heap.size;omega)).trans ((aR.o.frozen (p:=⟨bl,0,aB⟩) hlW).trans HP.o.fl));have cn5:(w2.setCell ⟨bn,0,aB⟩ (ν (aF.wrap (nd-tg)))).cell? ⟨bn,0,aB⟩=aC (ν (aF.wrap (nd-tg))):=a1U _ _ _ (by rw [hcw];rfl);have fn5:(w2.setCell ⟨bn,0,aB⟩ (ν (aF.wrap (nd-tg)))).frozen? ⟨bn,0,aB⟩=aP:=by rw [a1W];exact hfw
  have hs5:W.heap.size<=(w2.setCell ⟨bn,0,aB⟩ (ν (aF.wrap (nd-tg)))).heap.size:=by simp [EY];omega
  have ED:Hid (U2 bn bl u W (w2.setCell ⟨bn,0,aB⟩ (ν (aF.wrap (nd-tg))))):=η (by
   have iy:=aR.o.trans (hb2.mono hz1);refine⟨hs5,λk hk h1 _ _=>(nK _ _ _ _ (by simp only [ne_eq];omega)).trans (iy.block k hk),(a4z iy).trans (a0D _ _ _), ?_, ?_, ?_⟩
   ·exact iy.os
   ·exact iy.tape
   exact iy.output)
  clear dX hcw hfw hb2;generalize w2.setCell ⟨bn,0,aB⟩ (ν (aF.wrap (nd-tg)))=w5 at*;go_wp2_with (at_builtin;refine aLm rfl _ _ rfl lo u (aA L) (gS L) rfl JT.o W.heap.size _ G rfl Az.o (by omega) (by omega) ?_)
  intro v' w6 tN xQ;obtain⟨A7,c7,rfl⟩:=bK tN;have I8:bn<w5.heap.size:=by omega
  have hl5:bl<w5.heap.size:=by omega
  have VI:=xQ.block bn I8 (λe=>IJ bn Wu e.symm);have VH:=xQ.block bl hl5 (λe=>IJ bl a4b e.symm);have cl6:w6.cell? ⟨bl,0,aB⟩=aC u:=(gh (a:=⟨bl,0,aB⟩) VH).trans cl5;have fl6:w6.frozen? ⟨bl,0,aB⟩=aP:=(Lv (a:=⟨bl,0,aB⟩) VH).trans fl5;have cn6:=(gh (a:=⟨bn,0,aB⟩) VI).trans cn5;have fn6:=(Lv (a:=⟨bn,0,aB⟩) VI).trans fn5;have HF:Hid (GY lo (w6.setCell ⟨bl,0,aB⟩ (aH A7 (aA L+aA G) c7)) bn bl (aF.wrap (nd-tg)) (aH A7 (aA L+aA G) c7) (L++G)/\U2 bn bl u W (w6.setCell ⟨bl,0,aB⟩ (aH A7 (aA L+aA G) c7))):=η (by
   have hvb:(aH A7 (aA L+aA G) c7).ownBlock≠aC bl:=λe=>by have:=(tN.lt bl e).1;omega
   have e7n:(w6.setCell ⟨bl,0,aB⟩ (aH A7 (aA L+aA G) c7)).heap[bn]? =w6.heap[bn]? :=nK _ _ _ _ (by simp only [ne_eq];omega);refine⟨⟨(gh (a:=⟨bn,0,aB⟩) e7n).trans cn6,(Lv (a:=⟨bn,0,aB⟩) e7n).trans fn6,a1U _ _ _ (by rw [cl6];rfl),by rw [a1W];exact fl6, ?_,hne,Wu,a4b, ?_⟩,⟨?_,λk hk h1 h2 h3=> ?_, ?_, ?_, ?_, ?_⟩⟩
   ·rw [cN,show gS (L++G)=gS L++gS G by simp [gS]];exact Xa tN hvb _
   ·have:=xQ.size;simp [EY];omega
   ·have:=xQ.size;simp [EY];omega
   ·exact(nK _ _ _ _ (by simp only [ne_eq];omega)).trans ((xQ.block k (by have:=ED.o.size;omega) h3).trans (ED.o.keep k hk h1 h2 h3))
   ·exact(ED.o.oth.trans (KeepsOthers.of_grownBy xQ (a6L JT.o))).trans (a0D _ _ _)
   ·exact xQ.os.trans ED.o.os
   ·exact xQ.tape.trans ED.o.tape
   exact xQ.output.trans ED.o.output)
  clear tN xQ VI VH;go_wp2_with fail
  go_end0
  exact⟨⟨_,rfl⟩,_,HF.o⟩
section
open Go.Shelf
attribute [local go_sem] Oper.semAt_some
def tR(need:Int)(ys:List (List Dw)):Int×List Dw:=ys.foldl yl (need,[])
theorem a6S(need:Int)(ys:List (List Dw))(y:List Dw):tR need (ys++ [y])=yl (tR need ys) y:=by unfold tR;rw [List.foldl_append];rfl
theorem aLp(n:Int):aL (aF.wrap n):=by rw [fZ];unfold aL;omega
theorem aJH {need:Int}(h:aL need)(ys:List (List Dw)):aL (tR need ys).1:=by
 rcases Oy ys with rfl|⟨zs,y,rfl⟩
 ·exact h
 rw [Ox,a6S];exact aLp _
theorem a6T(ys:List (List Dw)):∀st:Int×List Dw,(ys.foldl yl st).2.length<=aA st.2+(ys.map List.length).sum:=by
 induction ys with
 |nil=>intro st;simp
 |cons y ys ih=>
  intro st;rw [Ck,yM,EU];have h1:=ih (yl st y);have h2:(yl st y).2.length<=aA st.2+aA y:=by unfold yl;rw [cN];have:=a3Z y st.1;omega
  omega
theorem aL2 {α:Type}(f:α->List Dw)(l:List α)(h:∀a,aA (f a)=1):(l.map λa=>aA (f a)).sum=aA l:=by
 induction l with
 |nil=>rfl
 |cons a l ih=>rw [yM,EU,ih,h,uF];omega
theorem a7d(p:cB)(os:List Int):((fR p os).map List.length).sum<=aA os+aA os+aA p.fu+2:=by unfold fR;rw [df,df,Cm,Cm,Ld,Ld];have h1:=aL2 (λm=> [(⟨8,m,cU p.co m⟩:Dw)]) os (λ_=>rfl);have h3:=Kc p.fu os (aA p.fu);simp only [Function.comp_def,yM,List.map_nil,EU,List.sum_nil,uF,ES] at*;unfold vx;omega
theorem aJI {p:cB} {os:List Int} {pre:List (List Dw)} {y:List Dw}(need:Int)(h:(pre++ [y])<+:fR p os):(tR need pre).2.length<=aA os+aA os+aA p.fu+2:=by have h1:=a6T pre (need,[]);have h2:=a7d p os;obtain⟨t,ht⟩:=h;rw [<-ht,df,df,Cm,Cm] at h2;unfold tR;simp only [ES,Nat.zero_add] at h1;omega
def sG(p:cB)(os:List Int)(need:Int):Int:=if gF p os≠0 then gF p os else if need<0 then 1 else 0
def oO(p:cB)(os:List Int)(need:Int):List Dw:=if sG p os need=0 then (tR need (fR p os)).2 else []
def a8u(l:List Dw)(err:Int)(w:aJ)(e:dU)(w':aJ):Prop:=∃A c,e=aT (bB #[aH A (aA l) c,aG aF err])/\w'.ownsRow w.heap.size 196 3 (aH A (aA l) c) (aA l) (gS l)/\aa w.heap.size w w'
theorem GY.grown {lo B:Nat} {W W':aJ} {bn bl:Nat} {nd:Int} {u:aN} {L:List Dw} {row:Option Nat}(h:GY lo W bn bl nd u L)(hg:W.grownBy W' row)(hr:∀r,row=aC r->B<=r/\∃o:Obj,W.heap[r]? =aC o/\o.isCells=aP):GY lo W' bn bl nd u L:=by
 have FE:∀r,row=aC r->∃o:Obj,W.heap[r]? =aC o/\o.isCells=aP:=λr e=>(hr r e).2
 refine⟨cell_kept h.cn hg FE,(frozen_kept h.cn hg FE).trans h.fn,cell_kept h.cl hg FE,(frozen_kept h.cl hg FE).trans h.fl,h.own.kept hg ?_,h.ne,h.ln,h.ll,bz h.sz hg.size⟩;cases hu:u.ownBlock with
 |none=>exact .inl rfl
 |some g=>
  refine .inr λe=> ?_
  obtain⟨o,ho,hc⟩:=FE g e.symm;rw [a6L h.own g o hu ho] at hc;cases hc
theorem aJN(p:cB)(os:List Int)(need:Int)(A:Option aj)(c:Nat)(w:aJ)(h:Cn w p)(hc:aA p.co<=bM)(hs:aW w w.heap.size A (os.map (aG aF)))(hl:aA os<=1000)(hI:∀x∈os,aL x)(hN:aL need):
 aQ aM 127 #[p.val,aH A (aA os) c,ν need] w (a8u (oO p os need) (sG p os need) w):=by
 have aY:Hid (β w ((w.alloc (aK #[aH p.Ac (aA p.co) p.cc,aH p.Af (aA p.fu) p.cf,ν p.line,ν p.cap] 193)).alloc (aK #[ν need] 2))):=η (σ.alloc (by simp) _);have HM:Hid (∀W,β w W->aQ aM 183 #[p.val,aH A (aA os) c] W λe w'=>e=aT (ν (gF p os))/\β W w'):=η λW hW=>a5Z p os A c W (h.below hW) hc ((hs.below hW).mono hW.size) (by omega) hI
 have EJ:=η (a6W p os A c w.heap.size w h hs rfl);have rK:Hid (∀W,aQ aM 187 #[p.val,aH A (aA os) c] W λe w'=>e=aT (.func (.func 221) #[] #[π (W.heap.size+1),π W.heap.size])/\(W.alloc (aK #[aH p.Ac (aA p.co) p.cc,aH p.Af (aA p.fu) p.cf,ν p.line,ν p.cap] 193)).alloc (aK #[aH A (aA os) c] 46)=w'):=η λW=>a7X p A (aA os) c W
 have HE:Hid (sG p os need=if gF p os≠0 then gF p os else if need<0 then 1 else 0):=η rfl;have HL:Hid (oO p os need=if sG p os need=0 then (tR need (fR p os)).2 else []):=η rfl;have TR:=η (λh=>AO (p:=p) (os:=os) h);have HN:=η hN;generalize oO p os need=pl at*;generalize sG p os need=pe at*;unfold cB.val at*;by_cases h0:gF p os=0
 ·rw [ifN (by omega)] at HE;have F:=TR.o h0;rw [h0] at HM;have HF:=η F;by_cases hn:need<0
  ·rw [ifP hn] at HE;rw [HE.o,ifN (by decide)] at HL;rw [HE.o,HL.o];go_enter a0X,a0r
   go_wp2_with fail
   refine(HM.o _ aY.o).mono ?_;rintro e w1 ⟨rfl,hb1⟩;have aR:Hid (β w w1):=τ aY hb1;have qn:w1.cell? ⟨w.heap.size+1,0,aB⟩=aC (ν need):=(hb1.cell (p:=⟨w.heap.size+1,0,aB⟩) (by simp)).trans (by rw [cL _ _ _ _ (by simp)];rfl);go_wp2_with fail
   go_ret2;exact⟨aB,0,rfl,gC _ _ _ _,aR.o⟩
  rw [ifN hn] at HE;rw [HE.o,ifP rfl] at HL;rw [HE.o];refine(sj (n:=9)).1 ?_;refine callsIn_of_wp_marks a0X rfl trivial ?_ rfl;simp only [a0r,List.size_toArray,uF,ES,Nat.reduceAdd,Nat.reduceSub,Array.replicate_succ,Array.replicate_zero,List.push_toArray,List.append_toArray,GL,List.cons_append]
  gi_wp2
  refine⟨trivial, ?_⟩;refine(sj.2 (HM.o _ aY.o)).mono ?_;rintro e w1 ⟨rfl,hb1⟩;have aR:Hid (β w w1):=τ aY hb1;have q0:w1.cell? ⟨w.heap.size,0,aB⟩=aC (aH p.Ac (aA p.co) p.cc):=(hb1.cell (p:=⟨w.heap.size,0,aB⟩) (by simp;omega)).trans (by rw [BM _ _ _ (by simp),cL _ _ _ _ rfl];rfl);have q1:w1.cell? ⟨w.heap.size,1,aB⟩=aC (aH p.Af (aA p.fu) p.cf):=(hb1.cell (p:=⟨w.heap.size,1,aB⟩) (by simp;omega)).trans (by rw [BM _ _ _ (by simp),cL _ _ _ _ rfl];rfl);have q2:w1.cell? ⟨w.heap.size,2,aB⟩=aC (ν p.line):=(hb1.cell (p:=⟨w.heap.size,2,aB⟩) (by simp;omega)).trans (by rw [BM _ _ _ (by simp),cL _ _ _ _ rfl];rfl);have q3:w1.cell? ⟨w.heap.size,3,aB⟩=aC (ν p.cap):=(hb1.cell (p:=⟨w.heap.size,3,aB⟩) (by simp;omega)).trans (by rw [BM _ _ _ (by simp),cL _ _ _ _ rfl];rfl);have qn:w1.cell? ⟨w.heap.size+1,0,aB⟩=aC (ν need):=(hb1.cell (p:=⟨w.heap.size+1,0,aB⟩) (by simp)).trans (by rw [cL _ _ _ _ (by simp)];rfl);have qf:w1.frozen? ⟨w.heap.size+1,0,aB⟩=aP:=(hb1.frozen (p:=⟨w.heap.size+1,0,aB⟩) (by simp)).trans (by rw [a1V _ _ _ _ (by simp)]);have F6:w.heap.size+1<w1.heap.size:=by have:=hb1.size;simp at this;omega
  have aMj:w.heap.size<w1.heap.size:=by omega
  gi_wp2
  refine⟨trivial, ?_⟩;refine(sj.2 (rK.o _)).mono ?_;rintro e w3 ⟨rfl,hw3⟩;have De:((w1.alloc (aK #[aH aB 0 0] 189)).alloc (aK #[.func (.func 184) #[] #[π (w.heap.size+1),π w1.heap.size]] 260)).heap.size=w1.heap.size+2:=by simp
  have fB:Hid (β w1 ((w1.alloc (aK #[aH aB 0 0] 189)).alloc (aK #[.func (.func 184) #[] #[π (w.heap.size+1),π w1.heap.size]] 260))):=η (σ.alloc (by simp) _);have zH:=EJ.o _ (iY.bZ (aR.o.trans (fB.o.mono (by omega))));rw [hw3,De] at zH;have aGq:w3.heap.size=w1.heap.size+4:=by rw [<-hw3];simp
  have Sl:Hid (β w1 w3):=η (by rw [<-hw3];exact(fB.o.alloc (by simp;omega) _).alloc (by simp;omega) _);have af:Hid (β w w3):=η (aR.o.trans (Sl.o.mono (by omega)));have cn3:=(Sl.o.cell (p:=⟨w.heap.size+1,0,aB⟩) F6).trans qn;have fn3:=(Sl.o.frozen (p:=⟨w.heap.size+1,0,aB⟩) F6).trans qf;have cl3:w3.cell? ⟨w1.heap.size,0,aB⟩=aC (aH aB 0 0):=by rw [<-hw3,qg _ _ _ (by simp;try omega),qg _ _ _ (by simp;try omega),qg _ _ _ (by simp),cL _ _ _ _ rfl];rfl
  have fl3:w3.frozen? ⟨w1.heap.size,0,aB⟩=aP:=by rw [<-hw3,PM _ _ _ (by simp;omega),PM _ _ _ (by simp;try omega),PM _ _ _ (by simp),a1V _ _ _ _ rfl]
  have cf3:w3.cell? ⟨w1.heap.size+1,0,aB⟩=aC (.func (.func 184) #[] #[π (w.heap.size+1),π w1.heap.size]):=by rw [<-hw3,qg _ _ _ (by simp;try omega),qg _ _ _ (by simp;try omega),cL _ _ _ _ (by simp)];rfl
  rw [De]
  gi_wp2
  refine a8U (β:=List Dw) rfl (by omega) (gf:=221) (lb:= #[bF (aC ⟨w1.heap.size+2+1,0,aB⟩),π (w1.heap.size+2)]) rfl trivial (enters_of func221 (by kernel_rfl) rfl)
   (a7Y 8 w.heap.size (w1.heap.size+2+1) (w1.heap.size+2) (by omega) p os A c w3 zH HF.o.os1 HF.o.len (by have:=HF.o.big;omega) hl HF.o.i64.1 HF.o.i64.2.1 HF.o.i64.2.2.1 HF.o.i64.2.2.2)
   a5D (a5C (by omega) (by omega) (by omega)) (aX _ _) a4K
   (λpre W=>((∃u,GY (w1.heap.size+4) W (w.heap.size+1) w1.heap.size (tR need pre).1 u (tR need pre).2)/\W.cell? ⟨w1.heap.size+1,0,aB⟩=aC (.func (.func 184) #[] #[π (w.heap.size+1),π w1.heap.size]))/\β w W)
   (OwnFrom.and (λs W W' row hs hg hr=>⟨hs.1.imp λu hu=>hu.grown hg hr,cell_kept hs.2 hg (λr e=>(hr r e).2)⟩) (ownFrom_below (aZ _) (by omega)))
   ⟨⟨⟨_,cn3,fn3,cl3,fl3,gC _ _ _ _,by omega,by omega,by omega,by omega⟩,cf3⟩,af.o⟩ ?a1 ?assign ?body ?done
  case assign=>
   intro l v W K hK
   gi_wp2
   exact hK
  case body=>
   rintro l pre y v W ⟨⟨⟨u,hp⟩,nX⟩,gK⟩ ⟨Ay,cy,rfl,N0,VZ,hly⟩ Wj;have hlen:=aJI need Wj;have ki:=HF.o.big;have gV:=HF.o.len;have eI:=η (aJL (w1.heap.size+4) (w.heap.size+1) w1.heap.size (tR need pre).1 u (tR need pre).2 y Ay cy W hp N0 VZ hly (aJH HN.o pre) (by omega));have cG:=η (a6S need pre y);have CW:=η hp;have hfW:w1.heap.size+1<W.heap.size:=by have:=hp.sz;omega
   gi_wp2
   refine⟨trivial, ?_⟩;refine(CallsIn.inRound l (sj.2 eI.o)).mono ?_;rintro e W' ⟨⟨v9,rfl⟩,u',ni,lu⟩
   gi_wp2
   have IJ:∀g,g<w1.heap.size+4->aC g≠u.ownBlock:=λg hg e=>by have:=(CW.o.own.lt g e.symm).1;omega
   refine⟨lu.oth,⟨lu.size,λk hk eF=>lu.keep k eF (by omega) (by omega) (IJ k (by omega))⟩,⟨⟨u',by rw [cG.o];exact ni⟩,(gh (a:=⟨w1.heap.size+1,0,aB⟩) (lu.keep (w1.heap.size+1) hfW (by omega) (by omega) (IJ _ (by omega)))).trans nX⟩, ?_⟩;exact⟨lu.os.trans gK.os,lu.tape.trans gK.tape,lu.output.trans gK.output,bz gK.size lu.size,λk hk=>(lu.keep k (cP hk gK.size) (by omega) (by omega) (IJ k (by omega))).trans (gK.block k hk)⟩
  case done=>
   rintro D W hD ⟨⟨⟨u,hp⟩,nX⟩,gK⟩ hK;obtain⟨A9,c9,rfl⟩:=bK hp.own;have CW:=η hp;have cl9:=hp.cl
   gi_wp2
   refine⟨by simp,.inl ⟨_,_,rfl,run_takeDeferred hK, ?_⟩⟩;have hgr:=CW.o.grown (B:=w3.heap.size) (grownBy_putObj' W D (.deferred aB)) (λr e=>by cases e;exact⟨hD,_,hK,rfl⟩);exact⟨_,results_tmp2 rfl _ _ _,A9,c9,by rw [HL.o];rfl,by rw [HL.o];exact iB hgr.own (by have:=aR.o.size;omega),gK.trans (belowK_b (w:=w) (aZ _) W D _ _ (by omega) hK rfl rfl)⟩
 have IB:pe=gF p os:=by rw [HE.o,ifP h0]
 subst IB;rw [ifN h0] at HL;have hen:(gF p os !=0)=aO:=by simpa [bne] using h0
 rw [HL.o];generalize gF p os=me at*;go_enter a0X,a0r
 go_wp2_with fail
 refine(HM.o _ aY.o).mono ?_;rintro e w1 ⟨rfl,hb1⟩;have aR:Hid (β w w1):=τ aY hb1;go_wp2_with fail
 go_ret2;exact⟨aB,0,rfl,gC _ _ _ _,aR.o⟩
end
end Go.Proofs.YtdokipdchlcmeaaGreat
