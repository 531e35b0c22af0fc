/-
  Several texts in one, for one claim (printed by pack.py).
-/
import Derived.Test.YtdokipdchlcmeaaGreatPe6
import Derived.RangeFuncNested
import Derived.RangeFuncBound
import Derived.RangeFuncCalls
import Derived.RangeFuncLeaves
import Derived.RangeFuncFrom
import Derived.Shelf.Abstract
import Derived.Shelf.RegionOpen
import Derived.OwnWalkIn
import Derived.TacticsInMore
import Derived.LoopNIn
import Derived.LoopIn
import Derived.TacticsIn
import Derived.RegionIn
set_option linter.all false
set_option maxRecDepth 100000
set_option maxHeartbeats 12800000
open And renaming intro→kT
open Array renaming getElem?_eq_some_iff→fY,getElem?_eq_none→IU
open Bool renaming true→aO,false→aP,and_eq_true→jX,and_false→IV,not_eq_true'→SC,false_eq_true→YJ
open Go renaming World→aJ,Value→aN,Calls→aQ,Addr→ai,maxLen→bK,TypeId→bX,heap_alloc_new→cT,info_parts→dK,Ending→di,rounds_succ→eA,wpList_append_own→iw,callsIn_wide→sV,wp_loop_rounds→uY,grownCap→xB
open Go.Builtin renaming zeroCells→Dl,append_→SD
open Go.Ending renaming returned→aU
open Go.Fence renaming wide→KY
open Go.IntKind renaming i64→aF,wrap_i64→fW
open Go.IntWalk renaming i64_in→sM
open Go.KeepsOthers renaming setCell→Zk
open Go.Obj renaming cells→aK
open Go.Proofs renaming intOf→ag
open Go.Proofs.Tryz renaming prog→aM,underlying53→mD,func127→a0E,func220→a0K,ntmps127→a0X,ntmps220→a0d,underlying189→a0s,func119→aA3,func132→aA7,func27→aAQ,func35→aAX,func59→aAa,ntmps119→aAq,ntmps132→aAu,ntmps27→aBD,ntmps35→aBI,ntmps59→aBM
open Go.Result renaming andThen→uE
open Go.RowKit renaming Below→aa
open Go.RowKit.Below renaming refl→aX,size→gS,trans→jl,heap_setCell→nB
open Go.Value renaming int→aG,slice→aH,tuple→bB,pointer→bH,bool→bM,agg→bO,ownBlock→dx
open Go.World renaming ownsRow_nil→gC,cell?_of_block→gg,ownsRow→jn,cell?_alloc_lt→qO,size_alloc→Cr,setCell→EJ,grownBy_alloc→GM,frozen?_of_block→Lf,frozen?_alloc_past→P4,putObj_heap_other→P5,cell?_setCell_same'→a0z,frozen?_alloc_at→a1A,frozen?_setCell→a1B,putObj→aBn,putObj_heap_same→aBo
open Int renaming le_refl→dH
open List renaming length→aA,getElem_mem→cK,length_append→cL,take_length→cU,range→dQ,mem_map→dV,map_append→dY,mem_cons→fC,take_succ_eq_append_getElem→fF,getElem?_eq_getElem→iA,length_map→iK,mem_filter→j6,any_eq_true→kK,zipWith→kL,eq_nil_of_length_eq_zero→nG,mem_range→nH,take_zero→nJ,length_filter_le→qN,getD_eq_getElem?_getD→sQ,length_cons→uB,length_singleton→uC,length_take→ur,flatMap_cons→wP,map_cons→yB,foldl_cons→Ca,sum_append→Cc,length_nil→EC,length_zipWith→ED,sum_cons→EF,zipWith_cons_cons→EG,nil_append→Fs,all_eq_false→JE,drop_eq_getElem_cons→JF,getElem?_eq_none→LN,map_map→LO,concat_eq_append→OX,eq_nil_or_concat→OY,prefix_append→Zp,flatMap_singleton→a9P,map_singleton→a9U
open Nat renaming le_refl→aZ,zero_le→bL,le_trans→cC,lt_of_lt_of_le→cR,lt_or_ge→rF
open Option renaming none→aB,some→aC
open Option.some renaming inj→od
open Or renaming inl→aS
namespace Go.Proofs.YtdokipdchlcmeaaGreat
open Go.Proofs.Tryz Go.RowKit
structure fZ(D:Dk):Prop where
 lI:∀y∈D.l,aL y
 hl:aA D.h<=100
 wl:aA D.who<=100
 gl:aA D.log<=90000
 ob:sD D.ob
 bl:aA D.bx<=1000
 st:aL D.st
def bg(D:Dk)(fk fm tk tm a n:Int):List Int:=if lR (aA D.x.ms) (aA D.x.ss+1) D.l D.h (kp fk fm tk tm a n)=0 then jw (aA D.x.ms) (aA D.x.ss+1) D.l (kp fk fm tk tm a n) else D.l
def uU(D:Dk)(fk fm tk tm a n:Int):Int:=lR (aA D.x.ms) (aA D.x.ss+1) D.l D.h (kp fk fm tk tm a n)
theorem bT.moved {w w':aJ} {db:Nat} {p:Dp} {D:Dk} {es:List En} {E:di}(H:bT w db p D)(h:UH p.vb p.vp (aA D.x.ms) (aA D.x.ss+1) (aA D.x.ms) D.l D.h es w E w'):E=aU (aG aF (lR (aA D.x.ms) (aA D.x.ss+1) D.l D.h es))/\aq db p {D with l:=if lR (aA D.x.ms) (aA D.x.ss+1) D.l D.h es=0 then jw (aA D.x.ms) (aA D.x.ss+1) D.l es else D.l} w w':=by
 obtain⟨S6,rfl,hv,hu,hs⟩:=h;refine⟨rfl, {p with vp:=S6},H.a7k (hu.mono (λk hk=> .inl (.inl hk))) hv,rfl,rfl,rfl,rfl,hu.mono (λk hk=> .inl (.inr (.inl (.inl hk)))), ?_⟩;rintro k (e|e|e|e|e|e)
 ·exact .inl (.inl e)
 ·exact(hs k e).imp (λh=> .inr (.inl h)) id
 ·exact .inl (.inr (.inr (.inl e)))
 ·exact .inl (.inr (.inr (.inr (.inl e))))
 ·exact .inl (.inr (.inr (.inr (.inr (.inl e)))))
 exact .inl (.inr (.inr (.inr (.inr (.inr e)))))
theorem Gd(db:Nat)(p:Dp)(D:Dk)(fk fm tk tm a n:Int)(w:aJ)(H:bT w db p D)(hO:fZ D)(hf:aL fk/\aL fm)(ht:aL tk/\aL tm)(ha:aL a)(hn:aL n)(lf:0<=n):
 aQ aM 87 #[π p.vb,bO #[ν fk,ν fm],bO #[ν tk,ν tm],ν a,ν n] w λe w'=>e=aU (ν (uU D fk fm tk tm a n))/\aq db p {D with l:=bg D fk fm tk tm a n} w w'/\w'.cell? ⟨db,8,aB⟩=aC (π p.vb):=by
 refine(aKz p.vb p.vp (aA D.x.ms) (aA D.x.ss+1) (aA D.x.ms) D.l D.h fk fm tk tm a n w H.vt hf ht ha hn lf hO.lI (by have:=hO.hl;omega)).mono ?_;intro e w' h;obtain⟨h1,h2⟩:=H.moved h;refine⟨h1,h2, ?_⟩;obtain⟨p1,H1,e1,_⟩:=h2;rw [<-e1];exact H1.cells.c8
def Dh(D:Dk)(m n:Int):Int:=if nY D m n≠0 then nY D m n else if 0<pG n (1099511627776-balA (aA D.x.ms) (aA D.x.ss+1) D.l 8 m 0) then 2 else 0
def Na(D:Dk)(m n:Int):Dk:= {D with l:=bg D 7 m 8 m 0 n,log:=D.log++ [⟨17,m,0,n,0⟩]}
def AP(D:Dk)(m n:Int):Dk:=if Dh D m n=0 then Na D m n else D
def Ry(D:Dk)(m n:Int):Int:=if Dh D m n=0 then balA (aA D.x.ms) (aA D.x.ss+1) (Na D m n).l 8 m 0 else 0
def CA(db:Nat)(p:Dp)(D':Dk)(v er:Int)(w:aJ)(e:di)(w':aJ):Prop:=e=aU (bB #[aG aF v,aG aF er])/\aq db p D' w w'
theorem aEI(db:Nat)(p:Dp)(D:Dk)(m n:Int)(w:aJ)(H:bT w db p D)(hO:fZ D)(hm:aL m)(hn:aL n)(Jk:aL (1099511627776-balA (aA D.x.ms) (aA D.x.ss+1) D.l 8 m 0)):
 aQ aM 36 #[π db,ν m,ν n] w (CA db p (AP D m n) (Ry D m n) (Dh D m n) w):=by
 have HE:Hid (Dh D m n=if nY D m n≠0 then nY D m n else if 0<pG n (1099511627776-balA (aA D.x.ms) (aA D.x.ss+1) D.l 8 m 0) then 2 else 0):=η rfl;have ui:Hid (nY D m n=0->1<=n):=η (by
  intro h;unfold nY at h;split at h
  ·rename_i h1;exact absurd h h1
  split at h
  ·cases h
  split at h
  ·cases h
  omega)
 have HM:=η (a2L db p D m n w H hm (by have:=hO.wl;omega));have HF:=η H;have HO:=η hO;have ew:=η (λW (hW:β w W)=>zW db p D 8 m 0 W (H.below hW) (by decide) hm);have yx:=η (λW=>Ul n (1099511627776-balA (aA D.x.ms) (aA D.x.ss+1) D.l 8 m 0) hn Jk W);have hb1:=Jk.1;have hb2:=Jk.2;generalize nY D m n=me at*;generalize VU:balA (aA D.x.ms) (aA D.x.ss+1) D.l 8 m 0=bq at*;generalize pG n (1099511627776-bq)=ov at*;go_enter func36,ntmps36
 go_upto_region 2 with (go_at_call 85;refine lu HM.o λw1 aR=> ?_)
 by_cases h1:me=0
 case neg=>
  have hb:(me==0)=aP:=by simpa using h1
  have HT:Hid (Dh D m n=me):=η (by rw [HE.o,ifP h1]);have lz:Hid (me≠0):=η h1;go_wp2
  go_ret2;refine⟨?_, ?_⟩
  ·unfold Ry;rw [HT.o,ifN lz.o];rfl
  unfold AP;rw [HT.o,ifN lz.o];exact aq.bV HF.o aR.o
 have ju:=ui.o h1;subst h1;have Yc:=η (λW (hW:β w1 W)=>ew.o W (aR.o.trans (hW.mono aR.o.size)));by_cases h2:0<ov
 ·have HT:Hid (Dh D m n=2):=η (by rw [HE.o,ifN (by simp),ifP h2]);go_wp2_with (first|(go_at_call 47;refine lu (zQ m _) λw2 aV=> ?_)|(go_at_call 46;refine κ (Yc.o _ aV.o) aV λw3 af=> ?_)|(go_at_call 86;refine(yx.o _).mono ?_;rintro e w4 ⟨rfl,hb4⟩;have ar:=η (aR.o.trans ((af.o.trans (hb4.mono af.o.size)).mono aR.o.size))))
  go_ret2;refine⟨?_, ?_⟩
  ·unfold Ry;rw [HT.o];rfl
  unfold AP;rw [HT.o];exact aq.bV HF.o ar.o
 have HT:Hid (Dh D m n=0):=η (by rw [HE.o,ifN (by simp),ifN h2]);go_upto_region 6 with (first|(go_at_call 47;refine lu (zQ m _) λw2 aV=> ?_)|(go_at_call 46;refine κ (Yc.o _ aV.o) aV λw3 af=> ?_)|(go_at_call 86;refine(yx.o _).mono ?_;rintro e w4 ⟨rfl,hb4⟩;have ar:=η (aR.o.trans ((af.o.trans (hb4.mono af.o.size)).mono aR.o.size))))
 have lF:=η (HF.o.below ar.o);have lU:=η (λW (hW:β w4 W)=>Gd db p D 7 m 8 m 0 n W (lF.o.below hW) HO.o ⟨by decide,hm⟩ ⟨by decide,hm⟩ (by decide) hn (by omega));have bW:=η (λW (hW:β w4 W)=>(lF.o.below hW).cells.c8);have bU:β w4 w4.drew:=(aX _ _).drew;have hdd:=bW.o _ bU;go_region_held3 (λW=>W.cell? ⟨db,8,aB⟩=aC (π p.vb)) (first|(with_reducible assumption)) (first|(go_at_call 47;refine(zQ m _).mono ?_;rintro e w5 ⟨rfl,gG⟩;have pd:β w4 w5:=jl (by with_reducible assumption) (gG.mono (gS (by with_reducible assumption)));have hcc:=bW.o _ pd)|(go_at_call 49;refine(EM m _).mono ?_;rintro e w6 ⟨rfl,tD⟩;have xC:β w4 w6:=jl (by with_reducible assumption) (tD.mono (gS (by with_reducible assumption)));have qW:=bW.o _ xC)|(go_at_call 87;refine(lU.o _ (by with_reducible assumption)).mono ?_;rintro e w7 ⟨rfl,dD,hcm⟩))
 have gA:Hid (aq db p {D with l:=bg D 7 m 8 m 0 n} w w7):=η (aq.trans (bC.bV _ (ar.o.trans (Below.mono (by with_reducible assumption) ar.o.size))) (λ_ h=> .inl h) ⟨rfl,rfl,rfl,rfl⟩ dD);obtain⟨p1,H1,e1,e2,e3,e4,cj,hs1⟩:=gA.o;have kU:=η (H1.below ((aX w7.heap.size w7).alloc (aZ _) (aK #[ν 17,ν m,ν 0,ν n,ν 0] 45)));have kW:=η (wx db p1 {D with l:=bg D 7 m 8 m 0 n} [⟨17,m,0,n,0⟩] w7.heap.size 1 _ kU.o (dM w7 45 #[ν 17,ν m,ν 0,ν n,ν 0] rfl) (by simp) (by simp) (by have:=HO.o.gl;simp only;omega));have pO:Hid (∀W,aq db p1 {D with l:=bg D 7 m 8 m 0 n,log:=D.log++ [⟨17,m,0,n,0⟩]} (w7.alloc (aK #[ν 17,ν m,ν 0,ν n,ν 0] 45)) W->aq db p (Na D m n) w W):=η (λW h=>aq.trans cj hs1 ⟨e1,e2,e3,e4⟩ (aq.trans (bC.bV _ σ) (λ_ h=> .inl h) ⟨rfl,rfl,rfl,rfl⟩ h));go_wp2_with (first|(go_at_call 55;refine kW.o.mono ?_;rintro e w8 ⟨rfl,h8⟩;have dt:=η (pO.o _ h8))|(go_at_call 47;refine(zQ m _).mono ?_;rintro e w9 ⟨rfl,gF⟩;have r9:=η (dt.o.below gF);obtain⟨p2,h2,_⟩:=r9.o;have H2:=η h2)|(go_at_call 46;refine(zW db p2 (Na D m n) 8 m 0 _ H2.o (by decide) hm).mono ?_;rintro e s8 ⟨rfl,zg⟩;have Fb:=η (r9.o.below zg)))
 go_ret2;refine⟨?_, ?_⟩
 ·unfold Ry;rw [HT.o];rfl
 unfold AP;rw [HT.o];exact Fb.o
def FJ(D:Dk)(m n:Int):Int:=if nY D m n≠0 then nY D m n else uU D 8 m 7 m 0 n
def NZ(D:Dk)(m n:Int):Dk:= {D with l:=bg D 8 m 7 m 0 n,log:=D.log++ [⟨18,m,0,n,0⟩]}
def AO(D:Dk)(m n:Int):Dk:=if FJ D m n=0 then NZ D m n else D
def Rs(D:Dk)(m n:Int):Int:=if FJ D m n=0 then balA (aA D.x.ms) (aA D.x.ss+1) (NZ D m n).l 8 m 0 else 0
theorem a5B {D:Dk} {m n:Int}(h:nY D m n=0):1<=n:=by
 unfold nY at h;split at h
 ·rename_i h1;exact absurd h h1
 split at h
 ·cases h
 split at h
 ·cases h
 omega
theorem aEH(db:Nat)(p:Dp)(D:Dk)(m n:Int)(w:aJ)(H:bT w db p D)(hO:fZ D)(hm:aL m)(hn:aL n):
 aQ aM 37 #[π db,ν m,ν n] w (CA db p (AO D m n) (Rs D m n) (FJ D m n) w):=by
 have HE:Hid (FJ D m n=if nY D m n≠0 then nY D m n else uU D 8 m 7 m 0 n):=η rfl;have ui:Hid (nY D m n=0->1<=n):=η a5B;have HM:=η (a2L db p D m n w H hm (by have:=hO.wl;omega));have HF:=η H;have HO:=η hO;generalize nY D m n=me at*;go_enter func37,ntmps37
 go_upto_region 2 with (go_at_call 85;refine lu HM.o λw4 ar=> ?_)
 by_cases h1:me=0
 case neg=>
  have hb:(me==0)=aP:=by simpa using h1
  have HT:Hid (FJ D m n=me):=η (by rw [HE.o,ifP h1]);have lz:Hid (me≠0):=η h1;go_wp2
  go_ret2;refine⟨?_, ?_⟩
  ·unfold Rs;rw [HT.o,ifN lz.o];rfl
  unfold AO;rw [HT.o,ifN lz.o];exact aq.bV HF.o ar.o
 have ju:=ui.o h1;subst h1;have HT:Hid (FJ D m n=uU D 8 m 7 m 0 n):=η (by rw [HE.o,ifN (by simp)]);go_upto_region 4 with (fail)
 have lF:=η (HF.o.below ar.o);have lU:=η (λW (hW:β w4 W)=>Gd db p D 8 m 7 m 0 n W (lF.o.below hW) HO.o ⟨by decide,hm⟩ ⟨by decide,hm⟩ (by decide) hn (by omega));have bW:=η (λW (hW:β w4 W)=>(lF.o.below hW).cells.c8);have bU:β w4 w4.drew:=(aX _ _).drew;have hdd:=bW.o _ bU;have wG:Hid (uU D 8 m 7 m 0 n≠0->bg D 8 m 7 m 0 n=D.l):=η (λh=>by unfold bg;rw [ifN];exact h);generalize uU D 8 m 7 m 0 n=X4 at*;go_region_held3 (λW=>W.cell? ⟨db,8,aB⟩=aC (π p.vb)) (first|(with_reducible assumption)) (first|(go_at_call 47;refine(zQ m _).mono ?_;rintro e w5 ⟨rfl,gG⟩;have pd:β w4 w5:=jl (by with_reducible assumption) (gG.mono (gS (by with_reducible assumption)));have hcc:=bW.o _ pd)|(go_at_call 49;refine(EM m _).mono ?_;rintro e w6 ⟨rfl,tD⟩;have xC:β w4 w6:=jl (by with_reducible assumption) (tD.mono (gS (by with_reducible assumption)));have qW:=bW.o _ xC)|(go_at_call 87;refine(lU.o _ (by with_reducible assumption)).mono ?_;rintro e w7 ⟨rfl,dD,hcm⟩))
 have gA:Hid (aq db p {D with l:=bg D 8 m 7 m 0 n} w w7):=η (aq.trans (bC.bV _ (ar.o.trans (Below.mono (by with_reducible assumption) ar.o.size))) (λ_ h=> .inl h) ⟨rfl,rfl,rfl,rfl⟩ dD);by_cases h2:X4=0
 case neg=>
  have hb:(X4==0)=aP:=by simpa using h2
  have lz:Hid (X4≠0):=η h2;have J1:Hid (aq db p D w w7):=η (by have h:=gA.o;rw [wG.o h2] at h;exact h);go_wp2
  go_ret2;refine⟨?_, ?_⟩
  ·unfold Rs;rw [HT.o,ifN lz.o];rfl
  unfold AO;rw [HT.o,ifN lz.o];exact J1.o
 subst h2;obtain⟨p1,H1,e1,e2,e3,e4,cj,hs1⟩:=gA.o;have kU:=η (H1.below ((aX w7.heap.size w7).alloc (aZ _) (aK #[ν 18,ν m,ν 0,ν n,ν 0] 45)));have kW:=η (wx db p1 {D with l:=bg D 8 m 7 m 0 n} [⟨18,m,0,n,0⟩] w7.heap.size 1 _ kU.o (dM w7 45 #[ν 18,ν m,ν 0,ν n,ν 0] rfl) (by simp) (by simp) (by have:=HO.o.gl;simp only;omega));have pO:Hid (∀W,aq db p1 {D with l:=bg D 8 m 7 m 0 n,log:=D.log++ [⟨18,m,0,n,0⟩]} (w7.alloc (aK #[ν 18,ν m,ν 0,ν n,ν 0] 45)) W->aq db p (NZ D m n) w W):=η (λW h=>aq.trans cj hs1 ⟨e1,e2,e3,e4⟩ (aq.trans (bC.bV _ σ) (λ_ h=> .inl h) ⟨rfl,rfl,rfl,rfl⟩ h));go_wp2_with (first|(go_at_call 55;refine kW.o.mono ?_;rintro e w8 ⟨rfl,h8⟩;have dt:=η (pO.o _ h8))|(go_at_call 47;refine(zQ m _).mono ?_;rintro e w9 ⟨rfl,gF⟩;have r9:=η (dt.o.below gF);obtain⟨p2,h2,_⟩:=r9.o;have H2:=η h2)|(go_at_call 46;refine(zW db p2 (NZ D m n) 8 m 0 _ H2.o (by decide) hm).mono ?_;rintro e s8 ⟨rfl,zg⟩;have Fb:=η (r9.o.below zg)))
 go_ret2;refine⟨?_, ?_⟩
 ·unfold Rs;rw [HT.o];rfl
 unfold AO;rw [HT.o];exact Fb.o
section
theorem a5C {M A:Nat} {l:List Int} {es:List En} {y:Int}:∀(qs:List (Int×Int×Int)) (acc:List Int),y∈ku acc (qs.map (jo M A l es))->y∈acc\/∃q∈qs,y=kf M A l q+fA es q
 | [],acc,h=> .inl h
 |q::qs,acc,h=>by
  have e:ku acc ((q::qs).map (jo M A l es))=ku (acc.set (jo M A l es q).p.toNat (jo M A l es q).n) (qs.map (jo M A l es)):=by grind [ku]
  rw [e] at h;rcases a5C qs _ h with h|⟨q',h1,h2⟩
  ·rcases List.mem_or_eq_of_mem_set h with h|h
   ·exact .inl h
   exact .inr ⟨q,by simp,h⟩
  grind
theorem aHn {M A:Nat} {l:List Int} {es:List En}(h:xU M A l es)(hl:∀y∈l,aL y):∀y∈jw M A l es,aL y:=by
 intro y hy;unfold jw kg at hy;rcases a5C _ _ hy with hy|⟨q,hq,rfl⟩
 ·exact hl y hy
 exact(h.ovr q hq).2
structure nE(M A:Nat)(l:List Int):Prop where
 len:aA l=A*(6+3*M)
 row:∀a,a<A->sumI (Dc M l a)=0
 pos:∀k m a n,plcA M A k m a=aC n->uK k=aP->0<=balA M A l k m a
 I:∀y∈l,aL y
theorem Y8 {M A:Nat} {l:List Int} {h:List Hr} {es:List En}(hv:lR M A l h es=0):xU M A l es/\(∀q∈cu es,uK q.1=aP->fA es q<0->0<=kf M A l q+fA es q):=by
 unfold lR at hv;split at hv
 ·omega
 rename_i h1;have h1:nM M A l es=0:=by omega
 unfold nM at h1;split at h1
 ·omega
 rename_i h2;split at h1
 ·cases h1
 rename_i h3;refine⟨aDB (by omega), ?_⟩;intro q hq hf hs;have hb:rL (jo M A l es q)=aP:=by
  cases hb:rL (jo M A l es q) with
  |false=>rfl
  |true=>exact absurd (kK.2 ⟨_,dV.2 ⟨q,hq,rfl⟩,hb⟩) h3
 grind [rL,jo]
theorem nE.post {M A:Nat} {l:List Int} {h:List Hr} {es:List En}(H:nE M A l)(hA:A<=9)(hv:lR M A l h es=0):nE M A (jw M A l es):=by
 obtain⟨hc,hf⟩:=Y8 hv;refine⟨(aHo _ _ _ _).trans H.len,λa ha=>(aHp H.len hc (by omega)).trans (H.row a ha), ?_,aHn hc H.I⟩;intro k m a n hn hk;have e:=KB H.len hc (q:=(k,m,a)) hn;have h0:=H.pos k m a n hn hk;have e1:kf M A (jw M A l es) (k,m,a)=balA M A (jw M A l es) k m a:=rfl;have e2:kf M A l (k,m,a)=balA M A l k m a:=rfl;rw [<-e1,e];by_cases hs:fA es (k,m,a)<0
 ·grind [Xx]
 rw [e2];omega
theorem Rm(fk fm tk tm a n:Int)(q:Int×Int×Int):fA (kp fk fm tk tm a n) q=(if q=(fk,fm,a) then-n else 0)+(if q=(tk,tm,a) then n else 0):=by have e:kp fk fm tk tm a n=([]++ [⟨fk,fm,a,-n⟩])++ [⟨tk,tm,a,n⟩]:=rfl;rw [e,IJ,IJ];have:fA [] q=0:=rfl;rw [this,Int.zero_add];rfl
theorem aCn(fk fm tk tm a n:Int)(i:Nat):sumI (gp (kp fk fm tk tm a n) i)=0:=by grind [gp,kp,sumI]
theorem a5A {fk fm tk tm a n:Int} {q:Int×Int×Int}(h:q∈cu (kp fk fm tk tm a n)):q=(fk,fm,a)\/q=(tk,tm,a):=by
 obtain⟨x,hx,e⟩:=KA.1 h;simp only [kp,fC,List.not_mem_nil,or_false] at hx;rcases hx with rfl|rfl
 ·exact .inl e.symm
 exact .inr e.symm
section
variable {D:Dk}
theorem N6 {fk fm tk tm a n:Int} {i j:Nat}(hf:plcA (aA D.x.ms) (aA D.x.ss+1) fk fm a=aC i)(ht:plcA (aA D.x.ms) (aA D.x.ss+1) tk tm a=aC j)(hne:¬(fk=tk/\fm=tm))(lf:0<=n)(hn:aL n)
 (h1:uK fk=aO\/(n<=balA (aA D.x.ms) (aA D.x.ss+1) D.l fk fm a/\iG D.h fk fm a<=balA (aA D.x.ms) (aA D.x.ss+1) D.l fk fm a-n)) (hr1:aL (balA (aA D.x.ms) (aA D.x.ss+1) D.l fk fm a-n)) (hr2:aL (balA (aA D.x.ms) (aA D.x.ss+1) D.l tk tm a+n)) (hlen:aA D.l=((aA D.x.ss+1))*(6+3*(aA D.x.ms))):uU D fk fm tk tm a n=0:=by
 have Ma:aL (-n):=by grind [aL]
 have hqn:((fk,fm,a):Int×Int×Int)≠(tk,tm,a):=λe=>hne ⟨congrArg Prod.fst e,congrArg (λx=>x.2.1) e⟩
 have hs1:fA (kp fk fm tk tm a n) (fk,fm,a)= -n:=by grind [Rm]
 have hs2:fA (kp fk fm tk tm a n) (tk,tm,a)=n:=by grind [Rm]
 have hc:xU (aA D.x.ms) (aA D.x.ss+1) D.l (kp fk fm tk tm a n):=by
  refine⟨by simp [kp], ?_,λi _=>aCn _ _ _ _ _ _ i, ?_⟩
  ·intro x hx;simp only [kp,fC,List.not_mem_nil,or_false] at hx;rcases hx with rfl|rfl
   ·exact⟨i,hf⟩
   exact⟨j,ht⟩
  intro q hq;rcases a5A hq with rfl|rfl
  ·rw [hs1];exact⟨Ma,hr1⟩
  rw [hs2];exact⟨hn,hr2⟩
 unfold uU lR;have hb:nM (aA D.x.ms) (aA D.x.ss+1) D.l (kp fk fm tk tm a n)=0:=by unfold nM;rw [ifN (by rw [a1g hc];simp),ifN];intro ha;obtain⟨c,hc1,hc2⟩:=kK.1 ha;obtain⟨q,hq,rfl⟩:=dV.1 hc1;grind [a5A,rL,jo,kf]
 rw [ifN (by rw [hb];simp),ifN];intro ha;obtain⟨x,hx,hx2⟩:=kK.1 ha;simp only [kp,fC,List.not_mem_nil,or_false] at hx;rcases hx with rfl|rfl
 ·unfold rZ at hx2;simp only [jX,decide_eq_true_eq,SC] at hx2;obtain⟨⟨a1,a2⟩,a3⟩:=hx2;have e:=KB hlen hc (q:=(fk,fm,a)) hf;rw [hs1] at e;have e2:kf (aA D.x.ms) (aA D.x.ss+1) D.l (fk,fm,a)=balA (aA D.x.ms) (aA D.x.ss+1) D.l fk fm a:=rfl;have a3':kf (aA D.x.ms) (aA D.x.ss+1) (jw (aA D.x.ms) (aA D.x.ss+1) D.l (kp fk fm tk tm a n)) (fk,fm,a)<iG D.h fk fm a:=a3;grind
 unfold rZ at hx2;simp only [jX,decide_eq_true_eq,SC] at hx2;obtain⟨⟨a1,a2⟩,a3⟩:=hx2;have e:=KB hlen hc (q:=(tk,tm,a)) ht;rw [hs2] at e;have a2':kf (aA D.x.ms) (aA D.x.ss+1) (jw (aA D.x.ms) (aA D.x.ss+1) D.l (kp fk fm tk tm a n)) (tk,tm,a)<kf (aA D.x.ms) (aA D.x.ss+1) D.l (tk,tm,a):=a2;omega
theorem aHb {fk fm tk tm a n:Int}(h:uU D fk fm tk tm a n=0)(hlen:aA D.l=((aA D.x.ss+1))*(6+3*(aA D.x.ms))) {k m b:Int} {i:Nat}(hp:plcA (aA D.x.ms) (aA D.x.ss+1) k m b=aC i):balA (aA D.x.ms) (aA D.x.ss+1) (bg D fk fm tk tm a n) k m b=balA (aA D.x.ms) (aA D.x.ss+1) D.l k m b+((if (k,m,b)=(fk,fm,a) then-n else 0)+(if (k,m,b)=(tk,tm,a) then n else 0)):=by have h':lR (aA D.x.ms) (aA D.x.ss+1) D.l D.h (kp fk fm tk tm a n)=0:=h;unfold bg;rw [ifP h',<-Rm];exact KB hlen (Y8 h').1 (q:=(k,m,b)) hp
theorem nE.mv {fk fm tk tm a n:Int}(H:nE (aA D.x.ms) (aA D.x.ss+1) D.l)(hA:aA D.x.ss<=8):nE (aA D.x.ms) (aA D.x.ss+1) (bg D fk fm tk tm a n):=by
 by_cases h:lR (aA D.x.ms) (aA D.x.ss+1) D.l D.h (kp fk fm tk tm a n)=0
 ·unfold bg;rw [ifP h];exact H.post (by omega) h
 grind [bg]
end
end
def Be(m a:Int)(L:List Ob):Int:=if dS m a L<(aA L) then 0 else 8
def Bf(m a:Int)(L:List Ob):Int:=match L[dS m a L]? with
 |none=>0
 |some x=>x.size-x.done
theorem a6K {k:IntKind} {a b c d:Int}(h:a=c)(h':b=d):
 aU (bB #[aG k a,aG k b])=aU (bB #[aG k c,aG k d]):=by rw [h,h']
theorem a5O(L:List Ob)(m a:Int)(v:aN)(bs base:Nat)(w:aJ)(h:fX w bs base v L)(hL:sD L):
 aQ aM 119 #[π bs,ν m,ν a] w λe w'=>e=aU (bB #[ν (Bf m a L),ν (Be m a L)])/\β w w':=by
 have hl:aA L<=1000000:=by have:=hL.len;omega
 have HH:=η h;by_cases hi:dS m a L<aA L
 ·have HI:=η (V5 hi);have hE:Be m a L=0:=by unfold Be;rw [ifP hi]
  have hV:Bf m a L=L[dS m a L].size-L[dS m a L].done:=by unfold Bf;rw [iA hi]
  obtain⟨o1,o2,o3,o4,o5⟩:=hL.each _ (cK hi);have HE:=η hE;have HV:=η hV;generalize dS m a L=i at*;have cF:=η o1;have hs2:L[i].size<=9223372036854775807:=by unfold Ob.size;unfold fj at o1;split<;>omega
  go_enter aA3,aAq
  go_wp2_with fail
  refine(KC L m a v bs base _ HH.o hl).mono ?_;rintro e w1 ⟨rfl,hb1⟩;rw [HI.o];obtain⟨g,cap,rfl,hg,hgb,Ee,vK,d0,d1,d2,d3,d4,d5⟩:=KP (HH.o.below hb1) hi;have c0:=(HH.o.below hb1).c0;have Ek:=(HH.o.below hb1).lt;have aR:=η hb1;have hz1:=hb1.size;have hkb:(i:Int)<(aA L:Int):=by omega
  have eV:(0:Int)<=(i:Int):=by omega
  have yP:aF.wrap (L[i].size-L[i].done)=L[i].size-L[i].done:=sM _ (by omega);go_wp2_with fail
  go_region_held3 (λw'=>w'.cell? ⟨bs,0,aB⟩=aC (aH (aC ⟨g,0,aB⟩) (aA L) cap)/\w'.cell? ⟨g,i*6,aB⟩=aC (ν L[i].c)/\w'.cell? ⟨g,i*6+1,aB⟩=aC (ν L[i].m)/\w'.cell? ⟨g,i*6+2,aB⟩=aC (ν L[i].a)/\w'.cell? ⟨g,i*6+3,aB⟩=aC (ν L[i].az)/\w'.cell? ⟨g,i*6+4,aB⟩=aC (ν L[i].done)/\w'.cell? ⟨g,i*6+5,aB⟩=aC (ν L[i].st))
   (first|exact⟨c0,d0,d1,d2,d3,d4,d5⟩|exact⟨(hb2.cell (p:=⟨bs,0,aB⟩) Ek).trans c0,(hb2.cell (p:=⟨g,i*6,aB⟩) hg).trans d0,(hb2.cell (p:=⟨g,i*6+1,aB⟩) hg).trans d1,(hb2.cell (p:=⟨g,i*6+2,aB⟩) hg).trans d2,(hb2.cell (p:=⟨g,i*6+3,aB⟩) hg).trans d3,(hb2.cell (p:=⟨g,i*6+4,aB⟩) hg).trans d4,(hb2.cell (p:=⟨g,i*6+5,aB⟩) hg).trans d5⟩)
   (first|(go_at_call 176;refine(a5P L[i] _ cF.o o2).mono ?_;rintro e w2 ⟨rfl,BQ⟩;have hb2:β w1 w2:=((aX _ _).drew).trans BQ))
  have aV:=η hb2;go_wp2_with fail
  go_ret2;refine⟨a6K ?_ HE.o.symm,aR.o.trans (aV.o.mono hz1)⟩;rw [HV.o]
 have HI:=η (V6 hi);have hE:Be m a L=8:=by unfold Be;rw [ifN hi]
 have hV:Bf m a L=0:=by unfold Bf;rw [LN (by omega)]
 have HE:=η hE;have HV:=η hV;go_enter aA3,aAq
 go_wp2_with fail
 refine(KC L m a v bs base _ HH.o hl).mono ?_;rintro e w1 ⟨rfl,hb1⟩;rw [HI.o];have aR:=η hb1;go_wp2_with fail
 go_ret2;exact⟨a6K HV.o.symm HE.o.symm,aR.o⟩
theorem aq.cell {db:Nat} {p:Dp} {D:Dk} {w w':aJ}(h:aq db p D w w') {k:Nat}(o:Nat)(hk:k<w.heap.size)(hn:¬eY db p k):w'.cell? ⟨k,o,aB⟩=w.cell? ⟨k,o,aB⟩:=by obtain⟨p1,_,_,_,_,_,hu,_⟩:=h;exact hu.cell o hk hn
theorem bT.FH {w w':aJ} {db:Nat} {p:Dp} {D:Dk} {cQ:List Ob} {E:Int} {e:di}(H:bT w db p D)(h:GA p.sb 0 p.sv cQ E w e w'):e=aU (aG aF E)/\aq db p {D with ob:=cQ} w w':=by
 obtain⟨Rp,rfl,hs,ho,hf⟩:=h;refine⟨rfl, {p with sv:=Rp},H.aJz ho.upd hs,rfl,rfl,rfl,rfl,ho.upd.mono (λk hk=> .inl (.inr (.inr (.inl hk)))), ?_⟩;rintro k (e|e|(e|e)|e|e|e)
 ·exact .inl (.inl e)
 ·exact .inl (.inr (.inl e))
 ·exact .inl (.inr (.inr (.inl (.inl e))))
 ·exact(hf k e).imp (λh=> .inr (.inr (.inl (.inr h)))) id
 ·exact .inl (.inr (.inr (.inr (.inl e))))
 ·exact .inl (.inr (.inr (.inr (.inr (.inl e)))))
 exact .inl (.inr (.inr (.inr (.inr (.inr e)))))
def Bi(D:Dk)(m a E:Int)(cQ:List Ob):Int:=if oK D m a≠0 then oK D m a else if E≠0 then E else Be m a cQ
def Bj(D:Dk)(m a E:Int)(cQ:List Ob):Int:=if oK D m a≠0 then 0 else if E≠0 then 0 else Bf m a cQ
def pF(D:Dk)(m a n fk fm tk tm kd E:Int)(cQ:List Ob):Dk:=if oK D m a≠0 then D else if E≠0 then {D with ob:=cQ} else {D with ob:=cQ,l:=bg D fk fm tk tm a n,log:=D.log++ [⟨kd,m,a,n,0⟩]}
theorem aEX(db:Nat)(p:Dp)(D:Dk)(m a n fk fm tk tm kd E:Int)(cQ:List Ob)(w:aJ)(H:bT w db p D)(hO:fZ D)(hm:aL m)(ha:aL a)(hn:aL n)(hf:aL fk/\aL fm)(ht:aL tk/\aL tm)
 (El:sD cQ) (lf:E=0->0<=n) (hS:∀W,bT W db p D->aQ aM 60 #[bH (aC ⟨p.sb,0,aB⟩),aG aF m,aG aF a,aG aF n] W (GA p.sb 0 p.sv cQ E W)):
 aQ aM 59 #[bH (aC ⟨db,0,aB⟩),aG aF m,aG aF a,aG aF n,.func (.func 60) #[bH (aC ⟨p.sb,0,aB⟩)] #[],bO #[aG aF fk,aG aF fm],bO #[aG aF tk,aG aF tm],aG aF kd] w (CA db p (pF D m a n fk fm tk tm kd E cQ) (Bj D m a E cQ) (Bi D m a E cQ) w):=by
 have HE:Hid (Bi D m a E cQ=if oK D m a≠0 then oK D m a else if E≠0 then E else Be m a cQ):=η rfl;have HV:Hid (Bj D m a E cQ=if oK D m a≠0 then 0 else if E≠0 then 0 else Bf m a cQ):=η rfl;have qo:Hid (pF D m a n fk fm tk tm kd E cQ=if oK D m a≠0 then D else if E≠0 then {D with ob:=cQ} else {D with ob:=cQ,l:=bg D fk fm tk tm a n,log:=D.log++ [⟨kd,m,a,n,0⟩]}):=η rfl;have aY:Hid (aa w.heap.size w ((w.alloc (aK #[aG aF fk,aG aF fm] 51)).alloc (aK #[aG aF tk,aG aF tm] 51))):=η (σ.alloc (by simp) _);have qL:Hid (((w.alloc (aK #[aG aF fk,aG aF fm] 51)).alloc (aK #[aG aF tk,aG aF tm] 51)).heap[w.heap.size]? =aC (aK #[aG aF fk,aG aF fm] 51 (0,0))):=η ((fG _ _ (by simp)).trans (cT w _));have kJ:Hid (((w.alloc (aK #[aG aF fk,aG aF fm] 51)).alloc (aK #[aG aF tk,aG aF tm] 51)).heap[w.heap.size+1]? =aC (aK #[aG aF tk,aG aF tm] 51 (0,0))):=η (by have h:=cT (w.alloc (aK #[aG aF fk,aG aF fm] 51)) (aK #[aG aF tk,aG aF tm] 51);rwa [Cr] at h);have hz0:((w.alloc (aK #[aG aF fk,aG aF fm] 51)).alloc (aK #[aG aF tk,aG aF tm] 51)).heap.size=w.heap.size+2:=by simp
 have HF:=η H;have HO:=η hO;have uj:=η hS;have mW:Hid (∀k,eY db p k->k<w.heap.size):=η (λk hk=>H.uR hk);have jH:=η (H.below aY.o);have qJ:=η (a2Q db p D m a _ jH.o hm ha);have tq:=η El;have oP:=η lf;clear H hO hS El lf;generalize oK D m a=se at*;go_enter aAa,aBM
 go_upto_region 1 with (fail)
 generalize (w.alloc (aK #[aG aF fk,aG aF fm] 51)).alloc (aK #[aG aF tk,aG aF tm] 51)=w1 at*;obtain⟨bx,bQ⟩:∃bx,bx=w.heap.size:=⟨_,rfl⟩;have dN:=η bQ;rw [<-bQ] at qL kJ hz0 ⊢;clear bQ;go_upto_region 2 with (go_at_call 118;refine qJ.o.mono ?_;rintro e w2 ⟨rfl,hb2⟩;have aV:=η hb2;clear hb2)
 have cE:Hid (aa w.heap.size w w2):=η (aY.o.trans (aV.o.mono aY.o.size));have E9:Hid (w2.heap[bx]? =aC (aK #[aG aF fk,aG aF fm] 51 (0,0))):=η ((aV.o.block bx (by omega)).trans qL.o);have CY:Hid (w2.heap[bx+1]? =aC (aK #[aG aF tk,aG aF tm] 51 (0,0))):=η ((aV.o.block (bx+1) (by omega)).trans kJ.o);have hz2:bx+1<w2.heap.size:=by have:=aV.o.size;omega
 have cJ:=η (jH.o.below aV.o);clear jH aV qL kJ aY qJ hz0;by_cases h1:se=0
 case neg=>
  have hb:(se==0)=aP:=by simpa using h1
  have lz:Hid (se≠0):=η h1;clear h1;go_wp2_with fail
  go_ret2;refine⟨?_, ?_⟩
  ·rw [HE.o,HV.o,ifP lz.o,ifP lz.o];rfl
  rw [qo.o,ifP lz.o];exact aq.bV HF.o cE.o
 subst h1;rw [ifN (by simp)] at HE HV qo;have wM:=η (uj.o w2 cJ.o);go_upto_region 5 with (go_at_call 60;refine wM.o.mono ?_;intro e w3 h3;obtain⟨rfl,h4⟩:=cJ.o.FH h3;have oT:=η h4;clear h3 h4)
 have L6:Hid (aq db p {D with ob:=cQ} w w3):=η (aq.trans (bC.bV _ cE.o) (λ_ h=> .inl h) ⟨rfl,rfl,rfl,rfl⟩ oT.o);by_cases h2:E=0
 case neg=>
  have hb:(E==0)=aP:=by simpa using h2
  have lz:Hid (E≠0):=η h2;clear h2;go_wp2_with fail
  go_ret2;refine⟨?_, ?_⟩
  ·rw [HE.o,HV.o,ifP lz.o,ifP lz.o];rfl
  rw [qo.o,ifP lz.o];exact L6.o
 subst h2;rw [ifN (by simp)] at HE HV qo;have ju:=oP.o rfl;have bP:Hid (∀k,eY db p k->k<bx):=η (λk hk=>by rw [dN.o];exact mW.o k hk);have Fm:Hid (w3.heap[bx]? =aC (aK #[aG aF fk,aG aF fm] 51 (0,0))):=η (by obtain⟨_,_,_,_,_,_,hu,_⟩:=oT.o;exact(hu.keep bx (by omega) (λh=>by have:=bP.o _ h;omega)).trans E9.o);have y8:Hid (w3.heap[bx+1]? =aC (aK #[aG aF tk,aG aF tm] 51 (0,0))):=η (by obtain⟨_,_,_,_,_,_,hu,_⟩:=oT.o;exact(hu.keep (bx+1) hz2 (λh=>by have:=bP.o _ h;omega)).trans CY.o);have hz3:bx+1<w3.heap.size:=by obtain⟨_,_,_,_,_,_,hu,_⟩:=oT.o;have:=hu.size;omega
 obtain⟨p3,H3,e1,e2,e3,e4,px,hs3⟩:=oT.o;have wD:=η H3;have dt:Hid (∀W D2,aq db p3 D2 w3 W->aq db p D2 w W):=η (λW D2 h=>aq.trans (bC.bV _ cE.o) (λ_ h=> .inl h) ⟨rfl,rfl,rfl,rfl⟩ (aq.trans px hs3 ⟨e1,e2,e3,e4⟩ h));have yw:Hid (∀k,eY db p3 k->k≠bx/\k≠bx+1):=η (by
  intro k hk;rcases hs3 k hk with h|h
  ·have:=bP.o k h;omega
  omega)
 have Md:fZ {D with ob:=cQ}:=⟨HO.o.lI,HO.o.hl,HO.o.wl,HO.o.gl,tq.o,HO.o.bl,HO.o.st⟩;clear H3 e1 e2 e3 e4 px hs3 oT L6 cJ E9 CY hz2 cE bP mW wM uj oP;go_upto_region 7 with (fail)
 have lU:=η (Gd db p3 {D with ob:=cQ} fk fm tk tm a n w3.drew (wD.o.below (aX _ _).drew) Md hf ht ha hn ju);have d0:w3.drew.cell? ⟨db,8,aB⟩=aC (bH (aC ⟨p3.vb,0,aB⟩)):=wD.o.cells.c8;have d1:w3.drew.cell? ⟨bx,0,aB⟩=aC (aG aF fk):=ρ Fm.o;have d2:w3.drew.cell? ⟨bx,1,aB⟩=aC (aG aF fm):=ρ Fm.o;have d3:w3.drew.cell? ⟨bx+1,0,aB⟩=aC (aG aF tk):=ρ y8.o;have d4:w3.drew.cell? ⟨bx+1,1,aB⟩=aC (aG aF tm):=ρ y8.o;have hzd:bx+1<w3.drew.heap.size:=hz3;go_region_held3 (λW=>W.cell? ⟨db,8,aB⟩=aC (bH (aC ⟨p3.vb,0,aB⟩))/\W.cell? ⟨bx,0,aB⟩=aC (aG aF fk)/\W.cell? ⟨bx,1,aB⟩=aC (aG aF fm)/\W.cell? ⟨bx+1,0,aB⟩=aC (aG aF tk)/\W.cell? ⟨bx+1,1,aB⟩=aC (aG aF tm)) (first|(with_reducible exact⟨d0,d1,d2,d3,d4⟩)|(with_reducible exact⟨m0,m1,m2,m3,m4⟩)) ((go_at_call 87;refine lU.o.mono ?_;rintro e w7 ⟨rfl,dD,m0⟩;have m1:=(dD.cell 0 (by omega) (λh=>(yw.o bx h).1 rfl)).trans d1;have m2:=(dD.cell 1 (by omega) (λh=>(yw.o bx h).1 rfl)).trans d2;have m3:=(dD.cell 0 hzd (λh=>(yw.o (bx+1) h).2 rfl)).trans d3;have m4:=(dD.cell 1 hzd (λh=>(yw.o (bx+1) h).2 rfl)).trans d4))
 have gA:Hid (aq db p3 {D with ob:=cQ,l:=bg {D with ob:=cQ} fk fm tk tm a n} w3 w7):=η (aq.trans (bC.bV _ (aX _ _).drew) (λ_ h=> .inl h) ⟨rfl,rfl,rfl,rfl⟩ dD);clear dD m0 m1 m2 m3 m4 d0 d1 d2 d3 d4 hzd lU Fm y8 hz3 yw Md wD;obtain⟨p4,H4,e1,e2,e3,e4,py,jv⟩:=gA.o;have kU:=η (H4.below ((aX w7.heap.size w7).alloc (aZ _) (aK #[aG aF kd,aG aF m,aG aF a,aG aF n,aG aF 0] 45)));have kW:=η (wx db p4 {D with ob:=cQ,l:=bg {D with ob:=cQ} fk fm tk tm a n} [⟨kd,m,a,n,0⟩] w7.heap.size 1 _ kU.o (dM w7 45 #[aG aF kd,aG aF m,aG aF a,aG aF n,aG aF 0] rfl) (by simp) (by simp) (by have:=HO.o.gl;simp only;omega));have pO:Hid (∀W,aq db p4 {D with ob:=cQ,l:=bg {D with ob:=cQ} fk fm tk tm a n,log:=D.log++ [⟨kd,m,a,n,0⟩]} (w7.alloc (aK #[aG aF kd,aG aF m,aG aF a,aG aF n,aG aF 0] 45)) W->aq db p {D with ob:=cQ,l:=bg {D with ob:=cQ} fk fm tk tm a n,log:=D.log++ [⟨kd,m,a,n,0⟩]} w W):=η (λW h=>dt.o W _ (aq.trans py jv ⟨e1,e2,e3,e4⟩ (aq.trans (bC.bV _ σ) (λ_ h=> .inl h) ⟨rfl,rfl,rfl,rfl⟩ h)));clear H4 e1 e2 e3 e4 py jv gA;go_upto_region 9 with (go_at_call 55;refine kW.o.mono ?_;rintro e w8 ⟨rfl,h8⟩;have r9:=η (pO.o _ h8);clear h8)
 obtain⟨p5,h5,-⟩:=r9.o;have c9:=h5.cells.c9;have Su:=η (a5O cQ m a p5.sv p5.sb 0 w8 h5.sh tq.o);clear h5 pO kW kU dt;generalize Bf m a cQ=lv1 at*;generalize Be m a cQ=le1 at*;go_wp2_with (go_at_call 119;refine Su.o.mono ?_;rintro e w9 ⟨rfl,gF⟩;have Fb:=η (r9.o.below gF);clear gF)
 go_ret2;refine⟨?_, ?_⟩
 ·rw [HE.o,HV.o];rfl
 rw [qo.o];exact Fb.o
theorem aEY(db:Nat)(p:Dp)(D:Dk)(m a n fk fm tk tm kd E:Int)(cQ:List Ob)(w:aJ)(H:bT w db p D)(hO:fZ D)(hm:aL m)(ha:aL a)(hn:aL n)(hf:aL fk/\aL fm)(ht:aL tk/\aL tm)
 (El:sD cQ) (lf:E=0->0<=n) (hS:∀W,bT W db p D->aQ aM 84 #[bH (aC ⟨p.sb,0,aB⟩),aG aF m,aG aF a,aG aF n] W (GA p.sb 0 p.sv cQ E W)):
 aQ aM 59 #[bH (aC ⟨db,0,aB⟩),aG aF m,aG aF a,aG aF n,.func (.func 84) #[bH (aC ⟨p.sb,0,aB⟩)] #[],bO #[aG aF fk,aG aF fm],bO #[aG aF tk,aG aF tm],aG aF kd] w (CA db p (pF D m a n fk fm tk tm kd E cQ) (Bj D m a E cQ) (Bi D m a E cQ) w):=by
 have HE:Hid (Bi D m a E cQ=if oK D m a≠0 then oK D m a else if E≠0 then E else Be m a cQ):=η rfl;have HV:Hid (Bj D m a E cQ=if oK D m a≠0 then 0 else if E≠0 then 0 else Bf m a cQ):=η rfl;have qo:Hid (pF D m a n fk fm tk tm kd E cQ=if oK D m a≠0 then D else if E≠0 then {D with ob:=cQ} else {D with ob:=cQ,l:=bg D fk fm tk tm a n,log:=D.log++ [⟨kd,m,a,n,0⟩]}):=η rfl;have aY:Hid (aa w.heap.size w ((w.alloc (aK #[aG aF fk,aG aF fm] 51)).alloc (aK #[aG aF tk,aG aF tm] 51))):=η (σ.alloc (by simp) _);have qL:Hid (((w.alloc (aK #[aG aF fk,aG aF fm] 51)).alloc (aK #[aG aF tk,aG aF tm] 51)).heap[w.heap.size]? =aC (aK #[aG aF fk,aG aF fm] 51 (0,0))):=η ((fG _ _ (by simp)).trans (cT w _));have kJ:Hid (((w.alloc (aK #[aG aF fk,aG aF fm] 51)).alloc (aK #[aG aF tk,aG aF tm] 51)).heap[w.heap.size+1]? =aC (aK #[aG aF tk,aG aF tm] 51 (0,0))):=η (by have h:=cT (w.alloc (aK #[aG aF fk,aG aF fm] 51)) (aK #[aG aF tk,aG aF tm] 51);rwa [Cr] at h);have hz0:((w.alloc (aK #[aG aF fk,aG aF fm] 51)).alloc (aK #[aG aF tk,aG aF tm] 51)).heap.size=w.heap.size+2:=by simp
 have HF:=η H;have HO:=η hO;have uj:=η hS;have mW:Hid (∀k,eY db p k->k<w.heap.size):=η (λk hk=>H.uR hk);have jH:=η (H.below aY.o);have qJ:=η (a2Q db p D m a _ jH.o hm ha);have tq:=η El;have oP:=η lf;clear H hO hS El lf;generalize oK D m a=se at*;go_enter aAa,aBM
 go_upto_region 1 with (fail)
 generalize (w.alloc (aK #[aG aF fk,aG aF fm] 51)).alloc (aK #[aG aF tk,aG aF tm] 51)=w1 at*;obtain⟨bx,bQ⟩:∃bx,bx=w.heap.size:=⟨_,rfl⟩;have dN:=η bQ;rw [<-bQ] at qL kJ hz0 ⊢;clear bQ;go_upto_region 2 with (go_at_call 118;refine qJ.o.mono ?_;rintro e w2 ⟨rfl,hb2⟩;have aV:=η hb2;clear hb2)
 have cE:Hid (aa w.heap.size w w2):=η (aY.o.trans (aV.o.mono aY.o.size));have E9:Hid (w2.heap[bx]? =aC (aK #[aG aF fk,aG aF fm] 51 (0,0))):=η ((aV.o.block bx (by omega)).trans qL.o);have CY:Hid (w2.heap[bx+1]? =aC (aK #[aG aF tk,aG aF tm] 51 (0,0))):=η ((aV.o.block (bx+1) (by omega)).trans kJ.o);have hz2:bx+1<w2.heap.size:=by have:=aV.o.size;omega
 have cJ:=η (jH.o.below aV.o);clear jH aV qL kJ aY qJ hz0;by_cases h1:se=0
 case neg=>
  have hb:(se==0)=aP:=by simpa using h1
  have lz:Hid (se≠0):=η h1;clear h1;go_wp2_with fail
  go_ret2;refine⟨?_, ?_⟩
  ·rw [HE.o,HV.o,ifP lz.o,ifP lz.o];rfl
  rw [qo.o,ifP lz.o];exact aq.bV HF.o cE.o
 subst h1;rw [ifN (by simp)] at HE HV qo;have wM:=η (uj.o w2 cJ.o);go_upto_region 5 with (go_at_call 84;refine wM.o.mono ?_;intro e w3 h3;obtain⟨rfl,h4⟩:=cJ.o.FH h3;have oT:=η h4;clear h3 h4)
 have L6:Hid (aq db p {D with ob:=cQ} w w3):=η (aq.trans (bC.bV _ cE.o) (λ_ h=> .inl h) ⟨rfl,rfl,rfl,rfl⟩ oT.o);by_cases h2:E=0
 case neg=>
  have hb:(E==0)=aP:=by simpa using h2
  have lz:Hid (E≠0):=η h2;clear h2;go_wp2_with fail
  go_ret2;refine⟨?_, ?_⟩
  ·rw [HE.o,HV.o,ifP lz.o,ifP lz.o];rfl
  rw [qo.o,ifP lz.o];exact L6.o
 subst h2;rw [ifN (by simp)] at HE HV qo;have ju:=oP.o rfl;have bP:Hid (∀k,eY db p k->k<bx):=η (λk hk=>by rw [dN.o];exact mW.o k hk);have Fm:Hid (w3.heap[bx]? =aC (aK #[aG aF fk,aG aF fm] 51 (0,0))):=η (by obtain⟨_,_,_,_,_,_,hu,_⟩:=oT.o;exact(hu.keep bx (by omega) (λh=>by have:=bP.o _ h;omega)).trans E9.o);have y8:Hid (w3.heap[bx+1]? =aC (aK #[aG aF tk,aG aF tm] 51 (0,0))):=η (by obtain⟨_,_,_,_,_,_,hu,_⟩:=oT.o;exact(hu.keep (bx+1) hz2 (λh=>by have:=bP.o _ h;omega)).trans CY.o);have hz3:bx+1<w3.heap.size:=by obtain⟨_,_,_,_,_,_,hu,_⟩:=oT.o;have:=hu.size;omega
 obtain⟨p3,H3,e1,e2,e3,e4,px,hs3⟩:=oT.o;have wD:=η H3;have dt:Hid (∀W D2,aq db p3 D2 w3 W->aq db p D2 w W):=η (λW D2 h=>aq.trans (bC.bV _ cE.o) (λ_ h=> .inl h) ⟨rfl,rfl,rfl,rfl⟩ (aq.trans px hs3 ⟨e1,e2,e3,e4⟩ h));have yw:Hid (∀k,eY db p3 k->k≠bx/\k≠bx+1):=η (by
  intro k hk;rcases hs3 k hk with h|h
  ·have:=bP.o k h;omega
  omega)
 have Md:fZ {D with ob:=cQ}:=⟨HO.o.lI,HO.o.hl,HO.o.wl,HO.o.gl,tq.o,HO.o.bl,HO.o.st⟩;clear H3 e1 e2 e3 e4 px hs3 oT L6 cJ E9 CY hz2 cE bP mW wM uj oP;go_upto_region 7 with (fail)
 have lU:=η (Gd db p3 {D with ob:=cQ} fk fm tk tm a n w3.drew (wD.o.below (aX _ _).drew) Md hf ht ha hn ju);have d0:w3.drew.cell? ⟨db,8,aB⟩=aC (bH (aC ⟨p3.vb,0,aB⟩)):=wD.o.cells.c8;have d1:w3.drew.cell? ⟨bx,0,aB⟩=aC (aG aF fk):=ρ Fm.o;have d2:w3.drew.cell? ⟨bx,1,aB⟩=aC (aG aF fm):=ρ Fm.o;have d3:w3.drew.cell? ⟨bx+1,0,aB⟩=aC (aG aF tk):=ρ y8.o;have d4:w3.drew.cell? ⟨bx+1,1,aB⟩=aC (aG aF tm):=ρ y8.o;have hzd:bx+1<w3.drew.heap.size:=hz3;go_region_held3 (λW=>W.cell? ⟨db,8,aB⟩=aC (bH (aC ⟨p3.vb,0,aB⟩))/\W.cell? ⟨bx,0,aB⟩=aC (aG aF fk)/\W.cell? ⟨bx,1,aB⟩=aC (aG aF fm)/\W.cell? ⟨bx+1,0,aB⟩=aC (aG aF tk)/\W.cell? ⟨bx+1,1,aB⟩=aC (aG aF tm)) (first|(with_reducible exact⟨d0,d1,d2,d3,d4⟩)|(with_reducible exact⟨m0,m1,m2,m3,m4⟩)) ((go_at_call 87;refine lU.o.mono ?_;rintro e w7 ⟨rfl,dD,m0⟩;have m1:=(dD.cell 0 (by omega) (λh=>(yw.o bx h).1 rfl)).trans d1;have m2:=(dD.cell 1 (by omega) (λh=>(yw.o bx h).1 rfl)).trans d2;have m3:=(dD.cell 0 hzd (λh=>(yw.o (bx+1) h).2 rfl)).trans d3;have m4:=(dD.cell 1 hzd (λh=>(yw.o (bx+1) h).2 rfl)).trans d4))
 have gA:Hid (aq db p3 {D with ob:=cQ,l:=bg {D with ob:=cQ} fk fm tk tm a n} w3 w7):=η (aq.trans (bC.bV _ (aX _ _).drew) (λ_ h=> .inl h) ⟨rfl,rfl,rfl,rfl⟩ dD);clear dD m0 m1 m2 m3 m4 d0 d1 d2 d3 d4 hzd lU Fm y8 hz3 yw Md wD;obtain⟨p4,H4,e1,e2,e3,e4,py,jv⟩:=gA.o;have kU:=η (H4.below ((aX w7.heap.size w7).alloc (aZ _) (aK #[aG aF kd,aG aF m,aG aF a,aG aF n,aG aF 0] 45)));have kW:=η (wx db p4 {D with ob:=cQ,l:=bg {D with ob:=cQ} fk fm tk tm a n} [⟨kd,m,a,n,0⟩] w7.heap.size 1 _ kU.o (dM w7 45 #[aG aF kd,aG aF m,aG aF a,aG aF n,aG aF 0] rfl) (by simp) (by simp) (by have:=HO.o.gl;simp only;omega));have pO:Hid (∀W,aq db p4 {D with ob:=cQ,l:=bg {D with ob:=cQ} fk fm tk tm a n,log:=D.log++ [⟨kd,m,a,n,0⟩]} (w7.alloc (aK #[aG aF kd,aG aF m,aG aF a,aG aF n,aG aF 0] 45)) W->aq db p {D with ob:=cQ,l:=bg {D with ob:=cQ} fk fm tk tm a n,log:=D.log++ [⟨kd,m,a,n,0⟩]} w W):=η (λW h=>dt.o W _ (aq.trans py jv ⟨e1,e2,e3,e4⟩ (aq.trans (bC.bV _ σ) (λ_ h=> .inl h) ⟨rfl,rfl,rfl,rfl⟩ h)));clear H4 e1 e2 e3 e4 py jv gA;go_upto_region 9 with (go_at_call 55;refine kW.o.mono ?_;rintro e w8 ⟨rfl,h8⟩;have r9:=η (pO.o _ h8);clear h8)
 obtain⟨p5,h5,-⟩:=r9.o;have c9:=h5.cells.c9;have Su:=η (a5O cQ m a p5.sv p5.sb 0 w8 h5.sh tq.o);clear h5 pO kW kU dt;generalize Bf m a cQ=lv1 at*;generalize Be m a cQ=le1 at*;go_wp2_with (go_at_call 119;refine Su.o.mono ?_;rintro e w9 ⟨rfl,gF⟩;have Fb:=η (r9.o.below gF);clear gF)
 go_ret2;refine⟨?_, ?_⟩
 ·rw [HE.o,HV.o];rfl
 rw [qo.o];exact Fb.o
theorem aq.c9 {db:Nat} {p:Dp} {D:Dk} {w w':aJ}(h:aq db p D w w'):w'.cell? ⟨db,9,aB⟩=aC (bH (aC ⟨p.sb,0,aB⟩)):=by obtain⟨p1,H1,_,e2,_⟩:=h;rw [<-e2];exact H1.cells.c9
theorem aIl {m a n:Int} {L:List Ob}(h:ir m a n L=0):0<=n:=by
 unfold ir at h;split at h
 ·cases h
 split at h
 ·cases h
 split at h
 ·cases h
 omega
theorem aKg {m a n:Int} {L:List Ob}(h:l8 m a n L=0):0<=n:=by
 unfold l8 at h;split at h
 ·cases h
 split at h
 ·cases h
 split at h
 ·cases h
 omega
def Jd(D:Dk)(er:Int):Int:=if D.st=1 then er else 11
def Je(D:Dk)(v:Int):Int:=if D.st=1 then v else 0
def zZ(D D':Dk):Dk:=if D.st=1 then D' else D
theorem a2A(db:Nat)(p:Dp)(D:Dk)(m a n:Int)(w:aJ)(H:bT w db p D)(hO:fZ D)(hm:aL m)(ha:aL a)(hn:aL n):
 aQ aM 27 #[π db,ν m,ν a,ν n] w (CA db p (zZ D (pF D m a n 7 m 1 0 5 (ir m a n D.ob) (kR m a n D.ob))) (Je D (Bj D m a (ir m a n D.ob) (kR m a n D.ob))) (Jd D (Bi D m a (ir m a n D.ob) (kR m a n D.ob))) w):=by
 have hb0:β w (w.alloc (aK #[ν 1] 3)):=(aX _ _).alloc (aZ _) _;have jI:=η (JY db p D 1 (aC ⟨w.heap.size,0,aB⟩) 1 _ (H.below hb0) (λj u hu=>⟨w.heap.size,0,rfl,by simp,by
  match j,hu with
  |0,hu=>exact(cM w #[ν 1] 3 0 rfl).trans (by simpa using hu)
  |j+1,hu=>simp at hu⟩))
 have lU:=η (λW (hW:β w W)=>aEX db p D m a n 7 m 1 0 5 (ir m a n D.ob) (kR m a n D.ob) W (H.below hW) hO hm ha hn ⟨by decide,hm⟩ ⟨by decide,by decide⟩ (aF8 m a n hO.ob).1 aIl (λW' EY=>aI2 D.ob m a n p.sv p.sb 0 W' EY.sh hO.ob hn.2));have HF:=η H;have aY:=η hb0;unfold zZ Je Jd;generalize pF D m a n 7 m 1 0 5 (ir m a n D.ob) (kR m a n D.ob)=D' at*;generalize Bj D m a (ir m a n D.ob) (kR m a n D.ob)=mv at*;generalize Bi D m a (ir m a n D.ob) (kR m a n D.ob)=me at*;by_cases h1:D.st=1
 case neg=>
  rw [ifN h1] at jI ⊢;rw [ifN h1,ifN h1];go_enter aAQ,aBD
  go_wp2_with (go_at_call 51;refine κ jI.o aY λw1 aR=> ?_)
  go_ret2;exact⟨rfl,aq.bV HF.o aR.o⟩
 rw [ifP h1] at jI ⊢;rw [ifP h1,ifP h1];go_enter aAQ,aBD
 go_upto_region 4 with (go_at_call 51;refine κ jI.o aY λw4 ar=> ?_)
 have lF:=η (HF.o.below ar.o);have bW:=η (λW (hW:β w4 W)=>(lF.o.below hW).cells.c9);have eJ:=η (λW (hW:β w4 W)=>lU.o W (ar.o.trans (hW.mono ar.o.size)));have bU:β w4 w4.drew:=(aX _ _).drew;have hdd:=bW.o _ bU;go_region_held3 (λW=>W.cell? ⟨db,9,aB⟩=aC (π p.sb)) (first|(with_reducible assumption)) (first|(go_at_call 61;refine(wY _).mono ?_;rintro e w5 ⟨rfl,gG⟩;have pd:β w4 w5:=jl (by with_reducible assumption) (gG.mono (gS (by with_reducible assumption)));have hcc:=bW.o _ pd)|(go_at_call 49;refine(EM m _).mono ?_;rintro e w6 ⟨rfl,tD⟩;have xC:β w4 w6:=jl (by with_reducible assumption) (tD.mono (gS (by with_reducible assumption)));have qW:=bW.o _ xC)|(go_at_call 59;refine(eJ.o _ (by with_reducible assumption)).mono ?_;rintro e w7 ⟨rfl,dD⟩;have hcm:=dD.c9))
 all_goals
  have gA:Hid (aq db p D' w w7):=η (aq.trans (bC.bV _ (ar.o.trans (Below.mono (by with_reducible assumption) ar.o.size))) (λ_ h=> .inl h) ⟨rfl,rfl,rfl,rfl⟩ dD);go_wp2
  go_ret2;exact⟨rfl,gA.o⟩
theorem aEG(db:Nat)(p:Dp)(D:Dk)(m a n:Int)(w:aJ)(H:bT w db p D)(hO:fZ D)(hm:aL m)(ha:aL a)(hn:aL n):
 aQ aM 35 #[π db,ν m,ν a,ν n] w (CA db p (zZ D (pF D m a n 1 0 7 m 6 (l8 m a n D.ob) (ni m a n D.ob))) (Je D (Bj D m a (l8 m a n D.ob) (ni m a n D.ob))) (Jd D (Bi D m a (l8 m a n D.ob) (ni m a n D.ob))) w):=by
 have hb0:β w (w.alloc (aK #[ν 1] 3)):=(aX _ _).alloc (aZ _) _;have jI:=η (JY db p D 1 (aC ⟨w.heap.size,0,aB⟩) 1 _ (H.below hb0) (λj u hu=>⟨w.heap.size,0,rfl,by simp,by
  match j,hu with
  |0,hu=>exact(cM w #[ν 1] 3 0 rfl).trans (by simpa using hu)
  |j+1,hu=>simp at hu⟩))
 have lU:=η (λW (hW:β w W)=>aEY db p D m a n 1 0 7 m 6 (l8 m a n D.ob) (ni m a n D.ob) W (H.below hW) hO hm ha hn ⟨by decide,by decide⟩ ⟨by decide,hm⟩ (aF9 m a n hO.ob).1 aKg (λW' EY=>aI3 D.ob m a n p.sv p.sb 0 W' EY.sh hO.ob hn.2));have HF:=η H;have aY:=η hb0;unfold zZ Je Jd;generalize pF D m a n 1 0 7 m 6 (l8 m a n D.ob) (ni m a n D.ob)=D' at*;generalize Bj D m a (l8 m a n D.ob) (ni m a n D.ob)=mv at*;generalize Bi D m a (l8 m a n D.ob) (ni m a n D.ob)=me at*;by_cases h1:D.st=1
 case neg=>
  rw [ifN h1] at jI ⊢;rw [ifN h1,ifN h1];go_enter aAX,aBI
  go_wp2_with (go_at_call 51;refine κ jI.o aY λw1 aR=> ?_)
  go_ret2;exact⟨rfl,aq.bV HF.o aR.o⟩
 rw [ifP h1] at jI ⊢;rw [ifP h1,ifP h1];go_enter aAX,aBI
 go_upto_region 4 with (go_at_call 51;refine κ jI.o aY λw4 ar=> ?_)
 have lF:=η (HF.o.below ar.o);have bW:=η (λW (hW:β w4 W)=>(lF.o.below hW).cells.c9);have eJ:=η (λW (hW:β w4 W)=>lU.o W (ar.o.trans (hW.mono ar.o.size)));have bU:β w4 w4.drew:=(aX _ _).drew;have hdd:=bW.o _ bU;go_region_held3 (λW=>W.cell? ⟨db,9,aB⟩=aC (π p.sb)) (first|(with_reducible assumption)) (first|(go_at_call 61;refine(wY _).mono ?_;rintro e w5 ⟨rfl,gG⟩;have pd:β w4 w5:=jl (by with_reducible assumption) (gG.mono (gS (by with_reducible assumption)));have hcc:=bW.o _ pd)|(go_at_call 49;refine(EM m _).mono ?_;rintro e w6 ⟨rfl,tD⟩;have xC:β w4 w6:=jl (by with_reducible assumption) (tD.mono (gS (by with_reducible assumption)));have qW:=bW.o _ xC)|(go_at_call 59;refine(eJ.o _ (by with_reducible assumption)).mono ?_;rintro e w7 ⟨rfl,dD⟩;have hcm:=dD.c9))
 all_goals
  have gA:Hid (aq db p D' w w7):=η (aq.trans (bC.bV _ (ar.o.trans (Below.mono (by with_reducible assumption) ar.o.size))) (λ_ h=> .inl h) ⟨rfl,rfl,rfl,rfl⟩ dD);go_wp2
  go_ret2;exact⟨rfl,gA.o⟩
def IM(L:List Lg)(a:Int):Bool:=decide (AK L a≠0)||(decide (kS L a>kQ a)||decide (mS L a>kQ a))
def qC(L:List Lg):List Nat->Int->Int
 | [],r=>r
 |a::ks,r=>if IM L (a:Int)=aO then 2 else if kS L (a:Int)=mS L (a:Int) then qC L ks r else qC L ks 17
theorem aJG(A k:Nat)(h:k<A):(dQ A).drop k=k::(dQ A).drop (k+1):=by rw [JF (by simpa using h)];simp
theorem aEi(db:Nat)(p:Dp)(D:Dk)(L:List Lg)(A:Option ai)(c:Nat)(w:aJ)(H:bT w db p D)(hs:aW w w.heap.size A (bA L))(hl:aA L<=100000)(hI:∀x∈L,aL x.n)(QY:aA D.x.ss<=100000):
 aQ aM 53 #[π db,aH A (aA L) c] w λe w'=>e=aU (ν (qC L (dQ (aA D.x.ss+1)) 0))/\β w w':=by
 have qJ:=η (λW (hW:β w W) (k:Nat)=>aHs L (k:Int) A c W ((hs.below hW).mono hW.size) hl hI);have c1:=H.cells.c1;obtain⟨ee,he⟩:=xq (qC L (dQ (aA D.x.ss+1)) 0);rw [<-he];have wC:Hid (qC L ((dQ (aA D.x.ss+1)).drop 0) 0=ee):=η (by rw [he,List.drop_zero]);have aY:Hid (β w w):=η (aX _ _);generalize (aA D.x.ss)=n at*;go_enter func53,ntmps53
 go_wp2
 go_loopw [5,6,7,8,9,17] (λr _ _ _ _ i wr=>∃(k:Nat) (z:Int),k<=n+1/\i=ν (k:Int)/\r=ν z/\Hid (qC L ((dQ (n+1)).drop k) z=ee)/\Hid (β w wr)) (λ_ _ _ _ _ i _=>n+1-(ag i).toNat)
 ·exact⟨0,0,bL _,rfl,rfl,wC,aY⟩
 ·
  obtain⟨k,z,hk,rfl,rfl,HK,HB⟩:=hrel;by_cases hlt:k<n+1
  ·have rS:(k:Int)<(n:Int)+1:=by omega
   have HN:=η (qJ.o wr HB.o k);have lT:Hid ((if IM L (k:Int)=aO then 2 else if kS L (k:Int)=mS L (k:Int) then qC L ((dQ (n+1)).drop (k+1)) z else qC L ((dQ (n+1)).drop (k+1)) 17)=ee):=η (by rw [<-HK.o,aJG _ _ hlt];rfl);have HW:Hid (IM L (k:Int)=(decide (AK L (k:Int)≠0)||(decide (kS L (k:Int)>kQ (k:Int))||decide (mS L (k:Int)>kQ (k:Int))))):=η rfl;have uh:=η (λW=>aDg (k:Int) W);unfold YY at HN;generalize IM L (k:Int)=wb at*;generalize AK L (k:Int)=se at*;generalize kS L (k:Int)=so at*;generalize mS L (k:Int)=sc at*;generalize kQ (k:Int)=mo at*;by_cases h1:se=0
   ·subst h1;rw [ifP rfl,ifP rfl] at HN;by_cases h2:so>mo
    ·have HF:Hid (2=ee):=η (by rw [<-lT.o,HW.o,ifP (by simp [h2])]);go_wp2_with (first|(go_at_call 105;refine κ HN.o HB λw1 aR=> ?_)|(go_at_call 106;refine(uh.o _).mono ?_;rintro e w2 ⟨rfl,rfl⟩))
     go_ret;exact⟨cY HF.o,aR.o⟩
    by_cases h3:sc>mo
    ·have HF:Hid (2=ee):=η (by rw [<-lT.o,HW.o,ifP (by simp [h3])]);go_wp2_with (first|(go_at_call 105;refine κ HN.o HB λw1 aR=> ?_)|(go_at_call 106;refine(uh.o _).mono ?_;rintro e w2 ⟨rfl,rfl⟩))
     go_ret;exact⟨cY HF.o,aR.o⟩
    have HWF:Hid (wb=aP):=η (by rw [HW.o];simp;omega);rw [HWF.o,ifN (by simp)] at lT;by_cases h4:so=sc
    ·subst h4;rw [ifP rfl] at lT;go_wp2_with (first|(go_at_call 105;refine κ HN.o HB λw1 aR=> ?_)|(go_at_call 106;refine(uh.o _).mono ?_;rintro e w2 ⟨rfl,rfl⟩))
     go_roundw
     ·exact⟨k+1,z,by omega,by go_num,rfl,lT,aR⟩
     simp [ag];omega
    rw [ifN h4] at lT;go_wp2_with (first|(go_at_call 105;refine κ HN.o HB λw1 aR=> ?_)|(go_at_call 106;refine(uh.o _).mono ?_;rintro e w2 ⟨rfl,rfl⟩))
    go_roundw
    ·exact⟨k+1,17,by omega,by go_num,rfl,lT,aR⟩
    simp [ag];omega
   have hb:(se==0)=aP:=by simpa using h1
   rw [ifN h1,ifN h1] at HN;have HF:Hid (2=ee):=η (by rw [<-lT.o,HW.o,ifP (by simp [h1])]);go_wp2_with (first|(go_at_call 105;refine κ HN.o HB λw1 aR=> ?_)|(go_at_call 106;refine(uh.o _).mono ?_;rintro e w2 ⟨rfl,rfl⟩))
   go_ret;exact⟨cY HF.o,aR.o⟩
  obtain rfl:k=n+1:=by omega
  have HF:Hid (z=ee):=η (by rw [<-HK.o,List.drop_of_length_le (by simp)];rfl);rw [show ((n+1:Nat):Int)=(n:Int)+1 by omega];go_wp2
  go_ret;exact⟨cY HF.o,HB.o⟩
theorem Um(L:List Lg)(A:Option ai)(c:Nat)(w:aJ)(hs:aW w w.heap.size A (bA L))(hI:∀x∈L,aL x.n)(hl:aA L<=100000):
 aQ aM 67 #[aH A (aA L) c] w λe w'=>e=aU (ν (iO L))/\β w w':=by
 have HS:=η (PC L A c w hs hI hl);generalize iO L=sv at*;generalize dA L=se at*;go_enter func67,ntmps67
 go_wp2_with (go_at_call 129;refine lu HS.o λw1 aR=> ?_)
 go_ret;exact⟨rfl,aR⟩
def K6(D:Dk)(n:Int):Int:=pG n (balA (aA D.x.ms) (aA D.x.ss+1) D.l 1 0 0)
theorem a2K(db:Nat)(p:Dp)(D:Dk)(n:Int)(w:aJ)(H:bT w db p D)(hn:aL n)(hb:aL (balA (aA D.x.ms) (aA D.x.ss+1) D.l 1 0 0)):
 aQ aM 66 #[π db,ν n] w λe w'=>e=aU (ν (K6 D n))/\β w w':=by
 have ew:=η (λW (hW:β w W)=>zW db p D 1 0 0 W (H.below hW) (by decide) (by decide));have yx:=η (λW=>Ul n (balA (aA D.x.ms) (aA D.x.ss+1) D.l 1 0 0) hn hb W);unfold K6;generalize balA (aA D.x.ms) (aA D.x.ss+1) D.l 1 0 0=bq at*;generalize pG n bq=ov at*;go_enter func66,ntmps66
 go_wp2_with (first|(go_at_call 61;refine lu (wY _) λw2 aV=> ?_)|(go_at_call 46;refine κ (ew.o _ aV.o) aV λw3 af=> ?_)|(go_at_call 86;refine κ (yx.o _) af λw4 ar=> ?_))
 go_ret;exact⟨rfl,ar⟩
def dg(D:Dk)(a:Int):List Lg:=(D.ob.filter λx=>x.st==1&&sZ (ow a D.who) x).map Ob.claim
theorem Lt(db:Nat)(p:Dp)(D:Dk)(a:Int)(w:aJ)(H:bT w db p D)(hO:fZ D):
 aQ aM 68 #[π db,ν a] w (SL w (dg D a)):=by
 have mH:aA D.ob<=1000000:=by have:=hO.ob.len;omega
 have AV:=η (λW (hW:β w W)=>N8 D.ob p.sv p.sb 0 W (H.below hW).sh mH);obtain⟨Aw,cw,hv⟩:=bJ H.who;have sL:=η (λW (hW:β w W)=>(show aW W W.heap.size Aw (D.who.map (aG aF)) by have h1:=(H.below hW).who;rw [hv] at h1;exact aW.cA h1));have bW:=η (λW (hW:β w W)=>(show W.cell? ⟨db,9,aB⟩=aC (π p.sb)/\W.cell? ⟨db,11,aB⟩=aC (aH Aw (aA D.who) cw) from⟨(H.below hW).cells.c9,by rw [<-hv];exact(H.below hW).cells.c11⟩));have HI:Hid (∀x∈D.ob,aL x.az):=η (λx hx=>by have h:=hO.ob.each x hx;have h1:=h.lo;have h2:=h.hi;unfold fj at h1;unfold aL;omega);have Jz:aA D.who<=1000000:=by have:=hO.wl;omega
 go_enter func68,ntmps68
 go_upto_region 1 with (fail)
 have bU:β w w.drew:=(aX _ _).drew;have hdd:=bW.o _ bU;go_region_held3 (λW=>W.cell? ⟨db,9,aB⟩=aC (π p.sb)/\W.cell? ⟨db,11,aB⟩=aC (aH Aw (aA D.who) cw)) (first|(with_reducible assumption)) (first|(go_at_call 43;refine(AV.o _ ‹_›).mono ?_;rintro e w1 ⟨v1,rfl,eR,hb1⟩;obtain⟨A1,c1,zv⟩:=bJ eR;subst zv;have eH:β w w1:=jl ‹_› (hb1.mono (gS ‹_›));have hcc:=bW.o _ eH)|(go_at_call 130;refine(aFQ D.ob A1 c1 a D.who Aw cw _ (aW.cA eR) mH HI.o (sL.o _ eH) Jz).mono ?_;rintro e w2 hg2;obtain⟨v2,h21,h22,h23⟩:=hg2;subst h21;have hb2:=eH.trans (h23.mono eH.size);have hc2:=bW.o _ hb2))
 all_goals
  have dB:=η h22;have aV:=η hb2;have hz2:=eH.size;go_wp2
  go_ret;exact⟨v2,rfl,jT dB.o hz2,aV.o⟩
theorem Pn(D:Dk)(a:Int):aA (dg D a)<=aA D.ob:=by unfold dg;rw [iK];exact qN _ _
theorem M9 {D:Dk}(h:sD D.ob)(a:Int):∀x∈dg D a,aL x.n:=by intro x hx;unfold dg at hx;obtain⟨y,hy,rfl⟩:=dV.1 hx;have h0:=h.each y (j6.1 hy).1;have h1:=h0.lo;have h2:=h0.hi;unfold Ob.claim aL;unfold fj at*;simp only;split<;>omega
theorem Ro(L:List Lg):aL (iO L):=by
 unfold iO;split
 ·rename_i h;exact(BJ h).2.2
 decide
def yF(D:Dk):Int:=pG (balA (aA D.x.ms) (aA D.x.ss+1) D.l 1 0 0) (iO (dg D 0))
def jE(D:Dk)(a:Int):Int:=AJ (balA (aA D.x.ms) (aA D.x.ss+1) D.l 1 0 a) (dg D a)
theorem aEK(db:Nat)(p:Dp)(D:Dk)(w:aJ)(H:bT w db p D)(hO:fZ D)(hb:aL (balA (aA D.x.ms) (aA D.x.ss+1) D.l 1 0 0)):
 aQ aM 135 #[π db] w λe w'=>e=aU (ν (yF D))/\β w w':=by
 have ew:=η (λW (hW:β w W)=>zW db p D 1 0 0 W (H.below hW) (by decide) (by decide));have xe:=η (λW (hW:β w W)=>Lt db p D 0 W (H.below hW) hO);have yx:=η (λW=>Ul (balA (aA D.x.ms) (aA D.x.ss+1) D.l 1 0 0) (iO (dg D 0)) hb (Ro _) W);have CL:=η (M9 hO.ob 0);have jQ:aA (dg D 0)<=100000:=by have h1:=Pn D 0;have h2:=hO.ob.len;omega
 unfold yF;generalize balA (aA D.x.ms) (aA D.x.ss+1) D.l 1 0 0=bq at*;generalize dg D 0=L at*;have LB:=η (λW A c (hs:aW W W.heap.size A (bA L))=>Um L A c W hs CL jQ);generalize iO L=sv at*;generalize pG bq sv=ov at*;go_enter func135,ntmps135
 go_wp2_with (first|(go_at_call 61;refine lu (wY _) λw2 aV=> ?_)|(go_at_call 46;refine κ (ew.o _ aV.o) aV λw3 af=> ?_)|(go_at_call 68;refine(xe _ af).mono ?_;rintro e w4 ⟨v4,rfl,gL,hb4⟩;have ar:=τ af hb4;obtain⟨A4,c4,hv4⟩:=bJ gL;subst hv4;have dU:=η (aW.cA gL))|(go_at_call 67;refine κ (LB.o _ _ _ dU.o) ar λw5 cz=> ?_)|(go_at_call 86;refine κ (yx.o _) cz λw6 gz=> ?_))
 go_ret;exact⟨rfl,gz⟩
theorem Uq(db:Nat)(p:Dp)(D:Dk)(a:Int)(w:aJ)(H:bT w db p D)(hO:fZ D)(hb:aL (balA (aA D.x.ms) (aA D.x.ss+1) D.l 1 0 a)):
 aQ aM 69 #[π db,ν a] w λe w'=>e=aU (ν (jE D a))/\β w w':=by
 have ew:=η (λW (hW:β w W)=>zW db p D 1 0 a W (H.below hW) (by decide) (by decide));have xe:=η (λW (hW:β w W)=>Lt db p D a W (H.below hW) hO);have CL:=η (M9 hO.ob a);have jQ:aA (dg D a)<=100000:=by have h1:=Pn D a;have h2:=hO.ob.len;omega
 have yj:=η hb;unfold jE;generalize balA (aA D.x.ms) (aA D.x.ss+1) D.l 1 0 a=bq at*;generalize dg D a=L at*;have uj:=η (λW A c (hs:aW W W.heap.size A (bA L))=>a6j bq L A c W yj hs CL jQ);generalize AJ bq L=sv at*;generalize jD bq L=se at*;go_enter func69,ntmps69
 go_wp2_with (first|(go_at_call 61;refine lu (wY _) λw2 aV=> ?_)|(go_at_call 46;refine κ (ew.o _ aV.o) aV λw3 af=> ?_)|(go_at_call 68;refine(xe _ af).mono ?_;rintro e w4 ⟨v4,rfl,gL,hb4⟩;have ar:=τ af hb4;obtain⟨A4,c4,hv4⟩:=bJ gL;subst hv4;have dU:=η (aW.cA gL))|(go_at_call 131;refine κ (uj.o _ _ _ dU.o) ar λw5 cz=> ?_))
 go_ret;exact⟨rfl,cz⟩
def rj(a n dn:Int)(lost:Bool):Int:=if dn≥n then 2 else if a=0\/lost=aO then 5 else 4
def Bh(n dn:Int):Int:=if dn≥n then n else dn
theorem aEW(db:Nat)(p:Dp)(D:Dk)(m a n dn:Int)(lost:Bool)(w:aJ)(H:bT w db p D)(hO:fZ D):
 aQ aM 74 #[bH (aC ⟨db,0,aB⟩),bO #[aG aF m,aG aF a,aG aF n],aG aF dn,bM lost] w λe w'=>e=aU (bB #[])/\aq db p {D with ob:=lQ m a (rj a n dn lost) (Bh n dn) D.ob} w w':=by
 have aY:Hid (aa w.heap.size w (w.alloc (aK #[aG aF m,aG aF a,aG aF n] 76))):=η σ;have dC:Hid ((w.alloc (aK #[aG aF m,aG aF a,aG aF n] 76)).heap[w.heap.size]? =aC (aK #[aG aF m,aG aF a,aG aF n] 76 (0,0))):=η (cT w _);have hz0:w.heap.size<(w.alloc (aK #[aG aF m,aG aF a,aG aF n] 76)).heap.size:=by simp
 have HF:=η H;have Nt:=η hO.ob;have mW:Hid (∀k,eY db p k->k<w.heap.size):=η (λk hk=>H.uR hk);clear H hO;go_enter func74,ntmps74
 go_upto_region 1 with (fail)
 generalize w.alloc (aK #[aG aF m,aG aF a,aG aF n] 76)=w1 at*;obtain⟨bx,bQ⟩:∃bx,bx=w.heap.size:=⟨_,rfl⟩;have dN:=η bQ;rw [<-bQ] at dC hz0 ⊢;clear bQ;have c1:w1.cell? ⟨bx,1,aB⟩=aC (aG aF a):=ρ dC.o;have c2:w1.cell? ⟨bx,2,aB⟩=aC (aG aF n):=ρ dC.o;by_cases h1:dn≥n
 ·have HS:Hid (rj a n dn lost=2):=η (by unfold rj;rw [ifP h1]);have HN:Hid (Bh n dn=n):=η (by unfold Bh;rw [ifP h1]);go_upto_region 3 with (fail)
  go_quiet (fail)
  clear c1 c2;go_upto_region 6 with (fail)
  have aV:Hid (aa w1.heap.size w1 (w1.drewN nq)):=η (below_drewN (aX _ _) nq);have kJ:Hid ((w1.drewN nq).heap[bx]? =aC (aK #[aG aF m,aG aF a,aG aF n] 76 (0,0))):=η dC.o;have hz2:bx<(w1.drewN nq).heap.size:=hz0;have cJ:Hid (bT (w1.drewN nq).drew db p D):=η (HF.o.below (aY.o.trans ((aV.o.mono aY.o.size).trans ((aX _ _).drew.mono (cC aY.o.size aV.o.size)))));have lD:Hid (aa w.heap.size w (w1.drewN nq).drew):=η (aY.o.trans ((aV.o.mono aY.o.size).trans ((aX _ _).drew.mono (cC aY.o.size aV.o.size))));have qy:=η (N9 D.ob m a 2 n p.sv p.sb 0 (w1.drewN nq).drew cJ.o.sh Nt.o);have d9:(w1.drewN nq).drew.cell? ⟨db,9,aB⟩=aC (bH (aC ⟨p.sb,0,aB⟩)):=cJ.o.cells.c9;have d0:(w1.drewN nq).drew.cell? ⟨bx,0,aB⟩=aC (aG aF m):=ρ kJ.o;have d1:(w1.drewN nq).drew.cell? ⟨bx,1,aB⟩=aC (aG aF a):=ρ kJ.o;have hzd:bx<(w1.drewN nq).drew.heap.size:=hz2;have bP:Hid (¬eY db p bx):=η (λh=>by have:=mW.o bx h;rw [dN.o] at this;omega);go_region_held3 (λW=>W.cell? ⟨db,9,aB⟩=aC (bH (aC ⟨p.sb,0,aB⟩))/\W.cell? ⟨bx,0,aB⟩=aC (aG aF m)/\W.cell? ⟨bx,1,aB⟩=aC (aG aF a)) (first|(with_reducible exact⟨d9,d0,d1⟩)|(with_reducible exact⟨m9,m0,m1⟩)) ((go_at_call 124;refine qy.o.mono ?_;intro e w7 h7;obtain⟨rfl,dD⟩:=cJ.o.FH h7;have m9:=dD.c9;have m0:=(dD.cell 0 hzd bP.o).trans d0;have m1:=(dD.cell 1 hzd bP.o).trans d1))
  have gA:Hid (aq db p {D with ob:=lQ m a 2 n D.ob} w w7):=η (aq.trans (bC.bV _ lD.o) (λ_ h=> .inl h) ⟨rfl,rfl,rfl,rfl⟩ dD);clear dD h7 m9 m0 m1 d9 d0 d1 hzd qy;go_wp2_with fail
  go_end0
  refine⟨rfl, ?_⟩;rw [HS.o,HN.o];exact gA.o
 have HN:Hid (Bh n dn=dn):=η (by unfold Bh;rw [ifN h1]);have uL:dn<n:=by omega
 by_cases h2:a=0
 ·have HS:Hid (rj a n dn lost=5):=η (by unfold rj;rw [ifN h1,ifP (.inl h2)]);subst h2;clear h1;go_upto_region 6 with (fail)
  have aV:Hid (aa w1.heap.size w1 w1):=η (aX _ _);have kJ:Hid (w1.heap[bx]? =aC (aK #[aG aF m,aG aF 0,aG aF n] 76 (0,0))):=η dC.o;have hz2:bx<w1.heap.size:=hz0;have cJ:Hid (bT w1.drew db p D):=η (HF.o.below (aY.o.trans ((aV.o.mono aY.o.size).trans ((aX _ _).drew.mono (cC aY.o.size aV.o.size)))));have lD:Hid (aa w.heap.size w w1.drew):=η (aY.o.trans ((aV.o.mono aY.o.size).trans ((aX _ _).drew.mono (cC aY.o.size aV.o.size))));have qy:=η (N9 D.ob m 0 5 dn p.sv p.sb 0 w1.drew cJ.o.sh Nt.o);have d9:w1.drew.cell? ⟨db,9,aB⟩=aC (bH (aC ⟨p.sb,0,aB⟩)):=cJ.o.cells.c9;have d0:w1.drew.cell? ⟨bx,0,aB⟩=aC (aG aF m):=ρ kJ.o;have d1:w1.drew.cell? ⟨bx,1,aB⟩=aC (aG aF 0):=ρ kJ.o;have hzd:bx<w1.drew.heap.size:=hz2;have bP:Hid (¬eY db p bx):=η (λh=>by have:=mW.o bx h;rw [dN.o] at this;omega);go_region_held3 (λW=>W.cell? ⟨db,9,aB⟩=aC (bH (aC ⟨p.sb,0,aB⟩))/\W.cell? ⟨bx,0,aB⟩=aC (aG aF m)/\W.cell? ⟨bx,1,aB⟩=aC (aG aF 0)) (first|(with_reducible exact⟨d9,d0,d1⟩)|(with_reducible exact⟨m9,m0,m1⟩)) ((go_at_call 124;refine qy.o.mono ?_;intro e w7 h7;obtain⟨rfl,dD⟩:=cJ.o.FH h7;have m9:=dD.c9;have m0:=(dD.cell 0 hzd bP.o).trans d0;have m1:=(dD.cell 1 hzd bP.o).trans d1))
  have gA:Hid (aq db p {D with ob:=lQ m 0 5 dn D.ob} w w7):=η (aq.trans (bC.bV _ lD.o) (λ_ h=> .inl h) ⟨rfl,rfl,rfl,rfl⟩ dD);clear dD h7 m9 m0 m1 d9 d0 d1 hzd qy;go_wp2_with fail
  go_end0
  refine⟨rfl, ?_⟩;rw [HS.o,HN.o];exact gA.o
 have hb:(a==0)=aP:=by simpa using h2
 cases lost with
 |true=>
  have HS:Hid (rj a n dn aO=5):=η (by unfold rj;rw [ifN h1,ifP (.inr rfl)]);clear h1;go_upto_region 6 with (fail)
  have aV:Hid (aa w1.heap.size w1 w1):=η (aX _ _);have kJ:Hid (w1.heap[bx]? =aC (aK #[aG aF m,aG aF a,aG aF n] 76 (0,0))):=η dC.o;have hz2:bx<w1.heap.size:=hz0;have cJ:Hid (bT w1.drew db p D):=η (HF.o.below (aY.o.trans ((aV.o.mono aY.o.size).trans ((aX _ _).drew.mono (cC aY.o.size aV.o.size)))));have lD:Hid (aa w.heap.size w w1.drew):=η (aY.o.trans ((aV.o.mono aY.o.size).trans ((aX _ _).drew.mono (cC aY.o.size aV.o.size))));have qy:=η (N9 D.ob m a 5 dn p.sv p.sb 0 w1.drew cJ.o.sh Nt.o);have d9:w1.drew.cell? ⟨db,9,aB⟩=aC (bH (aC ⟨p.sb,0,aB⟩)):=cJ.o.cells.c9;have d0:w1.drew.cell? ⟨bx,0,aB⟩=aC (aG aF m):=ρ kJ.o;have d1:w1.drew.cell? ⟨bx,1,aB⟩=aC (aG aF a):=ρ kJ.o;have hzd:bx<w1.drew.heap.size:=hz2;have bP:Hid (¬eY db p bx):=η (λh=>by have:=mW.o bx h;rw [dN.o] at this;omega);go_region_held3 (λW=>W.cell? ⟨db,9,aB⟩=aC (bH (aC ⟨p.sb,0,aB⟩))/\W.cell? ⟨bx,0,aB⟩=aC (aG aF m)/\W.cell? ⟨bx,1,aB⟩=aC (aG aF a)) (first|(with_reducible exact⟨d9,d0,d1⟩)|(with_reducible exact⟨m9,m0,m1⟩)) ((go_at_call 124;refine qy.o.mono ?_;intro e w7 h7;obtain⟨rfl,dD⟩:=cJ.o.FH h7;have m9:=dD.c9;have m0:=(dD.cell 0 hzd bP.o).trans d0;have m1:=(dD.cell 1 hzd bP.o).trans d1))
  have gA:Hid (aq db p {D with ob:=lQ m a 5 dn D.ob} w w7):=η (aq.trans (bC.bV _ lD.o) (λ_ h=> .inl h) ⟨rfl,rfl,rfl,rfl⟩ dD);clear dD h7 m9 m0 m1 d9 d0 d1 hzd qy;go_wp2_with fail
  go_end0
  refine⟨rfl, ?_⟩;rw [HS.o,HN.o];exact gA.o
 |false=>
  have HS:Hid (rj a n dn aP=4):=η (by unfold rj;rw [ifN h1,ifN (by simp [h2])]);clear h1;go_upto_region 6 with (fail)
  have aV:Hid (aa w1.heap.size w1 w1):=η (aX _ _);have kJ:Hid (w1.heap[bx]? =aC (aK #[aG aF m,aG aF a,aG aF n] 76 (0,0))):=η dC.o;have hz2:bx<w1.heap.size:=hz0;have cJ:Hid (bT w1.drew db p D):=η (HF.o.below (aY.o.trans ((aV.o.mono aY.o.size).trans ((aX _ _).drew.mono (cC aY.o.size aV.o.size)))));have lD:Hid (aa w.heap.size w w1.drew):=η (aY.o.trans ((aV.o.mono aY.o.size).trans ((aX _ _).drew.mono (cC aY.o.size aV.o.size))));have qy:=η (N9 D.ob m a 4 dn p.sv p.sb 0 w1.drew cJ.o.sh Nt.o);have d9:w1.drew.cell? ⟨db,9,aB⟩=aC (bH (aC ⟨p.sb,0,aB⟩)):=cJ.o.cells.c9;have d0:w1.drew.cell? ⟨bx,0,aB⟩=aC (aG aF m):=ρ kJ.o;have d1:w1.drew.cell? ⟨bx,1,aB⟩=aC (aG aF a):=ρ kJ.o;have hzd:bx<w1.drew.heap.size:=hz2;have bP:Hid (¬eY db p bx):=η (λh=>by have:=mW.o bx h;rw [dN.o] at this;omega);go_region_held3 (λW=>W.cell? ⟨db,9,aB⟩=aC (bH (aC ⟨p.sb,0,aB⟩))/\W.cell? ⟨bx,0,aB⟩=aC (aG aF m)/\W.cell? ⟨bx,1,aB⟩=aC (aG aF a)) (first|(with_reducible exact⟨d9,d0,d1⟩)|(with_reducible exact⟨m9,m0,m1⟩)) ((go_at_call 124;refine qy.o.mono ?_;intro e w7 h7;obtain⟨rfl,dD⟩:=cJ.o.FH h7;have m9:=dD.c9;have m0:=(dD.cell 0 hzd bP.o).trans d0;have m1:=(dD.cell 1 hzd bP.o).trans d1))
  have gA:Hid (aq db p {D with ob:=lQ m a 4 dn D.ob} w w7):=η (aq.trans (bC.bV _ lD.o) (λ_ h=> .inl h) ⟨rfl,rfl,rfl,rfl⟩ dD);clear dD h7 m9 m0 m1 d9 d0 d1 hzd qy;go_wp2_with fail
  go_end0
  refine⟨rfl, ?_⟩;rw [HS.o,HN.o];exact gA.o
def leave1(D:Dk)(a:Int):Dk:=if 0<balA (aA D.x.ms) (aA D.x.ss+1) D.l 1 0 a then {D with l:=bg D 1 0 2 0 a (balA (aA D.x.ms) (aA D.x.ss+1) D.l 1 0 a),log:=D.log++ [⟨16,0,a,balA (aA D.x.ms) (aA D.x.ss+1) D.l 1 0 a,0⟩]} else D
def leaveD(D:Dk):Nat->Dk
 |0=>D
 |k+1=>leave1 (leaveD D k) (k:Int)
theorem aH4(D:Dk)(k:Nat):(leaveD D k).x=D.x:=by
 induction k with
 |zero=>rfl
 |succ k ih=>unfold leaveD leave1;split<;>exact ih
theorem aEU(db:Nat)(p:Dp)(D:Dk)(w:aJ)(H:bT w db p D)(hO:∀k,k<=aA D.x.ss+1->fZ (leaveD D k))(hI:∀k,k<=aA D.x.ss->aL (balA (aA D.x.ms) (aA D.x.ss+1) (leaveD D k).l 1 0 (k:Int)))(QY:aA D.x.ss<=100000):
 aQ aM 76 #[π db] w λe w'=>e=aU (bB #[])/\aq db p (leaveD D (aA D.x.ss+1)) w w':=by
 have HO:=η hO;have HI:=η hI;have c1:=H.cells.c1;have iP:Hid (aq db p (leaveD D 0) w w):=η (aq.refl H);have HX:Hid (∀k,(leaveD D k).x=D.x):=η (aH4 D);obtain⟨n,hn⟩:∃n,n=aA D.x.ss:=⟨_,rfl⟩;have HN:=η hn;rw [<-hn] at HO HI c1 QY ⊢;clear H hO hI hn;go_enter func76,ntmps76
 go_wp2_with fail
 go_loopw [2,3,11] (λ_ _ i wr=>∃k:Nat,k<=n+1/\i=ν (k:Int)/\Hid (aq db p (leaveD D k) w wr)) (λ_ _ i _=>n+1-(ag i).toNat)
 case atStart=>exact⟨0,bL _,rfl,iP⟩
 case round=>
  clear iP;obtain⟨k,hk,rfl,HP⟩:=hrel;by_cases hlt:k<n+1
  ·have rS:(k:Int)<(n:Int)+1:=by omega
   obtain⟨p1,h1,e1,e2,e3,e4,cj,hs1⟩:=HP.o;have HF:=η h1;have HT:Hid (∀W D2,aq db p1 D2 wr W->aq db p D2 w W):=η (λW D2 h=>aq.trans cj hs1 ⟨e1,e2,e3,e4⟩ h);have HL:Hid (leaveD D (k+1)=leave1 (leaveD D k) (k:Int)):=η rfl;have dP:=η (HO.o k hk);have Jk:=HI.o k (by omega);rw [HN.o,<-HX.o k] at Jk;have Pu:aL (k:Int):=by unfold aL;omega
   clear h1 e1 e2 e3 e4 cj hs1 HP;generalize leaveD D k=E at*;have ew:=η (λW (hW:β wr W)=>zW db p1 E 1 0 (k:Int) W (HF.o.below hW) (by decide) (by decide));have ug:Hid (leave1 E (k:Int)=if 0<balA (aA E.x.ms) (aA E.x.ss+1) E.l 1 0 (k:Int) then {E with l:=bg E 1 0 2 0 (k:Int) (balA (aA E.x.ms) (aA E.x.ss+1) E.l 1 0 (k:Int)),log:=E.log++ [⟨16,0,(k:Int),balA (aA E.x.ms) (aA E.x.ss+1) E.l 1 0 (k:Int),0⟩]} else E):=η rfl;generalize balA (aA E.x.ms) (aA E.x.ss+1) E.l 1 0 (k:Int)=bq at*;have yj:=η Jk;by_cases hb:0<bq
   ·go_upto_region 5 with (first|(go_at_call 61;refine(wY _).mono ?_;rintro e w2 ⟨rfl,hb2⟩;have aV:=η hb2;clear hb2)|(go_at_call 46;refine(ew.o _ aV.o).mono ?_;rintro e w4 ⟨rfl,hb3⟩;have ar:=τ aV hb3;clear hb3))
    have lF:=η (HF.o.below ar.o);have lU:=η (λW (hW:β w4 W)=>Gd db p1 E 1 0 2 0 (k:Int) bq W (lF.o.below hW) dP.o ⟨by decide,by decide⟩ ⟨by decide,by decide⟩ Pu yj.o (by omega));have bW:=η (λW (hW:β w4 W)=>(lF.o.below hW).cells.c8);have bU:β w4 w4.drew:=(aX _ _).drew;have hdd:=bW.o _ bU;go_region_held3 (λW=>W.cell? ⟨db,8,aB⟩=aC (π p1.vb)) (first|(with_reducible assumption)) (first|(go_at_call 61;refine(wY _).mono ?_;rintro e w5 ⟨rfl,gG⟩;have pd:β w4 w5:=jl (by with_reducible assumption) (gG.mono (gS (by with_reducible assumption)));have hcc:=bW.o _ pd)|(go_at_call 87;refine(lU.o _ (by with_reducible assumption)).mono ?_;rintro e w7 ⟨rfl,dD,hcm⟩))
    have gA:Hid (aq db p1 {E with l:=bg E 1 0 2 0 (k:Int) bq} wr w7):=η (aq.trans (bC.bV _ (ar.o.trans (Below.mono (by with_reducible assumption) ar.o.size))) (λ_ h=> .inl h) ⟨rfl,rfl,rfl,rfl⟩ dD);clear dD hcm gG pd hcc bU hdd lU bW lF ar aV;obtain⟨p4,H4,e1,e2,e3,e4,py,jv⟩:=gA.o;have kU:=η (H4.below ((aX w7.heap.size w7).alloc (aZ _) (aK #[ν 16,ν 0,ν (k:Int),ν bq,ν 0] 45)));have kW:=η (wx db p4 {E with l:=bg E 1 0 2 0 (k:Int) bq} [⟨16,0,(k:Int),bq,0⟩] w7.heap.size 1 _ kU.o (dM w7 45 #[ν 16,ν 0,ν (k:Int),ν bq,ν 0] rfl) (by simp) (by simp) (by have:=dP.o.gl;simp only;omega));have pO:Hid (∀W,aq db p4 {E with l:=bg E 1 0 2 0 (k:Int) bq,log:=E.log++ [⟨16,0,(k:Int),bq,0⟩]} (w7.alloc (aK #[ν 16,ν 0,ν (k:Int),ν bq,ν 0] 45)) W->aq db p (leaveD D (k+1)) w W):=η (λW h=>by rw [HL.o,ug.o,ifP hb];exact HT.o W _ (aq.trans py jv ⟨e1,e2,e3,e4⟩ (aq.trans (bC.bV _ σ) (λ_ h=> .inl h) ⟨rfl,rfl,rfl,rfl⟩ h)));clear H4 e1 e2 e3 e4 py jv gA;go_wp2_with (go_at_call 55;refine kW.o.mono ?_;rintro e w8 ⟨rfl,h8⟩;have dt:=η (pO.o _ h8);clear h8)
    go_roundw
    case rel=>exact⟨k+1,by omega,by go_num,dt⟩
    case measure=>simp [ag];omega
   go_wp2_with (first|(go_at_call 61;refine(wY _).mono ?_;rintro e w2 ⟨rfl,hb2⟩;have aV:=η hb2;clear hb2)|(go_at_call 46;refine(ew.o _ aV.o).mono ?_;rintro e w4 ⟨rfl,hb3⟩;have ar:=τ aV hb3;clear hb3))
   have dt:Hid (aq db p (leaveD D (k+1)) w w4):=η (by rw [HL.o,ug.o,ifN (by omega)];exact HT.o _ _ (aq.bV HF.o ar.o));go_roundw
   case rel=>exact⟨k+1,by omega,by go_num,dt⟩
   case measure=>simp [ag];omega
  obtain rfl:k=n+1:=by omega
  rw [show ((n+1:Nat):Int)=(n:Int)+1 by omega];go_wp2_with fail
  go_end0
  exact⟨rfl,HP.o⟩
def Gm(D:Dk)(x:Lg):Dk:= {D with l:=bg D 1 0 7 x.m x.a x.n,log:=D.log++ [⟨13,x.m,x.a,x.n,0⟩]}
def ij(D:Dk)(L:List Lg):Dk:=L.foldl Gm D
theorem aFL {D:Dk} {L:List Lg} {k:Nat}(h:k<aA L):ij D (L.take (k+1))=Gm (ij D (L.take k)) L[k]:=by rw [fF h];unfold ij;rw [List.foldl_append];rfl
theorem a2F(db:Nat)(p:Dp)(D:Dk)(L:List Lg)(A:Option ai)(c:Nat)(w:aJ)(H:bT w db p D)(hs:aW w w.heap.size A (bA L))(hA:bA L≠ []->∀q,A=aC q->¬eY db p q.block)(hO:∀k,k<=aA L->fZ (ij D (L.take k)))(hI:∀x∈L,aL x.m/\aL x.a/\aL x.n/\0<=x.n)(hl:aA L<=100000):
 aQ aM 138 #[π db,aH A (aA L) c] w λe w'=>e=aU (bB #[])/\aq db p (ij D L) w w':=by
 have HO:=η hO;have HI:=η hI;have iP:Hid (aq db p (ij D (L.take 0)) w w):=η (aq.refl H);have B2:Hid (∀W D2,aq db p D2 w W->aW W W.heap.size A (bA L)):=η (λW D2 h=>by obtain⟨_,_,_,_,_,_,hu,_⟩:=h;exact hu.dh hs hA);clear H hs hA hO hI;go_enter func138,ntmps138
 go_wp2_with fail
 go_loopw [5,8] (λ_ i wr=>∃k:Nat,k<=aA L/\i=ν (k:Int)/\Hid (aq db p (ij D (L.take k)) w wr)) (λ_ i _=>aA L-(ag i).toNat)
 case atStart=>exact⟨0,bL _,rfl,iP⟩
 case round=>
  clear iP;obtain⟨k,hk,rfl,HP⟩:=hrel;by_cases hlt:k<aA L
  ·obtain⟨bl,ol,kN,hbl,l0,l1,l2⟩:=oG (B2.o _ _ HP.o) hlt;have eV:(0:Int)<=(k:Int):=by omega
   have hkb:(k:Int)<(aA L:Int):=by omega
   obtain⟨p1,h1,e1,e2,e3,e4,cj,hs1⟩:=HP.o;have HF:=η h1;have mW:Hid (∀j,eY db p1 j->j<wr.heap.size):=η (λj hj=>h1.uR hj);have HT:Hid (∀W D2,aq db p1 D2 wr W->aq db p D2 w W):=η (λW D2 h=>aq.trans cj hs1 ⟨e1,e2,e3,e4⟩ h);have HL:=η (aFL (D:=D) hlt);have dP:=η (HO.o k hk);obtain⟨pg,pj,rQ,vL⟩:=HI.o _ (cK hlt);clear h1 e1 e2 e3 e4 cj hs1 HP;subst kN;generalize ij D (L.take k)=E at*;generalize L[k]=x at*;obtain⟨xm,xa,xn⟩:=x;simp only at l0 l1 l2 pg pj rQ vL;have oN:=η (kT pg (kT pj (kT rQ vL)));have ug:Hid (Gm E ⟨xm,xa,xn⟩= {E with l:=bg E 1 0 7 xm xa xn,log:=E.log++ [⟨13,xm,xa,xn,0⟩]}):=η rfl;have ar:Hid (β wr (wr.alloc (aK #[ν xm,ν xa,ν xn] 76))):=η σ;have oY:Hid ((wr.alloc (aK #[ν xm,ν xa,ν xn] 76)).heap[wr.heap.size]? =aC (aK #[ν xm,ν xa,ν xn] 76 (0,0))):=η (cT wr _);have mM:wr.heap.size<(wr.alloc (aK #[ν xm,ν xa,ν xn] 76)).heap.size:=by simp
   clear pg pj rQ vL;go_upto_region 3 with (fail)
   generalize wr.alloc (aK #[ν xm,ν xa,ν xn] 76)=w4 at*;obtain⟨bx,bQ⟩:∃bx,bx=wr.heap.size:=⟨_,rfl⟩;have dN:=η bQ;rw [<-bQ] at oY mM ⊢;clear bQ;have lF:=η (HF.o.below ar.o);have bP:Hid (¬eY db p1 bx):=η (λh=>by have:=mW.o bx h;rw [dN.o] at this;omega);have lU:=η (λW (hW:β w4 W)=>Gd db p1 E 1 0 7 xm xa xn W (lF.o.below hW) dP.o ⟨by decide,by decide⟩ ⟨by decide,oN.o.1⟩ oN.o.2.1 oN.o.2.2.1 oN.o.2.2.2);have bW:Hid (∀W,β w4 W->W.cell? ⟨db,8,aB⟩=aC (π p1.vb)/\W.cell? ⟨bx,0,aB⟩=aC (ν xm)/\W.cell? ⟨bx,1,aB⟩=aC (ν xa)/\W.cell? ⟨bx,2,aB⟩=aC (ν xn)):=η (λW hW=>by have hd:=(hW.block bx mM).trans oY.o;exact⟨(lF.o.below hW).cells.c8,ρ hd,ρ hd,ρ hd⟩);have Kv:Hid (∀W W',β w4 W->aq db p1 {E with l:=bg E 1 0 7 xm xa xn} W W'->W'.cell? ⟨db,8,aB⟩=aC (π p1.vb)->W'.cell? ⟨db,8,aB⟩=aC (π p1.vb)/\W'.cell? ⟨bx,0,aB⟩=aC (ν xm)/\W'.cell? ⟨bx,1,aB⟩=aC (ν xa)/\W'.cell? ⟨bx,2,aB⟩=aC (ν xn)):=η (λW W' hW h h8=>by have hz:=cR mM hW.size;obtain⟨_,q0,q1,q2⟩:=bW.o W hW;exact⟨h8,(h.cell 0 hz bP.o).trans q0,(h.cell 1 hz bP.o).trans q1,(h.cell 2 hz bP.o).trans q2⟩);have bU:β w4 w4.drew:=(aX _ _).drew;have hdd:=bW.o _ bU;go_region_held3 (λW=>W.cell? ⟨db,8,aB⟩=aC (π p1.vb)/\W.cell? ⟨bx,0,aB⟩=aC (ν xm)/\W.cell? ⟨bx,1,aB⟩=aC (ν xa)/\W.cell? ⟨bx,2,aB⟩=aC (ν xn)) (first|(with_reducible assumption)) (first|(go_at_call 61;refine(wY _).mono ?_;rintro e w5 ⟨rfl,gG⟩;have pd:β w4 w5:=jl (by with_reducible assumption) (gG.mono (gS (by with_reducible assumption)));have hcc:=bW.o _ pd)|(go_at_call 49;refine(EM xm _).mono ?_;rintro e w6 ⟨rfl,tD⟩;have xC:β w4 w6:=jl (by with_reducible assumption) (tD.mono (gS (by with_reducible assumption)));have qW:=bW.o _ xC)|(go_at_call 87;refine(lU.o _ (by with_reducible assumption)).mono ?_;rintro e w7 ⟨rfl,dD,hcm⟩;have zn:=Kv.o _ _ (by with_reducible assumption) dD hcm))
   all_goals
    have gA:Hid (aq db p1 {E with l:=bg E 1 0 7 xm xa xn} wr w7):=η (aq.trans (bC.bV _ (ar.o.trans (Below.mono (by with_reducible assumption) ar.o.size))) (λ_ h=> .inl h) ⟨rfl,rfl,rfl,rfl⟩ dD);obtain⟨_,m0,m1,m2⟩:=zn;clear dD hcm gG pd hcc tD xC qW bU hdd lU bW lF ar Kv oY mM;obtain⟨p4,H4,e1,e2,e3,e4,py,jv⟩:=gA.o;have kU:=η (H4.below ((aX w7.heap.size w7).alloc (aZ _) (aK #[ν 13,ν xm,ν xa,ν xn,ν 0] 45)));have kW:=η (wx db p4 {E with l:=bg E 1 0 7 xm xa xn} [⟨13,xm,xa,xn,0⟩] w7.heap.size 1 _ kU.o (dM w7 45 #[ν 13,ν xm,ν xa,ν xn,ν 0] rfl) (by simp) (by simp) (by have:=dP.o.gl;simp only;omega));have pO:Hid (∀W,aq db p4 {E with l:=bg E 1 0 7 xm xa xn,log:=E.log++ [⟨13,xm,xa,xn,0⟩]} (w7.alloc (aK #[ν 13,ν xm,ν xa,ν xn,ν 0] 45)) W->aq db p (ij D (L.take (k+1))) w W):=η (λW h=>by rw [HL.o,ug.o];exact HT.o W _ (aq.trans py jv ⟨e1,e2,e3,e4⟩ (aq.trans (bC.bV _ σ) (λ_ h=> .inl h) ⟨rfl,rfl,rfl,rfl⟩ h)));clear H4 e1 e2 e3 e4 py jv gA;go_wp2_with (go_at_call 55;refine kW.o.mono ?_;rintro e w8 ⟨rfl,h8⟩;have dt:=η (pO.o _ h8);clear h8)
    go_roundw
    case rel=>exact⟨k+1,by omega,by go_num,dt⟩
    case measure=>simp [ag];omega
  obtain rfl:k=aA L:=by omega
  rw [cU] at HP;go_wp2_with fail
  go_end0
  exact⟨rfl,HP.o⟩
def jq(D:Dk)(kd:Int)(L:List Lg):Dk:= {D with log:=D.log++L.map λx=>(⟨kd,x.m,x.a,x.n,0⟩:Ev)}
theorem a2Z {D:Dk} {kd:Int} {L:List Lg} {k:Nat}(h:k<aA L):jq D kd (L.take (k+1))= {jq D kd (L.take k) with log:=(jq D kd (L.take k)).log++ [⟨kd,L[k].m,L[k].a,L[k].n,0⟩]}:=by rw [fF h];unfold jq;simp only [dY,yB,List.map_nil,List.append_assoc]
theorem a1c(db:Nat)(p:Dp)(D:Dk)(L:List Lg)(kd:Int)(A:Option ai)(c:Nat)(w:aJ)(H:bT w db p D)(hs:aW w w.heap.size A (bA L))(hA:bA L≠ []->∀q,A=aC q->¬eY db p q.block)(hg:aA D.log+aA L<=90000)(hl:aA L<=80000):
 aQ aM 139 #[aH A (aA L) c,ν kd,.func (.func 55) #[π db] #[]] w λe w'=>e=aU (bB #[])/\aq db p (jq D kd L) w w':=by
 have iP:Hid (aq db p (jq D kd (L.take 0)) w w):=η (by
  have e:jq D kd (L.take 0)=D:=by unfold jq;simp
  rw [e];exact aq.refl H)
 have B2:Hid (∀W D2,aq db p D2 w W->aW W W.heap.size A (bA L)):=η (λW D2 h=>by obtain⟨_,_,_,_,_,_,hu,_⟩:=h;exact hu.dh hs hA);go_enter func139,ntmps139
 go_wp2
 go_loopw [7,10] (λ_ i wr=>∃k:Nat,k<=aA L/\i=ν (k:Int)/\Hid (aq db p (jq D kd (L.take k)) w wr)) (λ_ i _=>aA L-(ag i).toNat)
 ·exact⟨0,bL _,rfl,iP⟩
 ·
  obtain⟨k,hk,rfl,HP⟩:=hrel;by_cases hlt:k<aA L
  ·obtain⟨bl,ol,kN,hbl,l0,l1,l2⟩:=oG (B2.o _ _ HP.o) hlt;have eV:(0:Int)<=(k:Int):=by omega
   have hkb:(k:Int)<(aA L:Int):=by omega
   have jQ:(jq D kd (L.take k)).log.length<=100000:=by unfold jq;simp only [cL,iK,ur];omega
   obtain⟨p1,h1,e1,e2,e3,e4,cj,hs1⟩:=HP.o;have HF:=η h1;have HT:Hid (∀W D2,aq db p1 D2 wr W->aq db p D2 w W):=η (λW D2 h=>aq.trans cj hs1 ⟨e1,e2,e3,e4⟩ h);have HL:=η (a2Z (D:=D) (kd:=kd) hlt);subst kN;generalize jq D kd (L.take k)=E at*;generalize L[k]=x at*;obtain⟨xm,xa,xn⟩:=x;simp only at l0 l1 l2;have xW:Hid (β wr ((wr.alloc (aK #[ν xm,ν xa,ν xn] 76)).alloc (aK #[ν kd,ν xm,ν xa,ν xn,ν 0] 45))):=η (σ.alloc (by simp) _);have kU:=η (HF.o.below xW.o);have kW:=η (wx db p1 E [⟨kd,xm,xa,xn,0⟩] (wr.heap.size+1) 1 _ kU.o (dM (wr.alloc (aK #[ν xm,ν xa,ν xn] 76)) 45 #[ν kd,ν xm,ν xa,ν xn,ν 0] (by simp)) (by simp) (by simp) (by omega));have pO:Hid (∀W,aq db p1 {E with log:=E.log++ [⟨kd,xm,xa,xn,0⟩]} ((wr.alloc (aK #[ν xm,ν xa,ν xn] 76)).alloc (aK #[ν kd,ν xm,ν xa,ν xn,ν 0] 45)) W->aq db p (jq D kd (L.take (k+1))) w W):=η (λW h=>by rw [HL.o];exact HT.o W _ (aq.trans (bC.bV _ xW.o) (λ_ h=> .inl h) ⟨rfl,rfl,rfl,rfl⟩ h));go_wp2_with (go_at_call 55;refine kW.o.mono ?_;rintro e w8 ⟨rfl,h8⟩;have dt:=η (pO.o _ h8))
   go_roundw
   ·exact⟨k+1,by omega,by go_num,dt⟩
   simp [ag];omega
  obtain rfl:k=aA L:=by omega
  rw [cU] at HP;go_wp2
  go_end0
  exact⟨rfl,HP.o⟩
section
variable {F:Fence} {n:Nat} {P:Program} {β:Type}
def Hands(F:Fence)(n:Nat)(P:Program)(g:Nat)(lb:Array aN)(Hd:aN->β->aJ->Prop)(Kp:aJ->aJ->Prop)(ys:List β)(w:aJ):Prop:=
 ∀(l:Nat) (J:List β->aJ->Prop) (W:aJ),aa w.heap.size w W->AbidesFrom W.heap.size J->
  (∀pre y v W1,J pre W1->Hd v y W1->(pre++ [y])<+:ys->YieldAt F (n-1) P l #[v] W1 λe W'=>e=aU (bM aO)/\J (pre++ [y]) W'/\Kp W1 W')->
  J [] W->
  CallsIn F n P g (#[.func (.yield l) #[] #[]]++lb) W λe W'=>(∃v,e=aU v)/\J ys W'
def a3V(Kp:aJ->aJ->Prop)(I:List β->aJ->Prop)(ys:List β)(W:aJ):Exit->Act->aJ->Prop
 | .normal,_,W'=>KeepsOthers W W'/\Kp W W'/\I ys W'
 |_,_,_=>False
theorem a7r {g:Operand} {t:Tmp} {assign body:Code} {Q:Exit->Act->aJ->Prop} {a:Act} {w:aJ}
 (hro:F.round=aB) (h1:1<=n) {gf:Nat} {lb:Array aN} (hg:a.eval g= .func (.func gf) #[] lb) (hFg:F.fn gf) (eg:∀args w,(callFunc gf args).run P w= .ok (.enter gf args) w)
 {Hd:aN->β->aJ->Prop} {Kp:aJ->aJ->Prop} {ys:List β} {w0:aJ} (hseq:Hands F (n-1) P gf lb Hd Kp ys w0)
 (hKt:∀ {A B C:aJ},Kp A B->Kp B C->Kp A C) (hKb:∀(W:aJ) (l:Nat) (o o':Obj),w.heap.size<=l->W.heap[l]? =aC o->o.isCells=aP->o.isWalk=aP->Kp W (W.putObj l o')) (hb0:aa w0.heap.size w0 w)
 (hHd:∀(v:aN) (y:β) (W:aJ) (l:Nat) (o o':Obj),Hd v y W->W.heap[l]? =aC o->o.isCells=aP->Hd v y (W.putObj l o'))
 (I:List β->aJ->Prop) (hI:OwnFrom w.heap.size I) (h0:I [] w) (a₁:aN->Act)
 (aFg:∀(l:Nat) (v:aN) (W:aJ) (K:Act->aJ->Prop),K (a₁ v) W->assign.wpIn (F.inRound l) (n-1-1) P (Exit.then K (λ_ _ _=>False)) {tmps:=a.tmps.setIfInBounds t v,defers:= []} W)
 (aFj:∀(l:Nat) (pre:List β) (y:β) (v:aN) (W:aJ),I pre W->Hd v y W->(pre++ [y])<+:ys->body.wpIn (F.inRound l) (n-1-1) P (a3V Kp I (pre++ [y]) W) (a₁ v) W)
 (hdone:∀(D:Nat) (W:aJ),w.heap.size<=D->I ys W->W.heap[D]? =aC (.deferred (aC []))->Q .normal {a with defers:= {target:= .collected D,args:= #[]}::a.defers} W):
 (Code.rangeFunc g #[t] assign body).wpIn F n P Q a w:=by
 refine wpIn_rangeFunc ?_;intro fn hfn;rw [hro];obtain⟨rec,Ex⟩:∃rec:LoopState->Option Code->Loop,rec=λst pe=> {state:=st,pending:=pe,fn,tmps:=a.tmps,params:= #[t],assign,body,defers:=w.heap.size}:=⟨_,rfl⟩
 obtain⟨W1,hW1⟩:∃W1,(w.alloc (.deferred (aC []))).alloc (.loop (rec .ready aB))=W1:=⟨_,rfl⟩;have hz1:W1.heap.size=w.heap.size+2:=by rw [<-hW1];simp
 have hL1:W1.heap[w.heap.size+1]? =aC (.loop (rec .ready aB)):=by rw [<-hW1];exact MS _ _ (by simp)
 have Pv:W1.heap[w.heap.size]? =aC (.deferred (aC [])):=by rw [<-hW1];exact(fG _ _ (by simp)).trans (MS w _ rfl)
 have DC:I [] W1:=by rw [<-hW1];exact hI.alloc _ (hI.alloc _ h0)
 have hb1:aa w0.heap.size w0 W1:=by rw [<-hW1];exact hb0.trans ((((aX _ w).alloc (aZ _) _).alloc (by simp) _).mono hb0.size)
 refine⟨w.heap.size+1,[{target:= .collected w.heap.size,args:= #[]}],W1, {target:= .fn (.func gf) lb,args:= #[.func (.yield (w.heap.size+1)) #[] #[]]},W1,gf,
  #[.func (.yield (w.heap.size+1)) #[] #[]]++lb,W1, ?_, ?_, ?_, ?_,λ_=>h1, ?_⟩
 ·rw [<-hW1,Ex];exact run_enterLoop_outer _ _ _ _ _
 ·simp only [resolve,hg];simp [go_sem]
 ·intro f' hf';simp [Target.leads] at hf';subst hf';exact hFg
 ·simp [invoke,go_sem,eg]
 have hw:∀ {A:aJ} {row:Option Nat},(∀r,row=aC r->W1.heap.size<=r/\∃o:Obj,A.heap[r]? =aC o/\o.isWalk=aO)->(∀r,row=aC r->w.heap.size<=r/\∃o:Obj,A.heap[r]? =aC o/\o.isCells=aP):=
  λhr r e=>by obtain⟨hB,o,ho,hx⟩:=hr r e;exact⟨by omega,o,ho,Obj.not_cells_of_walk hx⟩
 refine(hseq (w.heap.size+1)
  (λpre W=>I pre W/\W.heap[w.heap.size+1]? =aC (.loop (rec .ready aB))/\W.heap[w.heap.size]? =aC (.deferred (aC [])))
  W1 hb1
  (λs A B row hs DK hr=>⟨hI s A B row hs.1 DK (hw hr),(grownBy_keeps DK (λr e=>(hr r e).2) hs.2.1 rfl).trans hs.2.1,(grownBy_keeps DK (λr e=>(hr r e).2) hs.2.2 rfl).trans hs.2.2⟩)
  ?_ ⟨DC,hL1,Pv⟩).mono ?_
 ·rintro pre y v W ⟨hi,hl,hk⟩ hd WN;have hlt:w.heap.size+1<W.heap.size:=(fY.1 hl).1;have hy:=run_yield (P:=P) (args:= #[v]) hl (by rw [Ex];rfl);rw [Ex] at hy;refine⟨fn,_,assign,body,hy,roundIn_of_wpIn hfn ?_⟩;have Mw:∀ts:Array aN,((#[t]:Array Tmp).zip #[v]).foldl (λts (x:Tmp×aN)=>match x with|(p,u)=>ts.setIfInBounds p u) ts=ts.setIfInBounds t v:=λts=>by simp
  dsimp only
  rw [Mw];refine aFg _ v W _ ?_;refine⟨_,run_beginRound hl (by rw [Ex]), ?_⟩;obtain⟨busy,VV⟩:∃o:Obj,o= .loop {rec .ready aB with state:= .busy}:=⟨_,rfl⟩;have hl2:(W.putObj (w.heap.size+1) busy).heap[w.heap.size+1]? =aC busy:=aBo hlt;have hk2:(W.putObj (w.heap.size+1) busy).heap[w.heap.size]? =aC (.deferred (aC [])):=(P5 (by omega)).trans hk;have hw2:Kp W (W.putObj (w.heap.size+1) busy):=hKb _ _ _ _ (by omega) hl rfl rfl;rw [<-VV];refine wpIn_mono (aFj _ pre y v _ (hI.putObj _ hi (by omega) hl rfl) (hHd _ _ _ _ _ _ hd hl rfl) WN) ?_;rintro e a3 W3 hp;cases e with
  |normal=>
   obtain⟨hk3,aG3,rQ⟩:=hp;have MW:=hk3.same _ _ hl2 (by rw [VV];rfl);rw [VV] at MW;have hr:=run_endRound (P:=P) aB MW;rw [Ex] at hr;refine⟨_,_,hr, ?_⟩;refine⟨rfl,⟨hI.putObj _ rQ (by omega) MW rfl, ?_,(P5 (by omega)).trans (hk3.same _ _ hk2 rfl)⟩,hKt (hKt hw2 aG3) (hKb _ _ _ _ (by omega) MW rfl rfl)⟩;rw [aBo (fY.1 MW).1,Ex];rfl
  |_=>exact hp.elim
 rintro e W2 ⟨⟨v,rfl⟩,hi,hl,hk⟩;exact⟨aB,_,by have:=run_endLoop (P:=P) hl (by rw [Ex];simp);rw [Ex] at this;exact this,hdone _ _ (aZ _) (hI.putObj _ hi (by omega) hl rfl) ((P5 (by omega)).trans hk)⟩
end
section
open Go.Shelf
attribute [local go_sem] Oper.semAt_some
structure bz where
 co:List Int
 Ac:Option ai
 cc:Nat
 fu:List Int
 Af:Option ai
 cf:Nat
 line:Int
 cap:Int
structure iQ(n1 bo bp:Nat)(W W':aJ):Prop where
 size:W.heap.size<=W'.heap.size
 keep:∀k,(k<n1\/k=bo\/k=bp)->k<W.heap.size->W'.heap[k]? =W.heap[k]?
theorem iQ.refl(n1 bo bp:Nat)(W:aJ):iQ n1 bo bp W W:=⟨aZ _,λ_ _ _=>rfl⟩
theorem iQ.trans {n1 bo bp:Nat} {A B C:aJ}(h:iQ n1 bo bp A B)(k:iQ n1 bo bp B C):iQ n1 bo bp A C:=
 ⟨cC h.size k.size,λj hj hl=>(k.keep j hj (cR hl h.size)).trans (h.keep j hj hl)⟩
theorem iQ.bV {n1 bo bp:Nat} {W W':aJ}(h:aa W.heap.size W W'):iQ n1 bo bp W W':=⟨h.size,λj _ hl=>h.block j hl⟩
theorem iQ.alloc {n1 bo bp:Nat} {W W':aJ}(h:iQ n1 bo bp W W')(o:Obj):iQ n1 bo bp W (W'.alloc o):=h.trans (.bV ((aX _ _).alloc (aZ _) o))
structure LV(n0:Nat)(W:aJ)(bo bp:Nat)(p:bz)(os:List Int)(Ao:Option ai)(ko:Nat):Prop where
 o:W.cell? ⟨bo,0,aB⟩=aC (aH Ao (aA os) ko)
 c0:W.cell? ⟨bp,0,aB⟩=aC (aH p.Ac (aA p.co) p.cc)
 c1:W.cell? ⟨bp,1,aB⟩=aC (aH p.Af (aA p.fu) p.cf)
 c2:W.cell? ⟨bp,2,aB⟩=aC (ν p.line)
 c3:W.cell? ⟨bp,3,aB⟩=aC (ν p.cap)
 so:aW W n0 Ao (os.map (aG aF))
 sc:aW W n0 p.Ac (p.co.map (aG aF))
 sf:aW W n0 p.Af (p.fu.map (aG aF))
 lo:bo<W.heap.size
 lp:bp<W.heap.size
 ln:n0<=W.heap.size
theorem LV.keep {n0:Nat} {W W':aJ} {bo bp:Nat} {p:bz} {os:List Int} {Ao:Option ai} {ko:Nat}(h:LV n0 W bo bp p os Ao ko)(hk:iQ n0 bo bp W W'):LV n0 W' bo bp p os Ao ko:=by
 have ho:=hk.keep bo (.inr (.inl rfl)) h.lo;have hp:=hk.keep bp (.inr (.inr rfl)) h.lp;have hs:∀q:ai,q.block<n0->W'.cell? q=W.cell? q:=λq hq=>gg (hk.keep q.block (.inl hq) (cR hq h.ln))
 exact⟨(gg (a:=⟨bo,0,aB⟩) ho).trans h.o,(gg (a:=⟨bp,0,aB⟩) hp).trans h.c0,(gg (a:=⟨bp,1,aB⟩) hp).trans h.c1,(gg (a:=⟨bp,2,aB⟩) hp).trans h.c2,(gg (a:=⟨bp,3,aB⟩) hp).trans h.c3,h.so.keep hs,h.sc.keep hs,h.sf.keep hs,cR h.lo hk.size,cR h.lp hk.size,cC h.ln hk.size⟩
def LJ(v:aN)(y:List Dw)(W:aJ):Prop:=∃A c,v=aH A (aA y) c/\aW W W.heap.size A (gR y)/\(∀x∈y,aL x.n)/\aA y<=1000
def cN(l:List Int)(m:Int):Int:=l.getD (m-1).toNat 0
def jy(fu os:List Int)(k:Nat):List Dw:=(dQ k).flatMap λ(i:Nat)=>if os.contains ((i:Int)+1) then [] else [⟨9,(i:Int)+1,fu.getD i 0⟩]
def vZ(fu os:List Int):List Dw:=jy fu os (aA fu)
theorem a5e {fu os:List Int} {k:Nat}(hk:k<aA fu)(b:Bool)(hb:os.contains ((k:Int)+1)=b):jy fu os (k+1)=jy fu os k++if b then [] else [⟨9,(k:Int)+1,fu[k]⟩]:=by unfold jy;rw [List.range_succ,List.flatMap_append,a9P,hb,sQ,iA hk];rfl
theorem KI(fu os:List Int):∀k,aA (jy fu os k)<=k
 |0=>by simp [jy]
 |k+1=>by
  have:=KI fu os k;unfold jy at*;rw [List.range_succ,List.flatMap_append,a9P,cL];have h9:aA (if os.contains ((k:Int)+1) then ([]:List Dw) else [⟨9,(k:Int)+1,fu.getD k 0⟩])<=1:=by split<;>simp
  omega
def fQ(p:bz)(os:List Int):List (List Dw):=
 os.map (λm=> [⟨8,m,cN p.co m⟩])++os.map (λm=> [⟨9,m,cN p.fu m⟩])++ [vZ p.fu os,[⟨3,0,p.line⟩],[⟨4,0,p.cap⟩]]
theorem PB(W:aJ)(k m n:Int)(hn:aL n):LJ (aH (aC ⟨W.heap.size,0,aB⟩) 1 1) [⟨k,m,n⟩] (W.alloc (aK #[aG aF k,aG aF m,aG aF n] 196)):=
 ⟨_,_,rfl,λj u hu=>⟨W.heap.size,0,rfl,by simp,by rw [Nat.zero_add,cM _ _ _ j rfl,<-Array.getElem?_toList];simpa [gR,Dw.cells] using hu⟩,by simpa using hn,by simp⟩
theorem aIS {fu os:List Int}(h:∀x∈fu,aL x)(k:Nat):∀x∈jy fu os k,aL x.n:=by
 intro x hx;unfold jy at hx;obtain⟨i,_,hx⟩:=List.mem_flatMap.1 hx;split at hx
 ·simp at hx
 simp at hx;subst hx;show aL (fu[i]?.getD 0);rcases rF i (aA fu) with hl|hl
 ·rw [iA hl];exact h _ (cK hl)
 rw [LN hl];unfold aL;simp
theorem JP {l:List Int} {s:Nat}(h:s<aA l):cN l ((s:Int)+1)=l[s]:=by unfold cN;rw [show ((s:Int)+1-1).toNat=s by omega,sQ,iA h];rfl
theorem a4s {α β:Type}(f:α->β)(l:List α)(k:Nat):(l.take k).map f<+:l.map f:=⟨(l.drop k).map f,by rw [<-dY,List.take_append_drop]⟩
theorem aKG(p:bz)(os:List Int)(k:Nat):(os.take k).map (λm=> [(⟨8,m,cN p.co m⟩:Dw)])<+:fQ p os:=by unfold fQ;exact((a4s _ os k).trans (Zp _ _)).trans (Zp _ _)
theorem aKH(p:bz)(os:List Int)(k:Nat):os.map (λm=> [(⟨8,m,cN p.co m⟩:Dw)])++(os.take k).map (λm=> [(⟨9,m,cN p.fu m⟩:Dw)])<+:fQ p os:=by unfold fQ;exact((List.prefix_append_right_inj _).2 (a4s _ os k)).trans (Zp _ _)
theorem aKI(p:bz)(os:List Int):os.map (λm=> [(⟨8,m,cN p.co m⟩:Dw)])++os.map (λm=> [(⟨9,m,cN p.fu m⟩:Dw)])++ [vZ p.fu os]<+:fQ p os:=⟨[[⟨3,0,p.line⟩],[⟨4,0,p.cap⟩]],by simp [fQ]⟩
theorem aKJ(p:bz)(os:List Int):os.map (λm=> [(⟨8,m,cN p.co m⟩:Dw)])++os.map (λm=> [(⟨9,m,cN p.fu m⟩:Dw)])++ [vZ p.fu os]++ [[⟨3,0,p.line⟩]]<+:fQ p os:=⟨[[⟨4,0,p.cap⟩]],by simp [fQ]⟩
theorem aKK(p:bz)(os:List Int):os.map (λm=> [(⟨8,m,cN p.co m⟩:Dw)])++os.map (λm=> [(⟨9,m,cN p.fu m⟩:Dw)])++ [vZ p.fu os]++ [[⟨3,0,p.line⟩]]++ [[⟨4,0,p.cap⟩]]<+:fQ p os:=⟨[],by simp [fQ]⟩
theorem a6v(n n0 bo bp:Nat)(hn:3<=n)(p:bz)(os:List Int)(Ao:Option ai)(ko:Nat)(w:aJ)(hP:LV n0 w bo bp p os Ao ko)(ho:∀m∈os,1<=m/\m<=aA p.co)(hl:aA p.fu=aA p.co)(hc:aA p.co<=1000)(mH:aA os<=1000)(hIc:∀x∈p.co,aL x)(hIf:∀x∈p.fu,aL x)(hIl:aL p.line)(Pu:aL p.cap):
 Hands KY n aM 221 #[π bo,π bp] LJ (iQ n0 bo bp) (fQ p os) w:=by
 intro l J W hW hJ hY h0;have Gs:=hP.keep (iQ.bV hW);have Sk:=η hIc;have Yz:=η hIf;have td:=η (kT hIl Pu);have HJ:=η hJ;have HY:=η hY;have HO:=η ho;have Dx:=η hl;have HP:=η Gs;have gV:aA p.fu<=aA p.co:=by omega
 have hfg:aA p.co<=aA p.fu:=by omega
 clear hP hJ hY ho hl hW hIc hIf hIl Pu;refine callsIn_of_wp func221 rfl trivial ?_ rfl;simp only [ntmps221,List.size_toArray,uB,EC,Nat.reduceAdd,Nat.reduceSub,Array.replicate_succ,Array.replicate_zero,List.push_toArray,List.append_toArray,Fs,List.cons_append];have o0:=Gs.o;have c0:=Gs.c0;have c1:=Gs.c1;have c2:=Gs.c2;have c3:=Gs.c3;clear Gs
 gi_wp2
 gi_loopw [13] (λi wr=>∃k:Nat,k<=aA os/\i=ν k/\Hid (J ((os.take k).map (λm=> [⟨8,m,cN p.co m⟩])) wr/\iQ n0 bo bp W wr)) (λi _=>aA os-(ag i).toNat)
 case atStart=>exact⟨0,bL _,rfl,h0,iQ.refl _ _ _ _⟩
 case round=>
  obtain⟨k,hk,rfl,HK⟩:=hrel;have kO:=HP.o.keep HK.o.2;have o0:=kO.o;have c0:=kO.c0;have c1:=kO.c1;have c2:=kO.c2;have c3:=kO.c3;by_cases hlt:k<aA os
  ·obtain⟨ba,oa,rfl,mF,ha⟩:=tK kO.so hlt;obtain⟨tF,xF⟩:=HO.o _ (cK hlt);obtain⟨s,hs,hsm⟩:∃s:Nat,s<aA p.co/\os[k]=(s:Int)+1:=⟨(os[k]-1).toNat,by omega,by omega⟩;obtain⟨bc,oc,MC,gG,hcc⟩:=tK kO.sc hs;rw [MC] at c0;rw [hsm] at ha;have BU:aF.wrap ((s:Int)+1-1)=(s:Int):=by rw [sM _ (by omega)];omega
   have aG4:aF.wrap (s:Int)=(s:Int):=sM _ (by omega);have WQ:(s:Int)<(aA p.co:Int):=by omega
   gi_wp2
   refine⟨trivial,λ_=>by omega, ?_⟩;refine(sV.2 (PA _ _ _ _)).mono ?_;rintro e w2 ⟨rfl,hw2⟩;have gB:Hid (iQ n0 bo bp W w2):=η (by rw [<-hw2];exact HK.o.2.alloc _);have Ks:Hid (J ((os.take k).map (λm=> [⟨8,m,cN p.co m⟩])) w2):=η (by rw [<-hw2];exact HJ.o _ _ _ aB HK.o.1 (GM _ _ _) (λr e=>by cases e));have Hc:=PB wr 8 ((s:Int)+1) p.co[s] (Sk.o _ (cK hs));rw [hw2] at Hc;have cG:Hid ((os.take (k+1)).map (λm=> [⟨8,m,cN p.co m⟩])=(os.take k).map (λm=> [⟨8,m,cN p.co m⟩])++ [[(⟨8,(s:Int)+1,p.co[s]⟩:Dw)]]):=η (by rw [fF hlt,dY,a9U,hsm,JP hs]);obtain⟨fn,tmps,assign,body,hy,hR⟩:=HY.o _ _ _ _ Ks.o Hc (by rw [<-cG.o];exact aKG p os (k+1));clear Hc hw2
   gi_wp2
   refine⟨λ_=>by omega, ?_⟩;refine hR.mono ?_;rintro e W3 ⟨rfl,hJ3,hk3⟩;rw [<-cG.o] at hJ3;have oO:=η (kT hJ3 (gB.o.trans hk3));clear hJ3 hk3
   gi_wp2
   go_roundw
   case rel=>exact⟨k+1,by omega,by go_num,oO⟩
   case measure=>simp [ag];omega
  obtain rfl:k=aA os:=by omega
  have CM:Hid (J (os.map (λm=> [⟨8,m,cN p.co m⟩])++(os.take 0).map (λm=> [⟨9,m,cN p.fu m⟩])) wr/\iQ n0 bo bp W wr):=η (by have:=HK.o;rw [cU] at this;rw [nJ,List.map_nil,List.append_nil];exact this);clear HK kO
  gi_wp2
  gi_loopw [31] (λi wr=>∃k:Nat,k<=aA os/\i=ν k/\Hid (J (os.map (λm=> [⟨8,m,cN p.co m⟩])++(os.take k).map (λm=> [⟨9,m,cN p.fu m⟩])) wr/\iQ n0 bo bp W wr)) (λi _=>aA os-(ag i).toNat)
  case atStart=>exact⟨0,bL _,rfl,CM.o⟩
  case round=>
   clear CM;obtain⟨k,hk,rfl,HK⟩:=hrel;have kO:=HP.o.keep HK.o.2;have o0:=kO.o;have c0:=kO.c0;have c1:=kO.c1;have c2:=kO.c2;have c3:=kO.c3;by_cases hlt:k<aA os
   ·obtain⟨ba,oa,rfl,mF,ha⟩:=tK kO.so hlt;obtain⟨tF,xF⟩:=HO.o _ (cK hlt);obtain⟨s,hs,hsm⟩:∃s:Nat,s<aA p.co/\os[k]=(s:Int)+1:=⟨(os[k]-1).toNat,by omega,by omega⟩;have hs2:s<aA p.fu:=by omega
    obtain⟨bc,oc,MC,gG,hcc⟩:=tK kO.sf hs2;rw [MC] at c1;rw [hsm] at ha;have BU:aF.wrap ((s:Int)+1-1)=(s:Int):=by rw [sM _ (by omega)];omega
    have aG4:aF.wrap (s:Int)=(s:Int):=sM _ (by omega);have WQ:(s:Int)<(aA p.fu:Int):=by omega
    gi_wp2
    refine⟨trivial,λ_=>by omega, ?_⟩;refine(sV.2 (PA _ _ _ _)).mono ?_;rintro e w2 ⟨rfl,hw2⟩;have gB:Hid (iQ n0 bo bp W w2):=η (by rw [<-hw2];exact HK.o.2.alloc _);have Ks:Hid (J (os.map (λm=> [⟨8,m,cN p.co m⟩])++(os.take k).map (λm=> [⟨9,m,cN p.fu m⟩])) w2):=η (by rw [<-hw2];exact HJ.o _ _ _ aB HK.o.1 (GM _ _ _) (λr e=>by cases e));have Hc:=PB wr 9 ((s:Int)+1) p.fu[s] (Yz.o _ (cK hs2));rw [hw2] at Hc;have cG:Hid ((os.take (k+1)).map (λm=> [⟨9,m,cN p.fu m⟩])=(os.take k).map (λm=> [⟨9,m,cN p.fu m⟩])++ [[(⟨9,(s:Int)+1,p.fu[s]⟩:Dw)]]):=η (by rw [fF hlt,dY,a9U,hsm,JP hs2]);obtain⟨fn,tmps,assign,body,hy,hR⟩:=HY.o _ _ _ _ Ks.o Hc (by rw [List.append_assoc,<-cG.o];exact aKH p os (k+1));clear Hc hw2
    gi_wp2
    refine⟨λ_=>by omega, ?_⟩;refine hR.mono ?_;rintro e W3 ⟨rfl,hJ3,hk3⟩;rw [List.append_assoc,<-cG.o] at hJ3;have oO:=η (kT hJ3 (gB.o.trans hk3));clear hJ3 hk3
    gi_wp2
    go_roundw
    case rel=>exact⟨k+1,by omega,by go_num,oO⟩
    case measure=>simp [ag];omega
   obtain rfl:k=aA os:=by omega
   have Ku:=HK.o;rw [cU] at Ku;have CM:=η Ku;clear HK Ku kO;obtain⟨wm,hwm⟩:∃wm,wm=wr:=⟨_,rfl⟩;subst hwm;have ZL:Hid (wm.ownsRow wm.heap.size 196 3 (aH aB 0 0) (aA (jy p.fu os 0)) (gR (jy p.fu os 0))):=η ⟨by simp [jy,gR],aS ⟨rfl,rfl⟩⟩;obtain⟨i0,bj,hz0,fh,hz2⟩:=dK PY;obtain⟨Af,VE⟩:∃A,A=p.Af:=⟨_,rfl⟩;rw [<-VE] at c1;have HAF:=η VE;clear VE
   gi_wp2
   gi_loopw [8,50] (λu i wr=>∃k:Nat,k<=aA p.fu/\i=ν k/\Hid (wr.ownsRow wm.heap.size 196 3 u (aA (jy p.fu os k)) (gR (jy p.fu os k)))/\Hid (β wm wr)) (λ_ i _=>aA p.fu-(ag i).toNat)
   case atStart=>exact⟨0,bL _,rfl,ZL.o,aX _ _⟩
   case round=>
    obtain⟨k,hk,rfl,cB,af⟩:=hrel;have hsz:=af.o.size;have kO:=(HP.o.keep CM.o.2).keep (iQ.bV af.o);have o0:=kO.o;have c0:=kO.c0;have c1:=kO.c1;have c2:=kO.c2;have c3:=kO.c3;by_cases hlt:k<aA p.fu
    ·have WR:=kO.sf;rw [<-HAF.o] at WR c1;obtain⟨bf,of,rfl,hbf,nQ⟩:=tK WR hlt;clear WR;have HCT:=η (a1r os Ao ko ((k:Int)+1) wr (kO.so.mono kO.ln) (by omega));have cG:=η (λb=>a5e (os:=os) hlt b);have Ba:=KI p.fu os k;have BU:aF.wrap ((k:Int)+1)=(k:Int)+1:=sM _ (by omega);have hkb:(k:Int)<(aA p.fu:Int):=by omega
     have eV:(0:Int)<=(k:Int):=by omega
     clear kO
     gi_wp2
     refine⟨trivial,λ_=>by omega, ?_⟩;refine(sV.2 HCT.o).mono ?_;rintro e w9 ⟨rfl,rfl⟩;cases Gx:os.contains ((k:Int)+1) with
     |true=>
      have VL:=cB.o;have zB:=cG.o aO Gx;simp only [if_true,List.append_nil] at zB;rw [<-zB] at VL;have wJ:=η VL;clear VL zB cB Gx
      gi_wp2
      go_roundw
      case rel=>exact⟨k+1,by omega,by go_num,wJ,af⟩
      case measure=>simp [ag];omega
     |false=>
      have zB:=η (cG.o aP Gx);clear Gx;generalize jy p.fu os k=ys at*
      gi_wp2_with (gi_at_builtin;refine wpListIn_append_own _ rfl _ _ 257 rfl wm.heap.size 196 i0 _ 3 24 underlying257 bj hz0 fh hz2 rfl (by decide) _ (aA ys) (gR ys) rfl (cB.o.alloc _) ⟨wr.heap.size,0,aB⟩ 1 1 (Dw.cells ⟨9,(k:Int)+1,p.fu[k]⟩) rfl rfl (dM _ _ #[_,_,_] (by simp)) (Ut ⟨9,(k:Int)+1,p.fu[k]⟩) (by simp only [bK];omega) (by omega) (by simp;omega) ?_)
      intro v' w4 hown1 dE _;have dU:Hid (w4.ownsRow wm.heap.size 196 3 v' (aA (jy p.fu os (k+1))) (gR (jy p.fu os (k+1)))):=η (by rw [zB.o];simp only [YJ,if_false];rw [a2S,cL,uC];exact hown1);have ar:Hid (β wm w4):=η ((af.o.alloc hsz _).grown dE (by simp;omega) (λj hj=>ei cB.o j hj));clear hown1 dE
      gi_wp2
      go_roundw
      case rel=>exact⟨k+1,by omega,by go_num,dU,ar⟩
      case measure=>simp [ag];omega
    obtain rfl:k=aA p.fu:=by omega
    obtain⟨A8,c8,rfl⟩:=bJ cB.o;have Z6:=η (HJ.o _ _ _ aB CM.o.1 (show wm.grownBy wr aB from⟨af.o.os,af.o.tape,af.o.output,af.o.size,λj hj _=>af.o.block j hj⟩) (λr e=>by cases e));have zD:Hid (iQ n0 bo bp W wr):=η (CM.o.2.trans (iQ.bV af.o));have Dt:Hid (LJ (aH A8 (aA (jy p.fu os (aA p.fu))) c8) (vZ p.fu os) wr):=η ⟨A8,c8,rfl,aW.cA cB.o,aIS Yz.o _,by have:=KI p.fu os (aA p.fu);show aA (jy p.fu os (aA p.fu))<=1000;omega⟩;clear kO o0 c0 c1 c2 c3 cB af CM ZL;obtain⟨fn,tmps,assign,body,hy,hR⟩:=HY.o _ _ _ _ Z6.o Dt.o (aKI p os)
    gi_wp2
    refine⟨λ_=>by omega, ?_⟩;refine hR.mono ?_;rintro e W3 ⟨rfl,hJ3,hk3⟩;clear hR hy Dt Z6;have Sr:=η hJ3;have mB:=η (zD.o.trans hk3);clear hJ3 hk3;have c2:=(HP.o.keep mB.o).c2
    gi_wp2
    refine⟨trivial,λ_=>by omega, ?_⟩;refine(sV.2 (PA _ _ _ _)).mono ?_;rintro e W3a ⟨rfl,Wa⟩;have a8y:Hid (iQ n0 bo bp W W3a):=η (by rw [<-Wa];exact mB.o.alloc _);have Z4:=η (HJ.o _ _ _ aB Sr.o (GM W3 (aK #[ν 3,ν 0,ν p.line] 196) _) (λr e=>by cases e));have Vf:=PB W3 3 0 p.line td.o.1;rw [Wa] at Vf Z4;obtain⟨fn,tmps,assign,body,hy,hR⟩:=HY.o _ _ _ _ Z4.o Vf (aKJ p os);clear Wa Vf
    gi_wp2
    refine⟨λ_=>by omega, ?_⟩;refine hR.mono ?_;rintro e W5 ⟨rfl,a3L,a3N⟩;clear hR hy;have HJ5:=η a3L;have pT:=η (a8y.o.trans a3N);clear a3L a3N;have c3:=(HP.o.keep pT.o).c3
    gi_wp2
    refine⟨trivial,λ_=>by omega, ?_⟩;refine(sV.2 (PA _ _ _ _)).mono ?_;rintro e W5a ⟨rfl,Wb⟩;have a8z:Hid (iQ n0 bo bp W W5a):=η (by rw [<-Wb];exact pT.o.alloc _);have Z7:=η (HJ.o _ _ _ aB HJ5.o (GM W5 (aK #[ν 4,ν 0,ν p.cap] 196) _) (λr e=>by cases e));have Vg:=PB W5 4 0 p.cap td.o.2;rw [Wb] at Vg Z7;obtain⟨fn,tmps,assign,body,hy,hR⟩:=HY.o _ _ _ _ Z7.o Vg (aKK p os);clear Wb Vg
    gi_wp2
    refine⟨λ_=>by omega, ?_⟩;refine hR.mono ?_;rintro e W7 ⟨rfl,a3M,a3O⟩;clear hR hy;have HJ7:=η a3M;have ZY:=η (a8z.o.trans a3O);clear a3M a3O
    gi_wp2
    go_end0
    refine⟨⟨_,rfl⟩, ?_⟩;have e9:fQ p os=os.map (λm=> [⟨8,m,cN p.co m⟩])++os.map (λm=> [⟨9,m,cN p.fu m⟩])++ [vZ p.fu os]++ [[⟨3,0,p.line⟩]]++ [[⟨4,0,p.cap⟩]]:=by simp [fQ]
    rw [e9];exact HJ7.o
end
structure AU(w:aJ)(A:Option ai)(c:Nat)(zs:List Int):Prop where
 dh:aW w w.heap.size A (zs.map (aG aF))
 nil:A=aB->aA zs=0/\c=0
theorem AU.below {w w':aJ} {A:Option ai} {c:Nat} {zs:List Int}(h:AU w A c zs)(hb:aa w.heap.size w w'):AU w' A c zs:=⟨(h.dh.below hb).mono hb.size,h.nil⟩
theorem aC6(zs:List Int):∀u∈zs.map (aG aF),u.oneCell'=aO:=by intro u hu;obtain⟨x,_,rfl⟩:=dV.1 hu;rfl
theorem UL:(aM.info? 2).map (λi=>(i.zero,i.size,i.bytes))=aC (aC (aG aF 0),1,8):=by kernel_rfl
theorem YD {w:aJ} {ops:Array Oper} {rest:List Oper} {o:Oper} {a:Act} {Q:Exit->Act->aJ->Prop}(hgd:o.guard=aB)(s x:Operand)
 (ho:o.op= .call {callee:= .builtin .append,args:= #[s,x],argTypes:= #[53,53]}) (base:Nat)
 (v:aN) (n:Nat) (xs:List aN) (hs:a.eval s=v) (hown:w.ownsRow base 2 1 v n xs)
 (A:Option ai) (c:Nat) (L:List Int) (hx:a.eval x=aH A (aA L) c) (hz:AU w A c L) (hlen:n+aA L<=1000000) (hbase:base<=w.heap.size)
 (h:∀v' w',w'.ownsRow base 2 1 v' (n+aA L) (xs++L.map (aG aF))->w.grownBy w' v.ownBlock->wpList aM ops Q rest (a.put o.dst v') w'):wpList aM ops Q (o::rest) a w:=by
 obtain⟨i0,bj,hz0,hz1,hz2⟩:=dK UL;cases A with
 |none=>
  obtain⟨h1,rfl⟩:=hz.nil rfl;obtain rfl:L= []:=nG h1;refine wpList_append_own_none hgd s x 53 ho base 2 i0 1 mD bj v n xs hs hown hx (h v w (by simpa using hown) ⟨rfl,rfl,rfl,aZ _,λ_ _ _=>rfl⟩)
 |some ad=>
  refine iw w hgd s x 53 ho base 2 i0 _ 1 8 mD bj hz0 hz1 hz2 rfl (by decide) v n xs hs hown ad (aA L) c (L.map (aG aF)) hx (by simp) ?_ (aC6 L) (by simp only [bK];omega) (by omega) hbase ?_
  ·intro j u hu;obtain⟨b,o',e,_,hc⟩:=hz.dh j u hu;have e:=od e;subst e;have ea:(⟨b,o',aB⟩:ai).add j=⟨b,o'+j,aB⟩:=by unfold Addr.add;split<;>simp_all
   rw [ea];exact hc
  intro v' w' h1 h2 _;exact h v' w' h1 h2
theorem aFS(w:aJ)(n:Nat)(hn:n<=1000000):jn (w.drew.alloc (aK (([]:List aN).toArray++Dl (aG aF 0).cells (0+n-0)++Dl (aG aF 0).cells (xB w (0+n) 0 2-(0+n))) 2)) w.heap.size 2 1 (aH (aC ⟨w.heap.size,0,aB⟩) 0 (xB w (0+n) 0 2)) 0 []:=a3F w _ n 1 _ rfl hn
def YT(l:List Int)(w:aJ)(e:di)(w':aJ):Prop:=∃A c,e=aU (aH A (aA l) c)/\aW w' w'.heap.size A (l.map (aG aF))/\aa w.heap.size w w'
theorem aDq(z1 z2:List Int)(x y:Int)(A1 A2 A3:Option ai)(c1 c2 c3 g:Nat)(w:aJ)(h1:AU w A1 c1 z1)(h2:AU w A2 c2 z2)(h3:AU w A3 c3 [x,y])(g0:w.cell? ⟨g,0,aB⟩=aC (aH A1 (aA z1) c1))(g1:w.cell? ⟨g,1,aB⟩=aC (aH A2 (aA z2) c2))(g2:w.cell? ⟨g,2,aB⟩=aC (aH A3 2 c3))(hg:g<w.heap.size)(oD:aA z1<=1000)(hl2:aA z2<=1000):
 aQ aM 253 #[aH (aC ⟨g,0,aB⟩) 3 3] w (YT (z1++z2++ [x,y]) w):=by
 have H1:=η h1;have H2:=η h2;have H3:=η h3;clear h1 h2 h3;have G1:=η g1;have G2:=η g2;have yP:aF.wrap ((aA z1:Int)+aA z2)=(aA z1:Int)+aA z2:=sM _ (by omega);have hw2:aF.wrap ((aA z1:Int)+aA z2+2)=(aA z1:Int)+aA z2+2:=sM _ (by omega);obtain⟨i0,bj,hz0,hz1,hz2⟩:=dK UL;go_enter func253,ntmps253
 go_wp2_with fail
 refine uY 4 ?_;rw [eA];go_wp2_with fail
 rw [eA];go_wp2_with fail
 rw [eA];go_wp2_with fail
 rw [eA];go_wp2_with fail
 clear yP hw2;rw [show ((aA z1:Int)+(aA z2:Int)+2)=((aA z1+aA z2+2:Nat):Int) from by omega];refine(Any8.slices_Grow_grow growA i0 (ν 0) bj hz0 (by rw [hz1];decide) aB 0 0 (aA z1+aA z2+2) [] _ (by omega) (by omega) (by rw [hz2];omega) (by omega) (by simp) (λ_=>rfl) (λa h=>by cases h)).mono ?_;rintro e w2 ⟨rfl,hw2⟩;have qG:Hid (w2.ownsRow w.heap.size 2 1 (aH (aC ⟨w.heap.size,0,aB⟩) 0 (xB w (0+(aA z1+aA z2+2)) 0 2)) 0 []):=by show jn _ _ _ _ _ _ _;rw [hw2];exact aFS w (aA z1+aA z2+2) (by omega)
 have sK:Hid (β w w2):=by show RowKit.Below _ _ _;rw [hw2];exact(aX _ _).drew.alloc (aZ _) _
 have HZ:=η sK.o.size;have vx:=η (H1.o.below sK.o);have p0:w2.cell? ⟨g,0,aB⟩=aC (aH A1 (aA z1) c1):=(sK.o.cell (p:=⟨g,0,aB⟩) hg).trans g0;clear hw2 g0 g1 g2;rw [show (growA_ren.t 25)=2 from rfl];generalize xB w (0+(aA z1+aA z2+2)) 0 2=cap at*;go_wp2_with fail
 refine uY 4 ?_;rw [eA];go_wp2_with (at_builtin;refine YD rfl _ _ rfl w.heap.size _ 0 [] rfl qG.o A1 c1 z1 rfl vx.o (by omega) HZ.o ?_)
 intro v3 w3 ik hg3;have cB:Hid (w3.ownsRow w.heap.size 2 1 v3 (aA z1) (z1.map (aG aF))):=by show jn _ _ _ _ _ _ _;simpa using ik
 have mB:Hid (β w w3):=η (sK.o.trans ((aX _ _).grown hg3 HZ.o (λj hj=>ei qG.o j hj)));have q1:w3.cell? ⟨g,1,aB⟩=aC (aH A2 (aA z2) c2):=(mB.o.cell (p:=⟨g,1,aB⟩) hg).trans G1.o;have CD:=η (H2.o.below mB.o);have uk:=η mB.o.size;clear ik hg3;go_wp2_with fail
 rw [eA];go_wp2_with (at_builtin;refine YD rfl _ _ rfl w.heap.size _ (aA z1) (z1.map (aG aF)) rfl cB.o A2 c2 z2 rfl CD.o (by omega) uk.o ?_)
 intro v4 w4 gL hg4;have dU:Hid (w4.ownsRow w.heap.size 2 1 v4 (aA z1+aA z2) ((z1++z2).map (aG aF))):=by show jn _ _ _ _ _ _ _;rw [dY];exact gL
 have zD:Hid (β w w4):=η (mB.o.trans ((aX _ _).grown hg4 uk.o (λj hj=>ei cB.o j hj)));have q2:w4.cell? ⟨g,2,aB⟩=aC (aH A3 2 c3):=(zD.o.cell (p:=⟨g,2,aB⟩) hg).trans G2.o;have a8X:=η (H3.o.below zD.o);have Zh:=η zD.o.size;clear gL hg4 q1;generalize hzz:(z1++z2).map (aG aF)=zz at*;have HZZ:=η hzz;clear hzz;go_wp2_with fail
 rw [eA];go_wp2_with (at_builtin;refine YD rfl _ _ rfl w.heap.size _ (aA z1+aA z2) zz rfl dU.o A3 c3 [x,y] rfl a8X.o (by simp;omega) Zh.o ?_)
 intro v5 w5 jA eZ;have fK:Hid (w5.ownsRow w.heap.size 2 1 v5 (aA (z1++z2++ [x,y])) ((z1++z2++ [x,y]).map (aG aF))):=by show jn _ _ _ _ _ _ _;rw [dY,HZZ.o,cL,cL];exact jA
 have pT:Hid (β w w5):=η (zD.o.trans ((aX _ _).grown eZ Zh.o (λj hj=>ei dU.o j hj)));clear jA eZ q2;go_wp2_with fail
 rw [eA];go_wp2_with fail
 go_ret;obtain⟨A4,c4,rfl⟩:=bJ fK.o;exact⟨A4,c4,rfl,aW.cA fK.o,pT.o⟩
theorem aJs(w:aJ)(t:bX)(xs:List aN) {b:Nat}(hb:b=w.heap.size):aW (w.alloc (aK xs.toArray t)) (w.alloc (aK xs.toArray t)).heap.size (aC ⟨b,0,aB⟩) xs:=λj u hu=>
 ⟨b,0,rfl,by rw [hb];simp,by rw [Nat.zero_add,cM _ _ _ j hb,<-Array.getElem?_toList];exact hu⟩
def bz.val(p:bz):aN:=bO #[aH p.Ac (aA p.co) p.cc,aH p.Af (aA p.fu) p.cf,aG aF p.line,aG aF p.cap]
structure Ce(w:aJ)(p:bz):Prop where
 c:AU w p.Ac p.cc p.co
 f:AU w p.Af p.cf p.fu
theorem Ce.below {w w':aJ} {p:bz}(h:Ce w p)(hb:aa w.heap.size w w'):Ce w' p:=⟨h.c.below hb,h.f.below hb⟩
def xP(n:Int):Bool:=decide (0<=n)&&decide (n<=1099511627776)
def fU(p:bz):List Int:=p.co++p.fu++ [p.line,p.cap]
def FA(p:bz):Bool:=decide (aA p.co=aA p.fu)&&(decide (aA p.co<=16)&&(fU p).all xP)
def iv(p:bz):Int:=if FA p then 0 else 1
theorem aJ4 {p:bz}(h:¬aA p.co=aA p.fu):iv p=1:=by unfold iv FA;rw [decide_eq_false h];rfl
theorem aJ3 {p:bz}(h:¬aA p.co<=16):iv p=1:=by unfold iv FA;rw [decide_eq_false h,Bool.false_and,IV];rfl
theorem aJ2 {p:bz} {k:Nat}(hk:k<aA (fU p))(h:xP (fU p)[k]=aP):iv p=1:=by
 have:(fU p).all xP=aP:=by rw [JE];exact⟨_,cK hk,by rw [h];decide⟩
 unfold iv FA;rw [this,IV,IV];rfl
theorem XM {p:bz}(h1:aA p.co=aA p.fu)(h2:aA p.co<=16)(h:∀k (hk:k<aA (fU p)),xP (fU p)[k]=aO):iv p=0:=by
 have:(fU p).all xP=aO:=by rw [List.all_eq_true];intro x hx;obtain⟨k,hk,rfl⟩:=List.getElem_of_mem hx;exact h k hk
 unfold iv FA;rw [this,decide_eq_true h1,decide_eq_true h2];rfl
theorem aIm(p:bz)(w:aJ)(h:Ce w p)(hc:aA p.co<=bK):
 aQ aM 220 #[p.val] w λe w'=>e=aU (ν (iv p))/\β w w':=by
 unfold bK at hc;have aY:Hid (β w (w.alloc (aK #[aH p.Ac (aA p.co) p.cc,aH p.Af (aA p.fu) p.cf,ν p.line,ν p.cap] 193))):=η σ;have HP:=η h;clear h;unfold bz.val;by_cases h1:aA p.co=aA p.fu
 ·by_cases h2:aA p.co<=16
  ·have HC:Hid (∀(W:aJ) (A3:Option ai) (c3 g:Nat),β w W->AU W A3 c3 [p.line,p.cap]->W.cell? ⟨g,0,aB⟩=aC (aH p.Ac (aA p.co) p.cc)->W.cell? ⟨g,1,aB⟩=aC (aH p.Af (aA p.fu) p.cf)->W.cell? ⟨g,2,aB⟩=aC (aH A3 2 c3)->g<W.heap.size->aQ aM 253 #[aH (aC ⟨g,0,aB⟩) 3 3] W (YT (fU p) W)):=η λW A3 c3 g hW h3 g0 g1 g2 hg=>aDq p.co p.fu p.line p.cap p.Ac p.Af A3 p.cc p.cf c3 g W (HP.o.c.below hW) (HP.o.f.below hW) h3 g0 g1 g2 hg (by omega) (by omega)
   have HG:=η (XM h1 h2);have lD:=η (λk hk=>aJ2 (p:=p) (k:=k) hk);have hpl:aA (fU p)<=100:=by unfold fU;simp;omega
   have hne:((aA p.co:Int) !=(aA p.fu:Int))=aP:=by rw [h1];simp
   have Ha:decide ((16:Int)<(aA p.co:Int))=aP:=decide_eq_false (by omega);clear h1;generalize fU p=L at*;generalize iv p=pe at*;go_enter a0K,a0d
   go_wp2_with fail
   refine(HC.o _ (aC ⟨w.heap.size+1,0,aB⟩) 2 (w.heap.size+2) ?_ ⟨?_,λe=>by cases e⟩ ?_ ?_ ?_ (by simp)).mono ?_
   ·exact(σ.alloc (by simp) _).alloc (by simp;omega) _
   ·exact((aJs _ 2 [ν p.line,ν p.cap] (by simp)).below σ).mono (by simp)
   ·rw [cM _ _ _ _ (by simp)];rfl
   ·rw [cM _ _ _ _ (by simp)];rfl
   ·rw [cM _ _ _ _ (by simp)];rfl
   rintro e w1 ⟨A1,c1,rfl,hs1,hb1⟩;have cW:=η hs1;have aR:Hid (β w w1):=η (((σ.alloc (by simp) _).alloc (by simp;omega) _).trans (hb1.mono (by simp;omega)));clear hs1 hb1 HC;go_wp2_with fail
   go_loop [30] (λi=>∃k:Nat,k<=aA L/\i=ν k/\Hid (∀j (hj:j<aA L),j<k->xP L[j]=aO)) (λi=>aA L-(ag i).toNat)
   case atStart=>exact⟨0,bL _,rfl,λj _ h=>absurd h (Nat.not_lt_zero _)⟩
   case round=>
    obtain⟨k,hk,rfl,HK⟩:=hrel;by_cases hlt:k<aA L
    ·obtain⟨b,o,rfl,hb,d0⟩:=tK cW.o hlt;have dP:Hid (xP L[k]=(decide (0<=L[k])&&decide (L[k]<=1099511627776))):=η rfl;have FY:=η (lD.o k hlt);have lT:Hid (xP L[k]=aO->∀j (hj:j<aA L),j<k+1->xP L[j]=aO):=η λh j hj hjk=>by
      by_cases e:j=k
      ·subst e;exact h
      exact HK.o j hj (by omega)
     generalize xP L[k]=ok at*;generalize L[k]=x at*;by_cases hx0:x<0
     ·have hE:ok=aP:=by rw [dP.o,decide_eq_false (by omega)];rfl
      have HE:=η (FY.o hE);clear hE;go_wp2_with fail
      go_ret;exact⟨cY HE.o.symm,aR.o⟩
     have hxd:decide (x<0)=aP:=decide_eq_false hx0;by_cases hx1:1099511627776<x
     ·have hE:ok=aP:=by rw [dP.o,decide_eq_false (by omega:¬x<=1099511627776),IV]
      have HE:=η (FY.o hE);clear hE;go_wp2_with fail
      go_ret;exact⟨cY HE.o.symm,aR.o⟩
     have Qd:decide (1099511627776<x)=aP:=decide_eq_false hx1;have hE:ok=aO:=by rw [dP.o,decide_eq_true (by omega:0<=x),decide_eq_true (by omega:x<=1099511627776)];rfl
     have oO:=η (lT.o hE);clear hE;go_wp2_with fail
     go_round
     case rel=>exact⟨k+1,by omega,by go_num,oO⟩
     case measure=>simp [ag];omega
    obtain rfl:k=aA L:=by omega
    have HE:=η (HG.o λj hj=>HK.o j hj hj);go_wp2_with fail
    go_ret;exact⟨cY HE.o.symm,aR.o⟩
  have HE:=η (aJ3 h2);have hne:((aA p.co:Int) !=(aA p.fu:Int))=aP:=by rw [h1];simp
  have Ha:decide ((16:Int)<(aA p.co:Int))=aO:=decide_eq_true (by omega);clear h1 HP;generalize iv p=pe at*;go_enter a0K,a0d
  go_wp2_with fail
  go_ret;exact⟨cY HE.o.symm,aY.o⟩
 have HE:=η (aJ4 h1);have hne:((aA p.co:Int) !=(aA p.fu:Int))=aO:=by simp [bne];omega
 clear h1 HP;generalize iv p=pe at*;go_enter a0K,a0d
 go_wp2_with fail
 go_ret;exact⟨cY HE.o.symm,aY.o⟩
def tM(n:Nat)(os:List Int)(k:Nat):Bool:=decide (os.getD k 0<1)||(decide ((n:Int)<os.getD k 0)||(decide (0<k)&&decide (os.getD k 0<=os.getD (k-1) 0)))
def gH(p:bz)(os:List Int):Int:=if iv p≠0 then iv p else if (dQ (aA os)).any (tM (aA p.co) os) then 9 else 0
theorem X0 {p:bz} {os:List Int} {k:Nat}(h0:iv p=0)(hk:k<aA os)(h:tM (aA p.co) os k=aO):gH p os=9:=by unfold gH;rw [ifN (by omega),ifP (kK.2 ⟨k,nH.2 hk,h⟩)]
theorem a4v {p:bz} {os:List Int}(h0:iv p=0)(h:∀k,k<aA os->tM (aA p.co) os k=aP):gH p os=0:=by unfold gH;rw [ifN (by omega),ifN];rw [kK];rintro⟨k,hk,h9⟩;rw [h k (nH.1 hk)] at h9;cases h9
theorem getD_at {l:List Int} {k:Nat}(h:k<aA l):l.getD k 0=l[k]:=by rw [sQ,iA h];rfl
theorem a4w(p:bz)(os:List Int)(A:Option ai)(c:Nat)(w:aJ)(h:Ce w p)(hc:aA p.co<=bK)(hs:aW w w.heap.size A (os.map (aG aF)))(hl:aA os<=100000)(hI:∀x∈os,aL x):
 aQ aM 183 #[p.val,aH A (aA os) c] w λe w'=>e=aU (ν (gH p os))/\β w w':=by
 have aY:Hid (β w (w.alloc (aK #[aH p.Ac (aA p.co) p.cc,aH p.Af (aA p.fu) p.cf,ν p.line,ν p.cap] 193))):=η σ;have HC:Hid (∀W,β w W->aQ aM 220 #[p.val] W λe w'=>e=aU (ν (iv p))/\β W w'):=η λW hW=>aIm p W (h.below hW) hc
 have bQ:(w.alloc (aK #[aH p.Ac (aA p.co) p.cc,aH p.Af (aA p.fu) p.cf,ν p.line,ν p.cap] 193)).cell? ⟨w.heap.size,0,aB⟩=aC (aH p.Ac (aA p.co) p.cc):=by rw [cM _ _ _ _ rfl];rfl
 have hbl:w.heap.size<(w.alloc (aK #[aH p.Ac (aA p.co) p.cc,aH p.Af (aA p.fu) p.cf,ν p.line,ν p.cap] 193)).heap.size:=by simp
 have dN:=η (kT bQ hbl);have HS:=η hs;have HD:Hid (gH p os=if iv p≠0 then iv p else if (dQ (aA os)).any (tM (aA p.co) os) then 9 else 0):=η rfl;have HG:=η (λ(h0:iv p=0)=>a4v (p:=p) (os:=os) h0);have lD:=η (λ(h0:iv p=0) k (hk:k<aA os)=>X0 (p:=p) (os:=os) (k:=k) h0 hk);unfold bK at hc;generalize gH p os=me at*;unfold bz.val at*;go_enter func183,ntmps183
 go_wp2_with fail
 generalize w.alloc (aK #[aH p.Ac (aA p.co) p.cc,aH p.Af (aA p.fu) p.cf,ν p.line,ν p.cap] 193)=w0 at*;refine(HC.o _ aY.o).mono ?_;rintro e w1 ⟨rfl,hb1⟩;have aR:Hid (β w w1):=τ aY hb1;have bQ:w1.cell? ⟨w.heap.size,0,aB⟩=aC (aH p.Ac (aA p.co) p.cc):=(hb1.cell (p:=⟨w.heap.size,0,aB⟩) dN.o.2).trans dN.o.1;by_cases h0:iv p=0
 ·rw [h0];have HG:=η (HG.o h0);have lD:=η (lD.o h0);go_wp2_with fail
  go_loop [6,16] (λla i=>∃k:Nat,∃lv:Int,k<=aA os/\i=ν k/\la=ν lv/\0<=lv/\Hid (lv=if k=0 then 0 else os.getD (k-1) 0)/\Hid (∀j,j<k->tM (aA p.co) os j=aP)) (λ_ i=>aA os-(ag i).toNat)
  case atStart=>exact⟨0,0,bL _,rfl,rfl,dH _,rfl,λj h=>absurd h (Nat.not_lt_zero _)⟩
  case round=>
   obtain⟨k,lv,hk,rfl,rfl,hlv,lH,HK⟩:=hrel;by_cases hlt:k<aA os
   ·obtain⟨b,o,rfl,hb,d0⟩:=tK (HS.o.below aR.o) hlt;have tq:Hid (tM (aA p.co) os k=(decide (os[k]<1)||(decide ((aA p.co:Int)<os[k])||(decide (0<k)&&decide (os[k]<=os.getD (k-1) 0))))):=η (by unfold tM;rw [getD_at hlt]);have FY:=η (lD.o k hlt);have OC:Hid (os.getD k 0=os[k]):=η (getD_at hlt);generalize os[k]=x at*;by_cases h1:x<=lv
    ·have hE:tM (aA p.co) os k=aO:=by
      rw [tq.o];have:=lH.o;by_cases eV:k=0
      ·rw [ifP eV] at this;rw [decide_eq_true (by omega:x<1)];rfl
      rw [ifN eV] at this;rw [decide_eq_true (by omega:0<k),decide_eq_true (by omega:x<=os.getD (k-1) 0)];simp
     have HE:=η (FY.o hE);go_wp2_with fail
     go_ret;exact⟨cY HE.o.symm,aR.o⟩
    have h1d:decide (x<=lv)=aP:=decide_eq_false h1;by_cases h2:(aA p.co:Int)<x
    ·have hE:tM (aA p.co) os k=aO:=by
      rw [tq.o,decide_eq_true h2];simp
     have HE:=η (FY.o hE);go_wp2_with fail
     go_ret;exact⟨cY HE.o.symm,aR.o⟩
    have VC:decide ((aA p.co:Int)<x)=aP:=decide_eq_false h2;have hE:tM (aA p.co) os k=aP:=by
     rw [tq.o];have:=lH.o;by_cases eV:k=0
     ·subst eV;rw [decide_eq_false (by omega:¬x<1),VC];rfl
     rw [ifN eV] at this;rw [decide_eq_false (by omega:¬x<1),VC,decide_eq_false (by omega:¬x<=os.getD (k-1) 0)];simp
    have lT:Hid (∀j,j<k+1->tM (aA p.co) os j=aP):=η λj hj=>by
     by_cases e:j=k
     ·subst e;exact hE
     exact HK.o j (by omega)
    have CN:Hid (x=if k+1=0 then 0 else os.getD (k+1-1) 0):=η (by rw [ifN (by omega),Nat.add_sub_cancel];exact OC.o.symm);go_wp2_with fail
    go_round
    case rel=>exact⟨k+1,x,by omega,by go_num,rfl,by omega,CN,lT⟩
    case measure=>simp [ag];omega
   obtain rfl:k=aA os:=by omega
   have HE:=η (HG.o HK.o);go_wp2_with fail
   go_ret;exact⟨cY HE.o.symm,aR.o⟩
 have HE:Hid (me=iv p):=η (by rw [HD.o,ifP h0]);generalize iv p=pe at*;have Hl:(pe !=0)=aO:=by simpa [bne] using h0
 go_wp2_with fail
 go_ret;exact⟨cY HE.o.symm,aR.o⟩
section
open Go.Shelf
attribute [local go_sem] Oper.semAt_some
theorem a6u(p:bz)(A:Option ai)(n c:Nat)(w:aJ):
 aQ aM 187 #[p.val,aH A n c] w λe w'=>e=aU (.func (.func 221) #[] #[π (w.heap.size+1),π w.heap.size])/\(w.alloc (aK #[aH p.Ac (aA p.co) p.cc,aH p.Af (aA p.fu) p.cf,ν p.line,ν p.cap] 193)).alloc (aK #[aH A n c] 46)=w':=by
 unfold bz.val;go_enter func187,ntmps187
 go_wp2
 go_ret;exact⟨rfl,rfl⟩
theorem a5s(p:bz)(os:List Int)(A:Option ai)(c n1:Nat)(w:aJ)(h:Ce w p)(hs:aW w w.heap.size A (os.map (aG aF)))(hn:w.heap.size=n1):
 ∀W,iQ n1 n1 n1 w W->LV n1 ((W.alloc (aK #[aH p.Ac (aA p.co) p.cc,aH p.Af (aA p.fu) p.cf,ν p.line,ν p.cap] 193)).alloc (aK #[aH A (aA os) c] 46)) (W.heap.size+1) W.heap.size p os A c:=by
 intro W hW;subst hn;have hsz:=hW.size;have hk:∀q:ai,q.block<w.heap.size->((W.alloc (aK #[aH p.Ac (aA p.co) p.cc,aH p.Af (aA p.fu) p.cf,ν p.line,ν p.cap] 193)).alloc (aK #[aH A (aA os) c] 46)).cell? q=w.cell? q:=λq hq=>by rw [qO _ _ _ (by simp;omega),qO _ _ _ (by omega)];exact gg (hW.keep q.block (.inl hq) hq)
 refine⟨by rw [cM _ _ _ _ (by simp)];rfl, ?_, ?_, ?_, ?_,hs.keep hk,h.c.dh.keep hk,h.f.dh.keep hk,by simp,by simp;omega,by simp;omega⟩
 all_goals
  rw [BH _ _ _ (by simp),cM _ _ _ _ rfl];rfl
def Bq(ys:List (List Dw)):Int:=ys.foldl (λn y=>aF.wrap (n+s7 y)) 0
theorem aJR(ys:List (List Dw))(y:List Dw):Bq (ys++ [y])=aF.wrap (Bq ys+s7 y):=by simp [Bq]
def qg(p:bz)(os:List Int):Int:=if gH p os=0 then Bq (fQ p os) else 0
structure EH(p:bz)(os:List Int):Prop where
 len:aA p.fu=aA p.co
 big:aA p.co<=16
 os1:∀m∈os,1<=m/\m<=aA p.co
 all:∀x∈fU p,0<=x/\x<=1099511627776
theorem yS {p:bz} {os:List Int}(h:gH p os=0):EH p os:=by
 have h0:iv p=0:=by
  unfold gH at h;by_cases h0:iv p=0
  ·exact h0
  rw [ifP h0] at h;exact h
 have hb:FA p=aO:=by
  unfold iv at h0;by_cases hb:FA p=aO
  ·exact hb
  rw [ifN hb] at h0;exact absurd h0 (by decide)
 unfold FA at hb;simp only [jX,decide_eq_true_eq] at hb;refine⟨hb.1.symm,hb.2.1,λm hm=> ?_,λx hx=> ?_⟩
 ·obtain⟨k,hk,rfl⟩:=List.getElem_of_mem hm;by_cases Ec:tM (aA p.co) os k=aO
  ·rw [X0 h0 hk Ec] at h;exact absurd h (by decide)
  have hf:tM (aA p.co) os k=aP:=by simpa using Ec
  unfold tM at hf;rw [getD_at hk] at hf;simp only [Bool.or_eq_false_iff,decide_eq_false_iff_not] at hf;omega
 have:=List.all_eq_true.1 hb.2.2 x hx;unfold xP at this;simp only [jX,decide_eq_true_eq] at this;exact this
theorem EH.i64 {p:bz} {os:List Int}(h:EH p os):(∀x∈p.co,aL x)/\(∀x∈p.fu,aL x)/\aL p.line/\aL p.cap:=by
 have k:∀x∈fU p,aL x:=λx hx=>by have:=h.all x hx;unfold aL;omega
 exact⟨λx hx=>k x (by simp [fU,hx]),λx hx=>k x (by simp [fU,hx]),k _ (by simp [fU]),k _ (by simp [fU])⟩
theorem a4Z {n1 bo bp:Nat} {A B C:aJ}(h:iQ n1 bo bp A B)(k:iQ n1 bo bp B C):iQ n1 bo bp A C:=h.trans k
theorem a4Y {n1 bo bp B:Nat}(h1:n1<=B)(h2:bo<B)(h3:bp<B):∀(W:aJ) (l:Nat) (o o':Obj),B<=l->W.heap[l]? =aC o->o.isCells=aP->o.isWalk=aP->iQ n1 bo bp W (W.putObj l o'):=λ_ _ _ _ hl _ _ _=>
 ⟨by simp [aBn],λ_ hk _=>P5 (by omega)⟩
theorem a3g(v:aN)(y:List Dw)(W:aJ)(l:Nat)(o o':Obj)(h:LJ v y W)(hl:W.heap[l]? =aC o)(ho:o.isCells=aP):LJ v y (W.putObj l o'):=by
 obtain⟨A,c,e,hs,h1,h2⟩:=h;refine⟨A,c,e,λj u hu=> ?_,h1,h2⟩;obtain⟨b,o9,e9,hb,hc⟩:=hs j u hu;refine⟨b,o9,e9,by simpa [aBn] using hb, ?_⟩;have hne:b≠l:=λe=>by subst e;unfold World.cell? at hc;rw [hl] at hc;cases o<;>simp [Obj.isCells] at ho hc
 rw [<-hc];exact gg (w:=W) (w':=W.putObj l o') (a:=⟨b,o9+j,aB⟩) (P5 (by simpa using hne))
theorem a4V {W W':aJ}(h:aa W.heap.size W W'):KeepsOthers W W':=⟨h.size,λk _ hk _=>(h.block k (fY.1 hk).1).trans hk⟩
theorem aJW {w W w':aJ} {bn:Nat} {pre:List (List Dw)} {y:List Dw} {a:Act} {z:Int}(hb:aa W.heap.size W w')(hw:w.heap.size<=bn)(gF:aa w.heap.size w W)(hcw:∃u,w'.cell? ⟨bn,0,aB⟩=aC u)(hfw:w'.frozen? ⟨bn,0,aB⟩=aP)(hz:Bq (pre++ [y])=z):
 a3V (iQ w.heap.size (bn+1+1) (bn+1)) (λpre W=>(W.cell? ⟨bn,0,aB⟩=aC (ν (Bq pre))/\W.frozen? ⟨bn,0,aB⟩=aP)/\β w W) (pre++ [y]) W .normal a (w'.setCell ⟨bn,0,aB⟩ (ν z)):=by
 obtain⟨u,hu⟩:=hcw;refine⟨(a4V hb).trans (Zk _ _ _),(iQ.bV hb).trans ⟨by simp [EJ],λk hk _=>nB _ _ _ _ (by simp only [ne_eq];omega)⟩,⟨?_, ?_⟩,(gF.trans (hb.mono gF.size)).setCell (by simpa using hw) _⟩
 ·rw [hz];exact a0z _ _ _ (by rw [hu];rfl)
 rw [a1B];exact hfw
theorem aJV(p:bz)(os:List Int)(A:Option ai)(c:Nat)(w:aJ)(h:Ce w p)(hc:aA p.co<=bK)(hs:aW w w.heap.size A (os.map (aG aF)))(hl:aA os<=1000)(hI:∀x∈os,aL x):
 aQ aM 132 #[p.val,aH A (aA os) c] w λe w'=>e=aU (bB #[ν (qg p os),ν (gH p os)])/\β w w':=by
 have aY:Hid (β w (w.alloc (aK #[aH p.Ac (aA p.co) p.cc,aH p.Af (aA p.fu) p.cf,ν p.line,ν p.cap] 193))):=η σ;have HM:Hid (∀W,β w W->aQ aM 183 #[p.val,aH A (aA os) c] W λe w'=>e=aU (ν (gH p os))/\β W w'):=η λW hW=>a4w p os A c W (h.below hW) hc ((hs.below hW).mono hW.size) (by omega) hI
 have E4:=η (a5s p os A c w.heap.size w h hs rfl);have rA:Hid (∀W,aQ aM 187 #[p.val,aH A (aA os) c] W λe w'=>e=aU (.func (.func 221) #[] #[π (W.heap.size+1),π W.heap.size])/\(W.alloc (aK #[aH p.Ac (aA p.co) p.cc,aH p.Af (aA p.fu) p.cf,ν p.line,ν p.cap] 193)).alloc (aK #[aH A (aA os) c] 46)=w'):=η λW=>a6u p A (aA os) c W
 have OG:Hid (qg p os=if gH p os=0 then Bq (fQ p os) else 0):=η rfl;have Sx:=η (λh=>yS (p:=p) (os:=os) h);generalize qg p os=rv at*;unfold bz.val at*;by_cases h0:gH p os=0
 ·have F:=Sx.o h0;rw [h0] at HM ⊢;rw [ifP h0] at OG;have HF:=η F;refine(sV (n:=9)).1 ?_;refine callsIn_of_wp_marks aA7 rfl trivial ?_ rfl;simp only [aAu,List.size_toArray,uB,EC,Nat.reduceAdd,Nat.reduceSub,Array.replicate_succ,Array.replicate_zero,List.push_toArray,List.append_toArray,Fs,List.cons_append]
  gi_wp2
  refine⟨trivial, ?_⟩;refine(sV.2 (HM.o _ aY.o)).mono ?_;rintro e w1 ⟨rfl,hb1⟩;have aR:Hid (β w w1):=τ aY hb1;have q0:w1.cell? ⟨w.heap.size,0,aB⟩=aC (aH p.Ac (aA p.co) p.cc):=(hb1.cell (p:=⟨w.heap.size,0,aB⟩) (by simp)).trans (by rw [cM _ _ _ _ rfl];rfl);have q1:w1.cell? ⟨w.heap.size,1,aB⟩=aC (aH p.Af (aA p.fu) p.cf):=(hb1.cell (p:=⟨w.heap.size,1,aB⟩) (by simp)).trans (by rw [cM _ _ _ _ rfl];rfl);have q2:w1.cell? ⟨w.heap.size,2,aB⟩=aC (ν p.line):=(hb1.cell (p:=⟨w.heap.size,2,aB⟩) (by simp)).trans (by rw [cM _ _ _ _ rfl];rfl);have q3:w1.cell? ⟨w.heap.size,3,aB⟩=aC (ν p.cap):=(hb1.cell (p:=⟨w.heap.size,3,aB⟩) (by simp)).trans (by rw [cM _ _ _ _ rfl];rfl);have Ek:w.heap.size<w1.heap.size:=by have:=hb1.size;simp at this;omega
  gi_wp2
  refine⟨trivial, ?_⟩;refine(sV.2 (rA.o _)).mono ?_;rintro e w3 ⟨rfl,hw3⟩;have DV:(w1.alloc (aK #[ν 0] 2)).heap.size=w1.heap.size+1:=by simp
  have fB:Hid (β w (w1.alloc (aK #[ν 0] 2))):=η (aR.o.alloc aR.o.size _);have yy:=E4.o _ (iQ.bV fB.o);rw [hw3,DV] at yy;have aGP:w3.heap.size=w1.heap.size+3:=by rw [<-hw3];simp
  have af:Hid (β w w3):=η (by rw [<-hw3];exact(fB.o.alloc fB.o.size _).alloc (cC fB.o.size (by simp)) _);have pn:w3.cell? ⟨w1.heap.size,0,aB⟩=aC (ν 0):=by rw [<-hw3,qO _ _ _ (by simp;omega),qO _ _ _ (by simp),cM _ _ _ _ rfl];rfl
  have hf3:w3.frozen? ⟨w1.heap.size,0,aB⟩=aP:=by rw [<-hw3,P4 _ _ _ (by simp;omega),P4 _ _ _ (by simp),a1A _ _ _ _ rfl]
  have Mr:=aR.o.size;rw [DV]
  gi_wp2
  refine a7r (β:=List Dw) rfl (by omega) (gf:=221) (lb:= #[bH (aC ⟨w1.heap.size+1+1,0,aB⟩),π (w1.heap.size+1)]) rfl trivial (enters_of func221 (by kernel_rfl) rfl)
   (a6v 8 w.heap.size (w1.heap.size+1+1) (w1.heap.size+1) (by omega) p os A c w3 yy HF.o.os1 HF.o.len (by have:=HF.o.big;omega) hl HF.o.i64.1 HF.o.i64.2.1 HF.o.i64.2.2.1 HF.o.i64.2.2.2)
   a4Z (a4Y (by omega) (by omega) (by omega)) (aX _ _) a3g
   (λpre W=>(W.cell? ⟨w1.heap.size,0,aB⟩=aC (ν (Bq pre))/\W.frozen? ⟨w1.heap.size,0,aB⟩=aP)/\β w W)
   (OwnFrom.and (Own.from (λs A B row hs hg hr=>⟨cell_kept hs.1 hg hr,(frozen_kept hs.1 hg hr).trans hs.2⟩) _) (ownFrom_below (aZ _) (by omega)))
   ⟨⟨pn,hf3⟩,af.o⟩ ?a1 ?assign ?body ?done
  case assign=>
   intro l v W K hK
   gi_wp2
   exact hK
  case body=>
   rintro l pre y v W ⟨⟨xD,Jn⟩,gF⟩ ⟨Ay,cy,rfl,Mn,VG,hly⟩ _;have hmx:aM.follows .mixedOrders=aO:=by kernel_rfl
   have MZ:w1.heap.size<W.heap.size:=by
    rcases rF w1.heap.size W.heap.size with hh|hh
    ·exact hh
    unfold World.cell? at xD;rw [IU hh] at xD;cases xD
   have TT:Hid (∀W2,β W W2->aQ aM 186 #[aH Ay (aA y) cy] W2 λe w'=>e=aU (ν (s7 y))/\β W2 w'):=η λW2 hW2=>a7c y Ay cy W2 ((Mn.below hW2).mono hW2.size) VG (by omega)
   have Fg:=η (aJR pre y);generalize Bq pre=rp at*;generalize s7 y=ty at*
   gi_wp2
   gi_region_with_o (refine⟨trivial, ?_⟩;gi_at_call 186;refine(CallsIn.inRound l (sV.2 (TT.o _ (by first|exact aX _ _|exact(aX _ _).drew|exact(aX _ _).drew.drew)))).mono ?_;rintro e w' ⟨rfl,eH⟩;have hcw:=(eH.cell (p:=⟨w1.heap.size,0,aB⟩) MZ).trans xD;have hfw:=(eH.frozen (p:=⟨w1.heap.size,0,aB⟩) MZ).trans Jn)
   all_goals gi_wp2
   all_goals exact aJW (((aX _ _).drew).trans eH) Mr gF ⟨_,hcw⟩ hfw Fg.o
  case done=>
   rintro D W hD ⟨⟨xD,Jn⟩,gF⟩ hK
   gi_wp2
   refine⟨by simp,.inl ⟨_,_,rfl,run_takeDeferred hK, ?_⟩⟩;exact⟨_,results_tmp2 rfl _ _ _,by rw [OG.o];rfl,gF.trans (belowK_b (w:=w) (aZ _) W D _ _ (by omega) hK rfl rfl)⟩
 have HE:=η h0;rw [ifN h0] at OG;have hen:(gH p os !=0)=aO:=by simpa [bne] using h0
 generalize gH p os=me at*;go_enter aA7,aAu
 go_wp2_with fail
 refine(HM.o _ aY.o).mono ?_;rintro e w1 ⟨rfl,hb1⟩;have aR:Hid (β w w1):=τ aY hb1;go_wp2_with fail
 go_ret2;exact⟨by rw [OG.o];rfl,aR.o⟩
end
theorem aC1(T:Int)(l:List Int):aA (dJ T l)<=aA l:=by
 unfold dJ uF;split
 ·simp
 split
 ·exact aZ _
 split
 ·simp
 split
 ·simp
 rw [qh];exact aZ _
theorem aC0 {T:Int} {l:List Int}(hl:∀x∈l,aL x):∀x∈dJ T l,aL x:=by
 intro x hx;by_cases h:iF T l=0
 ·have G:=ET h;obtain⟨i,hi,rfl⟩:=List.getElem_of_mem hx;have hi':i<aA l:=by rw [<-G.len];exact hi
  have:=G.bd i hi hi';have h2:=hl _ (cK hi');unfold aL at*;omega
 unfold dJ at hx;rw [ifP h] at hx;simp at hx
def fg(s:List Dw):List Int:=s.map (·.n)
theorem aEe {s:List Dw} {k:Nat}(hk:k<aA s):fg (s.take (k+1))=fg (s.take k)++ [s[k].n]:=by unfold fg;rw [fF hk,dY];rfl
def ig(s:List Dw)(xs:List Int):List Dw:=(kL (λ(x:Dw) n=>(⟨x.k,x.m,n⟩:Dw)) s xs).filter λx=>decide (0<x.n)
theorem aEh {s:List Dw} {xs:List Int} {k:Nat}(h:k<aA s)(h':k<aA xs):ig (s.take (k+1)) (xs.take (k+1))=ig (s.take k) (xs.take k)++if 0<xs[k] then [⟨s[k].k,s[k].m,xs[k]⟩] else []:=by unfold ig;rw [fF h,fF h',List.zipWith_append (by simp;omega),List.filter_append];by_cases hp:0<xs[k]<;>simp [hp]
theorem aEg(s:List Dw)(xs:List Int)(k:Nat):aA (ig (s.take k) (xs.take k))<=k:=by unfold ig;refine cC (qN _ _) ?_;rw [ED,ur];omega
theorem a7x {α β γ:Type}(f:α->β->γ):∀(s:List α) (xs:List β),aA xs<=aA s->kL f (s.take (aA xs)) xs=kL f s xs
 |_,[],_=>by simp
 | [],_::_,h=>by simp at h
 |x::s,y::xs,h=>by rw [uB,List.take_succ_cons,EG,EG,a7x f s xs (by simpa using h)]
theorem aEf(s:List Dw)(xs:List Int)(h:aA xs<=aA s):ig (s.take (aA xs)) (xs.take (aA xs))=ig s xs:=by unfold ig;rw [cU,a7x _ _ _ h]
def mh(s:List Dw)(need:Int):List Dw:=ig s (dJ need (fg s))
def YU(l:List Dw)(w:aJ)(e:di)(w':aJ):Prop:=∃A c,e=aU (aH A (aA l) c)/\w'.ownsRow w.heap.size 196 3 (aH A (aA l) c) (aA l) (gR l)/\aa w.heap.size w w'
theorem aFN(s:List Dw)(need:Int)(A:Option ai)(c:Nat)(w:aJ)(hs:aW w w.heap.size A (gR s))(hI:∀x∈s,aL x.n)(hN:aL need)(hl:aA s<=1000):
 aQ aM 185 #[aH A (aA s) c,ν need] w (YU (mh s need) w):=by
 obtain⟨i0,bj,hz0,hz1,hz2⟩:=dK PY;obtain⟨j0,zk,jz0,jz1,jz2⟩:=dK (show (aM.info? 2).map (λi=>(i.zero,i.size,i.bytes))=aC (aC (ν 0),1,8) by kernel_rfl);have HS:=η hs;have HI:=η hI;have HN:=η hN;go_enter func185,ntmps185
 go_wp2
 go_loopw [5,15] (λu i wr=>∃k:Nat,k<=aA s/\i=ν k/\Hid (wr.ownsRow w.heap.size 2 1 u k ((fg (s.take k)).map (aG aF)))/\Hid (β w wr)) (λ_ i _=>aA s-(ag i).toNat)
 ·exact⟨0,bL _,rfl,gC _ _ _ _,aX _ _⟩
 ·
  obtain⟨k,hk,rfl,HO,HB⟩:=hrel;have hsz:=HB.o.size;by_cases hlt:k<aA s
  ·obtain⟨b,o,rfl,hb,d0,d1,d2⟩:=PX (HS.o.below HB.o) hlt;have cG:=η (aEe hlt);generalize s[k].n=n at*;generalize s[k].k=kk at*;generalize s[k].m=mm at*;generalize fg (s.take k)=ys at*;have cF:Hid (∀ob,(wr.alloc ob).ownsRow w.heap.size 2 1 _ k (ys.map (aG aF))):=η λob=>HO.o.alloc ob
   have aR:Hid (∀ob,β w (wr.alloc ob)):=η λob=>HB.o.alloc hsz ob
   go_wp2_with (at_builtin;refine iw _ rfl _ _ 53 rfl w.heap.size 2 j0 _ 1 8 mD zk jz0 jz1 jz2 rfl (by decide) _ k (ys.map (aG aF)) rfl ((cF.o _).alloc _) ⟨wr.heap.size+1,0,aB⟩ 1 1 [ν n] rfl rfl (dM _ _ #[_] (by simp)) xQ (by simp only [bK];omega) (by omega) (by simp;omega) ?_)
   intro v' w4 hown1 dE _;have dU:Hid (w4.ownsRow w.heap.size 2 1 v' (k+1) ((fg (s.take (k+1))).map (aG aF))):=η (by rw [cG.o,dY];exact hown1);have ar:=η (((aR.o _).alloc (by simp;omega) _).grown dE (by simp;omega) (λj hj=>ei HO.o j hj));go_wp2
   go_roundw
   ·exact⟨k+1,by omega,by go_num,dU,ar⟩
   simp [ag];omega
  obtain rfl:k=aA s:=by omega
  have hO:=HO.o;rw [cU] at hO;obtain⟨A1,c1,rfl⟩:=bJ hO;have pA:aA (fg s)=aA s:=by simp [fg]
  have AV:=η (YF need (fg s) A1 c1 wr HN.o (λz hz=>by obtain⟨y,hy,rfl⟩:=dV.1 hz;exact HI.o y hy) (aW.cA hO) (by unfold bK;omega));rw [pA] at AV;have rO:=aC1 need (fg s);rw [pA] at rO;have HG:Hid (mh s need=ig s (dJ need (fg s))):=η rfl;generalize dJ need (fg s)=zs at*;generalize zL need (fg s)=ze at*;go_wp2_with (go_at_call 194;refine AV.o.mono ?_;rintro e w2 ⟨A2,c2,rfl,hs2,hb2⟩;have cP:=η hs2;have aV:=η (HB.o.trans (hb2.mono hsz)))
  have Hp:=aV.o.size;go_loopw [10,33] (λu i wr=>∃k:Nat,k<=aA zs/\i=ν k/\Hid (wr.ownsRow w2.heap.size 196 3 u (aA (ig (s.take k) (zs.take k))) (gR (ig (s.take k) (zs.take k))))/\Hid (β w2 wr)) (λ_ i _=>aA zs-(ag i).toNat)
  ·exact⟨0,bL _,rfl,⟨by simp [ig,gR],aS ⟨rfl,rfl⟩⟩,aX _ _⟩
  ·
   obtain⟨k,hk,rfl,HO,HB⟩:=hrel;have hsz:=HB.o.size;have cE:=η (aV.o.trans (HB.o.mono Hp));by_cases hlt:k<aA zs
   ·have zo:k<aA s:=by omega
    obtain⟨b,o,rfl,hb,d0,d1,d2⟩:=PX (HS.o.below cE.o) zo;obtain⟨b2,o2,rfl,hb2,hc2⟩:=tK (cP.o.below HB.o) hlt;have cG:=η (aEh zo hlt);have Ba:=aEg s zs k;have hkb:(k:Int)<(aA s:Int):=by omega
    have eV:(0:Int)<=(k:Int):=by omega
    generalize s[k].k=kk at*;generalize s[k].m=mm at*;generalize ig (s.take k) (zs.take k)=ys at*;generalize zs[k]=z at*;by_cases hp:0<z
    ·rw [ifP hp] at cG;go_wp2_with (at_builtin;refine iw _ rfl _ _ 257 rfl w2.heap.size 196 i0 _ 3 24 underlying257 bj hz0 hz1 hz2 rfl (by decide) _ (aA ys) (gR ys) rfl (HO.o.alloc _) ⟨wr.heap.size,0,aB⟩ 1 1 (Dw.cells ⟨kk,mm,z⟩) rfl rfl (dM _ _ #[_,_,_] (by simp)) (Ut ⟨kk,mm,z⟩) (by simp only [bK];omega) (by omega) (by simp;omega) ?_)
     intro v' w4 hown1 dE _;have dU:Hid (w4.ownsRow w2.heap.size 196 3 v' (aA (ig (s.take (k+1)) (zs.take (k+1)))) (gR (ig (s.take (k+1)) (zs.take (k+1))))):=η (by rw [cG.o,a2S,cL,uC];exact hown1);have ar:=η ((HB.o.alloc hsz _).grown dE (by simp;omega) (λj hj=>ei HO.o j hj));go_wp2
     go_roundw
     ·exact⟨k+1,by omega,by go_num,dU,ar⟩
     simp [ag];omega
    rw [ifN hp,List.append_nil] at cG;have jd:=HO.o;rw [<-cG.o] at jd;have cF:=η jd;go_wp2
    go_roundw
    ·exact⟨k+1,by omega,by go_num,cF,HB⟩
    simp [ag];omega
   obtain rfl:k=aA zs:=by omega
   have hO:=HO.o;rw [aEf s zs (by omega)] at hO;obtain⟨A3,c3,rfl⟩:=bJ hO;have cB:=η (jT hO Hp);go_wp2
   go_ret;exact⟨A3,c3,by rw [HG.o];rfl,by rw [HG.o];exact cB.o,cE.o⟩
theorem aJi(ty:bX)(v x:aN)(w:aJ):(SD #[189,257] ty #[v,x]).run aM w=(SD #[189,189] ty #[v,x]).run aM w:=by obtain⟨i0,bj,_,_,_⟩:=dK PY;cases v<;>simp [SD,run_underlying a0s,run_underlying underlying257,Go.sizeOf,typeInfo,bj]
theorem aEk(L:List Dw):∀u∈gR L,u.oneCell'=aO:=by intro u hu;obtain⟨x,_,hx⟩:=List.mem_flatMap.1 hu;exact Ut x u hx
theorem aEj(L:List Dw):aA (gR L)=aA L*3:=by
 unfold gR;induction L with
 |nil=>rfl
 |cons x L ih=>rw [wP,cL,ih,uB];simp [Dw.cells];omega
theorem aLG {w:aJ} {ops:Array Oper} {rest:List Oper} {o:Oper} {a:Act} {Q:Exit->Act->aJ->Prop}(hgd:o.guard=aB)(s x:Operand)
 (ho:o.op= .call {callee:= .builtin .append,args:= #[s,x],argTypes:= #[189,257]}) (base:Nat)
 (v:aN) (n:Nat) (xs:List aN) (hs:a.eval s=v) (hown:w.ownsRow base 196 3 v n xs)
 (lo:Nat) (xv:aN) (L:List Dw) (hx:a.eval x=xv) (hz:w.ownsRow lo 196 3 xv (aA L) (gR L)) (hlen:n+aA L<=1000000) (hbase:base<=w.heap.size)
 (h:∀v' w',w'.ownsRow base 196 3 v' (n+aA L) (xs++gR L)->w.grownBy w' v.ownBlock->wpList aM ops Q rest (a.put o.dst v') w'):wpList aM ops Q (o::rest) a w:=by
 obtain⟨i0,bj,hz0,hz1,hz2⟩:=dK PY;refine wpList_plain hgd λK hK=> ?_
 have hrun:∃v' w',(SD #[189,189] o.type #[v,xv]).run aM w= .ok v' w'/\w'.ownsRow base 196 3 v' (n+aA L) (xs++gR L)/\w.grownBy w' v.ownBlock:=by
  rcases hz.2 with⟨rfl,h0⟩|⟨g,cap,cur,rfl,_⟩
  ·obtain rfl:L= []:=nG h0;exact⟨v,w,run_append_owned_none (P:=aM) (w:=w) base 189 o.type 196 i0 3 a0s bj v n xs hown,by simpa [gR] using hown,⟨rfl,rfl,rfl,aZ _,λ_ _ _=>rfl⟩⟩
  obtain⟨v',w',h1,h2,h3,_⟩:=run_append_own (P:=aM) w base 189 o.type 196 i0 _ 3 24 a0s bj hz0 hz1 hz2 rfl (by decide) v n xs hown ⟨g,0,aB⟩ (aA L) cap (gR L) (aEj L) (λj u hu=>by
   have Jy:=aW.cA hz;obtain⟨b,o',e,_,hc⟩:=Jy j u hu;have e:=od e;injection e with e1 e2;subst e1 e2;have ea:(⟨g,0,aB⟩:ai).add j=⟨g,0+j,aB⟩:=by unfold Addr.add;split<;>simp_all
   rw [ea];exact hc) (aEk L) (by simp only [bK];omega) (by omega) hbase
  exact⟨v',w',h1,h2,h3⟩
 obtain⟨v',w',hr,Js,DK⟩:=hrun;rw [<-aJi] at hr;unfold Oper.wp;simp [execOp,ho,resolve,invoke,builtin,hs,hx,hr,uE];exact hK _ _ (h v' w' Js DK)
theorem XF {w:aJ} {base:Nat} {e:bX} {size n:Nat} {v:aN} {xs:List aN}(h:w.ownsRow base e size v n xs) {p:ai}(hp:v.ownBlock≠aC p.block)(u:aN):(w.setCell p u).ownsRow base e size v n xs:=
 h.kept ⟨rfl,rfl,rfl,by simp [EJ],λi _ hi=>nB _ _ _ _ (λe=>hi (by rw [e]))⟩ (Or.inr hp)
theorem a5h {w:aJ} {base:Nat} {e:bX} {size n:Nat} {v:aN} {xs:List aN}(h:w.ownsRow base e size v n xs):∀(j:Nat) (o:Obj),v.ownBlock=aC j->w.heap[j]? =aC o->o.isCells=aO:=by
 intro j o hj ho;rcases h.2 with⟨rfl,_⟩|⟨g,cap,cur,rfl,_,hh,_⟩
 ·cases hj
 have e2:g=j:=by simpa [dx] using hj
 subst e2;rw [hh] at ho;cases ho;rfl
structure G8(lo:Nat)(W:aJ)(bn bl:Nat)(nd:Int)(u:aN)(L:List Dw):Prop where
 cn:W.cell? ⟨bn,0,aB⟩=aC (ν nd)
 fn:W.frozen? ⟨bn,0,aB⟩=aP
 cl:W.cell? ⟨bl,0,aB⟩=aC u
 fl:W.frozen? ⟨bl,0,aB⟩=aP
 own:W.ownsRow lo 196 3 u (aA L) (gR L)
 ne:bn≠bl
 ln:bn<lo
 ll:bl<lo
 sz:lo<=W.heap.size
structure Tf(bn bl:Nat)(u:aN)(W W':aJ):Prop where
 size:W.heap.size<=W'.heap.size
 keep:∀k,k<W.heap.size->k≠bn->k≠bl->aC k≠u.ownBlock->W'.heap[k]? =W.heap[k]?
 oth:KeepsOthers W W'
 os:W'.os=W.os
 tape:W'.tape=W.tape
 output:W'.output=W.output
def yZ(st:Int×List Dw)(y:List Dw):Int×List Dw:=(aF.wrap (st.1-s7 (mh y st.1)),st.2++mh y st.1)
theorem aFM {s:List Dw} {need:Int}(h:∀x∈s,aL x.n):∀x∈mh s need,aL x.n:=by intro x hx;unfold mh ig at hx;have hx:=(j6.1 hx).1;obtain⟨i,hi,rfl⟩:=List.getElem_of_mem hx;rw [List.getElem_zipWith];refine aC0 (T:=need) (l:=fg s) (λz hz=> ?_) _ (cK (by rw [ED] at hi;omega));obtain⟨y,hy,rfl⟩:=dV.1 hz;exact h y hy
theorem a2x(s:List Dw)(need:Int):aA (mh s need)<=aA s:=by unfold mh ig;refine cC (qN _ _) ?_;rw [ED];omega
theorem aIr(lo bn bl:Nat)(nd:Int)(u:aN)(L s:List Dw)(A:Option ai)(c:Nat)(W:aJ)(h:G8 lo W bn bl nd u L)(hs:aW W W.heap.size A (gR s))(hI:∀x∈s,aL x.n)(hl:aA s<=1000)(hN:aL nd)(hL:aA L<=100000):
 aQ aM 184 #[aH A (aA s) c,π bn,π bl] W λe W'=>(∃v,e=aU v)/\∃u',G8 lo W' bn bl (yZ (nd,L) s).1 u' (yZ (nd,L) s).2/\Tf bn bl u W W':=by
 have HG:Hid (aQ aM 185 #[aH A (aA s) c,ν nd] W (YU (mh s nd) W)):=η (aFN s nd A c W hs hI hN hl);have HP:=η h;have CL:=η (aFM (need:=nd) hI);have jQ:=a2x s nd;have L5:Hid (yZ (nd,L) s=(aF.wrap (nd-s7 (mh s nd)),L++mh s nd)):=η rfl;have cn:=h.cn;have MZ:bn<W.heap.size:=cR h.ln h.sz;have hlW:bl<W.heap.size:=cR h.ll h.sz;clear h hs hI;rw [L5.o];generalize mh s nd=G at*;obtain⟨tg,WV⟩:∃t,t=s7 G:=⟨_,rfl⟩;rw [<-WV];have HTG:=η WV;clear WV;go_enter func184,ntmps184
 go_wp2_with fail
 refine HG.o.mono ?_;rintro e w1 ⟨A1,c1,rfl,eR,hb1⟩;have cF:=η eR;have aR:=η hb1;have hz1:=hb1.size;have cn1:=(hb1.cell (p:=⟨bn,0,aB⟩) MZ).trans cn;have fn1:=(hb1.frozen (p:=⟨bn,0,aB⟩) MZ).trans HP.o.fn;clear hb1 eR cn;have TT:Hid (∀W2,β w1 W2->aQ aM 186 #[aH A1 (aA G) c1] W2 λe w'=>e=aU (ν tg)/\β W2 w'):=η λW2 hW2=>by rw [HTG.o];exact a7c G A1 c1 W2 (((aW.cA cF.o).below hW2).mono hW2.size) CL.o (by omega)
 have ju:bn<w1.heap.size:=by omega
 go_wp2_with fail
 go_region_with (go_at_call 186;refine(TT.o _ (by first|exact aX _ _|exact(aX _ _).drew|exact(aX _ _).drew.drew)).mono ?_;rintro e w2 ⟨rfl,eH⟩;have hcw:=(eH.cell (p:=⟨bn,0,aB⟩) ju).trans cn1;have hfw:=(eH.frozen (p:=⟨bn,0,aB⟩) ju).trans fn1)
 all_goals
  have hb2:β w1 w2:=((aX _ _).drew).trans eH;have hz2:=hb2.size;have Ht:∀g,g<lo->u.ownBlock≠aC g:=λg hg e=>by have:=(HP.o.own.lt g e).1;omega
  have WX:=HP.o.ln;have a3y:=HP.o.ll;have hgb:(aH A1 (aA G) c1).ownBlock≠aC bn:=λe=>by have:=(cF.o.lt bn e).1;omega
  have hne:=HP.o.ne;have nS:=HP.o.sz;have B4:Hid (w2.ownsRow lo 196 3 u (aA L) (gR L)):=η (NH (NH HP.o.own aR.o) hb2);have J9:Hid ((w2.setCell ⟨bn,0,aB⟩ (ν (aF.wrap (nd-tg)))).ownsRow lo 196 3 u (aA L) (gR L)):=η (XF B4.o (Ht bn WX) _);have Ab:Hid ((w2.setCell ⟨bn,0,aB⟩ (ν (aF.wrap (nd-tg)))).ownsRow W.heap.size 196 3 (aH A1 (aA G) c1) (aA G) (gR G)):=η (XF (NH cF.o hb2) hgb _);have cl5:(w2.setCell ⟨bn,0,aB⟩ (ν (aF.wrap (nd-tg)))).cell? ⟨bl,0,aB⟩=aC u:=(gg (a:=⟨bl,0,aB⟩) (nB _ _ _ _ (by simp only [ne_eq];omega))).trans ((hb2.cell (p:=⟨bl,0,aB⟩) (by show bl<w1.heap.size;omega)).trans ((aR.o.cell (p:=⟨bl,0,aB⟩) hlW).trans HP.o.cl));have fl5:(w2.setCell ⟨bn,0,aB⟩ (ν (aF.wrap (nd-tg)))).frozen? ⟨bl,0,aB⟩=aP:=(Lf (a:=⟨bl,0,aB⟩) (nB _ _ _ _ (by simp only [ne_eq];omega))).trans ((hb2.frozen (p:=⟨bl,0,aB⟩) (by show bl<w1.heap.size;omega)).trans ((aR.o.frozen (p:=⟨bl,0,aB⟩) hlW).trans HP.o.fl));have cn5:(w2.setCell ⟨bn,0,aB⟩ (ν (aF.wrap (nd-tg)))).cell? ⟨bn,0,aB⟩=aC (ν (aF.wrap (nd-tg))):=a0z _ _ _ (by rw [hcw];rfl);have fn5:(w2.setCell ⟨bn,0,aB⟩ (ν (aF.wrap (nd-tg)))).frozen? ⟨bn,0,aB⟩=aP:=by rw [a1B];exact hfw
  have hs5:W.heap.size<=(w2.setCell ⟨bn,0,aB⟩ (ν (aF.wrap (nd-tg)))).heap.size:=by simp [EJ];omega
  have Dv:Hid (Tf bn bl u W (w2.setCell ⟨bn,0,aB⟩ (ν (aF.wrap (nd-tg))))):=η (by
   have js:=aR.o.trans (hb2.mono hz1);refine⟨hs5,λk hk h1 _ _=>(nB _ _ _ _ (by simp only [ne_eq];omega)).trans (js.block k hk),(a4V js).trans (Zk _ _ _), ?_, ?_, ?_⟩
   ·exact js.os
   ·exact js.tape
   exact js.output)
  clear eH hcw hfw hb2;generalize w2.setCell ⟨bn,0,aB⟩ (ν (aF.wrap (nd-tg)))=w5 at*;go_wp2_with (at_builtin;refine aLG rfl _ _ rfl lo u (aA L) (gR L) rfl J9.o W.heap.size _ G rfl Ab.o (by omega) (by omega) ?_)
  intro v' w6 tH xE;obtain⟨A7,c7,rfl⟩:=bJ tH;have QI:bn<w5.heap.size:=by omega
  have hl5:bl<w5.heap.size:=by omega
  have Uv:=xE.block bn QI (λe=>Ht bn WX e.symm);have Uu:=xE.block bl hl5 (λe=>Ht bl a3y e.symm);have cl6:w6.cell? ⟨bl,0,aB⟩=aC u:=(gg (a:=⟨bl,0,aB⟩) Uu).trans cl5;have fl6:w6.frozen? ⟨bl,0,aB⟩=aP:=(Lf (a:=⟨bl,0,aB⟩) Uu).trans fl5;have cn6:=(gg (a:=⟨bn,0,aB⟩) Uv).trans cn5;have fn6:=(Lf (a:=⟨bn,0,aB⟩) Uv).trans fn5;have HF:Hid (G8 lo (w6.setCell ⟨bl,0,aB⟩ (aH A7 (aA L+aA G) c7)) bn bl (aF.wrap (nd-tg)) (aH A7 (aA L+aA G) c7) (L++G)/\Tf bn bl u W (w6.setCell ⟨bl,0,aB⟩ (aH A7 (aA L+aA G) c7))):=η (by
   have hvb:(aH A7 (aA L+aA G) c7).ownBlock≠aC bl:=λe=>by have:=(tH.lt bl e).1;omega
   have e7n:(w6.setCell ⟨bl,0,aB⟩ (aH A7 (aA L+aA G) c7)).heap[bn]? =w6.heap[bn]? :=nB _ _ _ _ (by simp only [ne_eq];omega);refine⟨⟨(gg (a:=⟨bn,0,aB⟩) e7n).trans cn6,(Lf (a:=⟨bn,0,aB⟩) e7n).trans fn6,a0z _ _ _ (by rw [cl6];rfl),by rw [a1B];exact fl6, ?_,hne,WX,a3y, ?_⟩,⟨?_,λk hk h1 h2 h3=> ?_, ?_, ?_, ?_, ?_⟩⟩
   ·rw [cL,show gR (L++G)=gR L++gR G by simp [gR]];exact XF tH hvb _
   ·have:=xE.size;simp [EJ];omega
   ·have:=xE.size;simp [EJ];omega
   ·exact(nB _ _ _ _ (by simp only [ne_eq];omega)).trans ((xE.block k (by have:=Dv.o.size;omega) h3).trans (Dv.o.keep k hk h1 h2 h3))
   ·exact(Dv.o.oth.trans (KeepsOthers.of_grownBy xE (a5h J9.o))).trans (Zk _ _ _)
   ·exact xE.os.trans Dv.o.os
   ·exact xE.tape.trans Dv.o.tape
   exact xE.output.trans Dv.o.output)
  clear tH xE Uv Uu;go_wp2_with fail
  go_end0
  exact⟨⟨_,rfl⟩,_,HF.o⟩
section
open Go.Shelf
attribute [local go_sem] Oper.semAt_some
def tN(need:Int)(ys:List (List Dw)):Int×List Dw:=ys.foldl yZ (need,[])
theorem a5o(need:Int)(ys:List (List Dw))(y:List Dw):tN need (ys++ [y])=yZ (tN need ys) y:=by unfold tN;rw [List.foldl_append];rfl
theorem aLK(n:Int):aL (aF.wrap n):=by rw [fW];unfold aL;omega
theorem aIn {need:Int}(h:aL need)(ys:List (List Dw)):aL (tN need ys).1:=by
 rcases OY ys with rfl|⟨zs,y,rfl⟩
 ·exact h
 rw [OX,a5o];exact aLK _
theorem a5p(ys:List (List Dw)):∀st:Int×List Dw,(ys.foldl yZ st).2.length<=aA st.2+(ys.map List.length).sum:=by
 induction ys with
 |nil=>intro st;simp
 |cons y ys ih=>
  intro st;rw [Ca,yB,EF];have h1:=ih (yZ st y);have h2:(yZ st y).2.length<=aA st.2+aA y:=by unfold yZ;rw [cL];have:=a2x y st.1;omega
  omega
theorem aKX {α:Type}(f:α->List Dw)(l:List α)(h:∀a,aA (f a)=1):(l.map λa=>aA (f a)).sum=aA l:=by
 induction l with
 |nil=>rfl
 |cons a l ih=>rw [yB,EF,ih,h,uB];omega
theorem a7A(p:bz)(os:List Int):((fQ p os).map List.length).sum<=aA os+aA os+aA p.fu+2:=by unfold fQ;rw [dY,dY,Cc,Cc,LO,LO];have h1:=aKX (λm=> [(⟨8,m,cN p.co m⟩:Dw)]) os (λ_=>rfl);have h3:=KI p.fu os (aA p.fu);simp only [Function.comp_def,yB,List.map_nil,EF,List.sum_nil,uB,EC] at*;unfold vZ;omega
theorem aIo {p:bz} {os:List Int} {pre:List (List Dw)} {y:List Dw}(need:Int)(h:(pre++ [y])<+:fQ p os):(tN need pre).2.length<=aA os+aA os+aA p.fu+2:=by have h1:=a5p pre (need,[]);have h2:=a7A p os;obtain⟨t,ht⟩:=h;rw [<-ht,dY,dY,Cc,Cc] at h2;unfold tN;simp only [EC,Nat.zero_add] at h1;omega
def ry(p:bz)(os:List Int)(need:Int):Int:=if gH p os≠0 then gH p os else if need<0 then 1 else 0
def oI(p:bz)(os:List Int)(need:Int):List Dw:=if ry p os need=0 then (tN need (fQ p os)).2 else []
def a8Q(l:List Dw)(err:Int)(w:aJ)(e:di)(w':aJ):Prop:=∃A c,e=aU (bB #[aH A (aA l) c,aG aF err])/\w'.ownsRow w.heap.size 196 3 (aH A (aA l) c) (aA l) (gR l)/\aa w.heap.size w w'
theorem G8.grown {lo B:Nat} {W W':aJ} {bn bl:Nat} {nd:Int} {u:aN} {L:List Dw} {row:Option Nat}(h:G8 lo W bn bl nd u L)(hg:W.grownBy W' row)(hr:∀r,row=aC r->B<=r/\∃o:Obj,W.heap[r]? =aC o/\o.isCells=aP):G8 lo W' bn bl nd u L:=by
 have Eu:∀r,row=aC r->∃o:Obj,W.heap[r]? =aC o/\o.isCells=aP:=λr e=>(hr r e).2
 refine⟨cell_kept h.cn hg Eu,(frozen_kept h.cn hg Eu).trans h.fn,cell_kept h.cl hg Eu,(frozen_kept h.cl hg Eu).trans h.fl,h.own.kept hg ?_,h.ne,h.ln,h.ll,cC h.sz hg.size⟩;cases hu:u.ownBlock with
 |none=>exact .inl rfl
 |some g=>
  refine .inr λe=> ?_
  obtain⟨o,ho,hc⟩:=Eu g e.symm;rw [a5h h.own g o hu ho] at hc;cases hc
theorem aIt(p:bz)(os:List Int)(need:Int)(A:Option ai)(c:Nat)(w:aJ)(h:Ce w p)(hc:aA p.co<=bK)(hs:aW w w.heap.size A (os.map (aG aF)))(hl:aA os<=1000)(hI:∀x∈os,aL x)(hN:aL need):
 aQ aM 127 #[p.val,aH A (aA os) c,ν need] w (a8Q (oI p os need) (ry p os need) w):=by
 have aY:Hid (β w ((w.alloc (aK #[aH p.Ac (aA p.co) p.cc,aH p.Af (aA p.fu) p.cf,ν p.line,ν p.cap] 193)).alloc (aK #[ν need] 2))):=η (σ.alloc (by simp) _);have HM:Hid (∀W,β w W->aQ aM 183 #[p.val,aH A (aA os) c] W λe w'=>e=aU (ν (gH p os))/\β W w'):=η λW hW=>a4w p os A c W (h.below hW) hc ((hs.below hW).mono hW.size) (by omega) hI
 have E4:=η (a5s p os A c w.heap.size w h hs rfl);have rA:Hid (∀W,aQ aM 187 #[p.val,aH A (aA os) c] W λe w'=>e=aU (.func (.func 221) #[] #[π (W.heap.size+1),π W.heap.size])/\(W.alloc (aK #[aH p.Ac (aA p.co) p.cc,aH p.Af (aA p.fu) p.cf,ν p.line,ν p.cap] 193)).alloc (aK #[aH A (aA os) c] 46)=w'):=η λW=>a6u p A (aA os) c W
 have HE:Hid (ry p os need=if gH p os≠0 then gH p os else if need<0 then 1 else 0):=η rfl;have HL:Hid (oI p os need=if ry p os need=0 then (tN need (fQ p os)).2 else []):=η rfl;have Sx:=η (λh=>yS (p:=p) (os:=os) h);have HN:=η hN;generalize oI p os need=pl at*;generalize ry p os need=pe at*;unfold bz.val at*;by_cases h0:gH p os=0
 ·rw [ifN (by omega)] at HE;have F:=Sx.o h0;rw [h0] at HM;have HF:=η F;by_cases hn:need<0
  ·rw [ifP hn] at HE;rw [HE.o,ifN (by decide)] at HL;rw [HE.o,HL.o];go_enter a0E,a0X
   go_wp2_with fail
   refine(HM.o _ aY.o).mono ?_;rintro e w1 ⟨rfl,hb1⟩;have aR:Hid (β w w1):=τ aY hb1;have qn:w1.cell? ⟨w.heap.size+1,0,aB⟩=aC (ν need):=(hb1.cell (p:=⟨w.heap.size+1,0,aB⟩) (by simp)).trans (by rw [cM _ _ _ _ (by simp)];rfl);go_wp2_with fail
   go_ret2;exact⟨aB,0,rfl,gC _ _ _ _,aR.o⟩
  rw [ifN hn] at HE;rw [HE.o,ifP rfl] at HL;rw [HE.o];refine(sV (n:=9)).1 ?_;refine callsIn_of_wp_marks a0E rfl trivial ?_ rfl;simp only [a0X,List.size_toArray,uB,EC,Nat.reduceAdd,Nat.reduceSub,Array.replicate_succ,Array.replicate_zero,List.push_toArray,List.append_toArray,Fs,List.cons_append]
  gi_wp2
  refine⟨trivial, ?_⟩;refine(sV.2 (HM.o _ aY.o)).mono ?_;rintro e w1 ⟨rfl,hb1⟩;have aR:Hid (β w w1):=τ aY hb1;have q0:w1.cell? ⟨w.heap.size,0,aB⟩=aC (aH p.Ac (aA p.co) p.cc):=(hb1.cell (p:=⟨w.heap.size,0,aB⟩) (by simp;omega)).trans (by rw [BH _ _ _ (by simp),cM _ _ _ _ rfl];rfl);have q1:w1.cell? ⟨w.heap.size,1,aB⟩=aC (aH p.Af (aA p.fu) p.cf):=(hb1.cell (p:=⟨w.heap.size,1,aB⟩) (by simp;omega)).trans (by rw [BH _ _ _ (by simp),cM _ _ _ _ rfl];rfl);have q2:w1.cell? ⟨w.heap.size,2,aB⟩=aC (ν p.line):=(hb1.cell (p:=⟨w.heap.size,2,aB⟩) (by simp;omega)).trans (by rw [BH _ _ _ (by simp),cM _ _ _ _ rfl];rfl);have q3:w1.cell? ⟨w.heap.size,3,aB⟩=aC (ν p.cap):=(hb1.cell (p:=⟨w.heap.size,3,aB⟩) (by simp;omega)).trans (by rw [BH _ _ _ (by simp),cM _ _ _ _ rfl];rfl);have qn:w1.cell? ⟨w.heap.size+1,0,aB⟩=aC (ν need):=(hb1.cell (p:=⟨w.heap.size+1,0,aB⟩) (by simp)).trans (by rw [cM _ _ _ _ (by simp)];rfl);have qf:w1.frozen? ⟨w.heap.size+1,0,aB⟩=aP:=(hb1.frozen (p:=⟨w.heap.size+1,0,aB⟩) (by simp)).trans (by rw [a1A _ _ _ _ (by simp)]);have Ek:w.heap.size+1<w1.heap.size:=by have:=hb1.size;simp at this;omega
  have aME:w.heap.size<w1.heap.size:=by omega
  gi_wp2
  refine⟨trivial, ?_⟩;refine(sV.2 (rA.o _)).mono ?_;rintro e w3 ⟨rfl,hw3⟩;have DV:((w1.alloc (aK #[aH aB 0 0] 189)).alloc (aK #[.func (.func 184) #[] #[π (w.heap.size+1),π w1.heap.size]] 260)).heap.size=w1.heap.size+2:=by simp
  have fB:Hid (β w1 ((w1.alloc (aK #[aH aB 0 0] 189)).alloc (aK #[.func (.func 184) #[] #[π (w.heap.size+1),π w1.heap.size]] 260))):=η (σ.alloc (by simp) _);have yy:=E4.o _ (iQ.bV (aR.o.trans (fB.o.mono (by omega))));rw [hw3,DV] at yy;have aGP:w3.heap.size=w1.heap.size+4:=by rw [<-hw3];simp
  have SQ:Hid (β w1 w3):=η (by rw [<-hw3];exact(fB.o.alloc (by simp;omega) _).alloc (by simp;omega) _);have af:Hid (β w w3):=η (aR.o.trans (SQ.o.mono (by omega)));have cn3:=(SQ.o.cell (p:=⟨w.heap.size+1,0,aB⟩) Ek).trans qn;have fn3:=(SQ.o.frozen (p:=⟨w.heap.size+1,0,aB⟩) Ek).trans qf;have cl3:w3.cell? ⟨w1.heap.size,0,aB⟩=aC (aH aB 0 0):=by rw [<-hw3,qO _ _ _ (by simp;try omega),qO _ _ _ (by simp;try omega),qO _ _ _ (by simp),cM _ _ _ _ rfl];rfl
  have fl3:w3.frozen? ⟨w1.heap.size,0,aB⟩=aP:=by rw [<-hw3,P4 _ _ _ (by simp;omega),P4 _ _ _ (by simp;try omega),P4 _ _ _ (by simp),a1A _ _ _ _ rfl]
  have cf3:w3.cell? ⟨w1.heap.size+1,0,aB⟩=aC (.func (.func 184) #[] #[π (w.heap.size+1),π w1.heap.size]):=by rw [<-hw3,qO _ _ _ (by simp;try omega),qO _ _ _ (by simp;try omega),cM _ _ _ _ (by simp)];rfl
  rw [DV]
  gi_wp2
  refine a7r (β:=List Dw) rfl (by omega) (gf:=221) (lb:= #[bH (aC ⟨w1.heap.size+2+1,0,aB⟩),π (w1.heap.size+2)]) rfl trivial (enters_of func221 (by kernel_rfl) rfl)
   (a6v 8 w.heap.size (w1.heap.size+2+1) (w1.heap.size+2) (by omega) p os A c w3 yy HF.o.os1 HF.o.len (by have:=HF.o.big;omega) hl HF.o.i64.1 HF.o.i64.2.1 HF.o.i64.2.2.1 HF.o.i64.2.2.2)
   a4Z (a4Y (by omega) (by omega) (by omega)) (aX _ _) a3g
   (λpre W=>((∃u,G8 (w1.heap.size+4) W (w.heap.size+1) w1.heap.size (tN need pre).1 u (tN need pre).2)/\W.cell? ⟨w1.heap.size+1,0,aB⟩=aC (.func (.func 184) #[] #[π (w.heap.size+1),π w1.heap.size]))/\β w W)
   (OwnFrom.and (λs W W' row hs hg hr=>⟨hs.1.imp λu hu=>hu.grown hg hr,cell_kept hs.2 hg (λr e=>(hr r e).2)⟩) (ownFrom_below (aZ _) (by omega)))
   ⟨⟨⟨_,cn3,fn3,cl3,fl3,gC _ _ _ _,by omega,by omega,by omega,by omega⟩,cf3⟩,af.o⟩ ?a1 ?assign ?body ?done
  case assign=>
   intro l v W K hK
   gi_wp2
   exact hK
  case body=>
   rintro l pre y v W ⟨⟨⟨u,hp⟩,nQ⟩,gF⟩ ⟨Ay,cy,rfl,Mn,VG,hly⟩ WN;have hlen:=aIo need WN;have kh:=HF.o.big;have gV:=HF.o.len;have eF:=η (aIr (w1.heap.size+4) (w.heap.size+1) w1.heap.size (tN need pre).1 u (tN need pre).2 y Ay cy W hp Mn VG hly (aIn HN.o pre) (by omega));have cG:=η (a5o need pre y);have CQ:=η hp;have hfW:w1.heap.size+1<W.heap.size:=by have:=hp.sz;omega
   gi_wp2
   refine⟨trivial, ?_⟩;refine(CallsIn.inRound l (sV.2 eF.o)).mono ?_;rintro e W' ⟨⟨v9,rfl⟩,u',nU,lZ⟩
   gi_wp2
   have Ht:∀g,g<w1.heap.size+4->aC g≠u.ownBlock:=λg hg e=>by have:=(CQ.o.own.lt g e.symm).1;omega
   refine⟨lZ.oth,⟨lZ.size,λk hk eC=>lZ.keep k eC (by omega) (by omega) (Ht k (by omega))⟩,⟨⟨u',by rw [cG.o];exact nU⟩,(gg (a:=⟨w1.heap.size+1,0,aB⟩) (lZ.keep (w1.heap.size+1) hfW (by omega) (by omega) (Ht _ (by omega)))).trans nQ⟩, ?_⟩;exact⟨lZ.os.trans gF.os,lZ.tape.trans gF.tape,lZ.output.trans gF.output,cC gF.size lZ.size,λk hk=>(lZ.keep k (cR hk gF.size) (by omega) (by omega) (Ht k (by omega))).trans (gF.block k hk)⟩
  case done=>
   rintro D W hD ⟨⟨⟨u,hp⟩,nQ⟩,gF⟩ hK;obtain⟨A9,c9,rfl⟩:=bJ hp.own;have CQ:=η hp;have cl9:=hp.cl
   gi_wp2
   refine⟨by simp,.inl ⟨_,_,rfl,run_takeDeferred hK, ?_⟩⟩;have hgr:=CQ.o.grown (B:=w3.heap.size) (grownBy_putObj' W D (.deferred aB)) (λr e=>by cases e;exact⟨hD,_,hK,rfl⟩);exact⟨_,results_tmp2 rfl _ _ _,A9,c9,by rw [HL.o];rfl,by rw [HL.o];exact jT hgr.own (by have:=aR.o.size;omega),gF.trans (belowK_b (w:=w) (aZ _) W D _ _ (by omega) hK rfl rfl)⟩
 have Hl:pe=gH p os:=by rw [HE.o,ifP h0]
 subst Hl;rw [ifN h0] at HL;have hen:(gH p os !=0)=aO:=by simpa [bne] using h0
 rw [HL.o];generalize gH p os=me at*;go_enter a0E,a0X
 go_wp2_with fail
 refine(HM.o _ aY.o).mono ?_;rintro e w1 ⟨rfl,hb1⟩;have aR:Hid (β w w1):=τ aY hb1;go_wp2_with fail
 go_ret2;exact⟨aB,0,rfl,gC _ _ _ _,aR.o⟩
end
end Go.Proofs.YtdokipdchlcmeaaGreat
