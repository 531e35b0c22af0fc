/-
  Several texts in one, for one claim (printed by pack.py).
-/
import Derived.Test.YtdokipdchlcmeaaGreatPe2
import Derived.Deep.RegionLaw
import Derived.Maps.OwnSet
import Derived.Maps.OwnRows
import Derived.WideShapes
import Derived.Test.YtdokipdchlcmeaaGreatRows
import Derived.ProofKit
import Derived.OpenShut
import Derived.Lib.SmallJoins
import Derived.Deep.Slices
import Derived.Deep.Fields
import Derived.Deep.DeepHandedRow
import Derived.DeepKeys4
import Derived.WideKeyEntry
import Derived.Maps.AppendAt
import Derived.OneCell
set_option linter.all false
set_option maxRecDepth 100000
set_option maxHeartbeats 12800000
open Array renaming getElem?_eq_some_iff→fY,replicate→l9,toList_modify→YH
open Bool renaming true→aO,false→aP,and_eq_true→jX,eq_iff_iff→FN
open Go renaming World→aJ,Value→aN,Calls→aQ,Addr→ai,cell_of_row→bG,maxLen→bK,TypeId→bX,heap_alloc_new→cT,info_parts→dK,Ending→di,wpList_append_own→iw,wpAnyH_take→jk,wpAnyH_ready→pK,step_append_lies→AL,wpAnyH_done→Nf
open Go.Addr renaming block→FL
open Go.AllReadyH renaming cons→mU,nil→oM
open Go.DataW renaming TrodAll→YP
open Go.Ending renaming returned→aU
open Go.Instr renaming mapUpdate→EA,mapEntry→Fp,entryStore→OS,findKey→a9E
open Go.IntKind renaming i64→aF
open Go.IntWalk renaming i64_in→sM
open Go.MapKept renaming run_getObj_map→B9,run_setObj_map→Fu
open Go.Maps.Keyed renaming of_law→a8J
open Go.Obj renaming cells→aK
open Go.Program renaming keyLits→Tv
open Go.Proofs renaming intOf→ag
open Go.Proofs.Tryz renaming prog→aM,underlying53→mD,underlying3→wS,underlying46→yD,underlying56→GJ,func86→LY,ntmps86→La,underlying132→Oy,underlying185→Oz,func54→U9,ntmps54→UG,func106→aA0,func120→aA4,func124→aA5,func143→aAA,func157→aAB,func168→aAD,func181→aAG,func34→aAW,func60→aAb,func81→aAe,func82→aAf,func83→aAg,func84→aAh,func96→aAj,ntmps106→aAn,ntmps120→aAr,ntmps124→aAs,ntmps143→aAx,ntmps157→aAy,ntmps168→aB0,ntmps181→aB3,ntmps34→aBH,ntmps40→aBJ,ntmps60→aBN,ntmps81→aBR,ntmps82→aBS,ntmps83→aBT,ntmps84→aBU,ntmps96→aBW,underlying284→aBd
open Go.Result renaming andThen→uE
open Go.RowKit renaming Below→aa,wrap64→fV
open Go.RowKit.Below renaming refl→aX,heap_setCell→nB
open Go.Sem renaming run_bind→a9w
open Go.Value renaming int→aG,slice→aH,tuple→bB,pointer→bH,bool→bM,agg→bO,ownBlock→dx
open Go.WideElems renaming findIdx_arr→a8L,findIdx_born→a8M
open Go.World renaming ownsRow_nil→gC,cell?_of_block→gg,frozen?→iU,ownsRow→jn,cell?_alloc_lt→qO,size_alloc→Cr,setCell→EJ,cell?_setCell_other→GL,frozen?_of_block→Lf
open List renaming length→aA,getElem_mem→cK,length_append→cL,take_length→cU,range→dQ,mem_map→dV,map_append→dY,mem_cons_of_mem→df,mem_cons→fC,take_succ_eq_append_getElem→fF,mem_append→gJ,replicate→gN,getElem?_eq_getElem→iA,mem_filter→j6,any_eq_true→kK,pairwise_cons→kX,eq_nil_of_length_eq_zero→nG,mem_range→nH,mem_cons_self→oZ,length_filter_le→qN,mem_iff_getElem→sR,length_singleton→uC,flatMap_cons→wP,any_eq_false→zE,getElem?_eq_some_iff→zF,mem_of_getElem?→zG,length_replicate→Cb,getElem_modify→Fq,getElem?_eq_none→LN,concat_eq_append→OX,eq_nil_or_concat→OY,findIdx_getElem→Tl,length_modify→a9T,nodup_cons→a9X
open Nat renaming le_refl→aZ,zero_le→bL,le_trans→cC,lt_of_lt_of_le→cR,lt_or_ge→rF,mul_le_mul→yC,mul_le_mul_right→Fz,add_comm→a9c,add_mul_mod_self_right→a9d,mod_eq_of_lt→a9g
open Option renaming none→aB,some→aC
open Option.some renaming inj→od
open Or renaming inl→aS,inr→aT
namespace Go.Proofs.YtdokipdchlcmeaaGreat
open Go.Proofs.Tryz Go.RowKit
theorem KD:(aM.info? 59).map (λi=>(i.zero,i.size,i.bytes))=aC (aC (bO #[aG aF 0,aG aF 0,aG aF 0,aG aF 0,aG aF 0,aG aF 0]),6,48):=by kernel_rfl
theorem aI0(L:List Ob):∀u∈fJ L,u.oneCell'=aO:=by intro u hu;unfold fJ at hu;obtain⟨x,_,hx⟩:=List.mem_flatMap.1 hu;simp [Ob.cells] at hx;rcases hx with rfl|rfl|rfl|rfl|rfl|rfl<;>rfl
theorem aHy(L:List Ob):aA (fJ L)=aA L*6:=by
 unfold fJ;induction L with
 |nil=>rfl
 |cons a l ih=>rw [wP,cL,ih];simp [Ob.cells];omega
def CC(w:aJ)(L:List Ob)(e:di)(w':aJ):Prop:=
 ∃v,e=aU v/\w'.ownsRow w.heap.size 59 6 v (aA L) (fJ L)/\β w w'
theorem aHw(L:List Ob)(v:aN)(base:Nat)(w:aJ)(hown:w.ownsRow base 59 6 v (aA L) (fJ L))(hl:aA L<=1000000):
 aQ aM 96 #[v] w (CC w L):=by
 obtain⟨i0,bj,hz0,hz1,hz2⟩:=dK KD;have hq:=De GJ;rcases hown.2 with⟨rfl,h0⟩|⟨g,cap,cur,rfl,hg,hh,xG,hcm,hcs,Hq⟩
 ·have hL:L= []:=nG h0;subst hL;go_enter aAj,aBW
  go_wp2
  go_ret;exact⟨_,rfl,⟨by simp [fJ],aS ⟨rfl,rfl⟩⟩,aX _ _⟩
 have aFk:=hown.cells (g:=g) rfl;have HC:=η aFk;have hlt:g<w.heap.size:=(fY.1 hh).1;have HL:=η (aHy L);go_enter aAj,aBW
 go_wp2_with (at_builtin;refine iw _ rfl _ _ 56 rfl w.heap.size 59 i0 _ 6 48 GJ bj hz0 hz1 hz2 rfl (by decide) _ 0 [] rfl ?c0 ⟨g,0,aB⟩ (aA L) cap (fJ L) rfl HL.o ?c1 (aI0 L) ?c3 ?c4 ?c5 ?_)
 case c0=>exact Da w _ 6
 case c1=>exact λj u hu=>(qO _ _ _ (by rw [aBx];exact hlt)).trans (HC.o j u hu)
 case c3=>simp only [bK];omega
 case c4=>omega
 case c5=>simp
 intro v' w1 hown1 dE _;have cF:=η hown1;have lG:=η dE;go_wp2
 go_ret;refine⟨_,rfl,by simpa using cF.o,σ.grown lG.o (by simp) ?_⟩;intro k hk;simp [dx] at hk;omega
theorem aF6 {α:Type}(p:α->Bool)(l:List α)(k:Nat)(h:(l.take k).any p=aP):k<=aA l->k<=l.findIdx p:=by
 intro hk;rw [zE] at h;rcases rF (l.findIdx p) k with hlt|zh
 ·exfalso;have hl:l.findIdx p<aA l:=by omega
  have h1:=Tl (xs:=l) (p:=p) (w:=hl);have:l[l.findIdx p]∈l.take k:=by rw [List.mem_take_iff_getElem];exact⟨_,by omega,rfl⟩
  exact h _ this h1
 exact zh
def uQ {α:Type}(p:α->Bool)(l:List α):Int:=if l.findIdx p<(aA l) then (l.findIdx p:Int) else-1
theorem Qn {α:Type}(p:α->Bool) {l:List α} {k:Nat}(hk:k<aA l)(h:(l.take k).any p=aP)(hp:p l[k]=aO):(k:Int)=uQ p l:=by
 have h1:=aF6 p l k h (by omega);have h2:l.findIdx p<=k:=by
  rcases rF k (l.findIdx p) with hlt|zh
  ·have:=List.not_of_lt_findIdx hlt;simp [hp] at this
  exact zh
 have e:l.findIdx p=k:=by omega
 unfold uQ;rw [e,ifP hk]
theorem Qo {α:Type}(p:α->Bool) {l:List α}(h:l.any p=aP):(-1:Int)=uQ p l:=by unfold uQ;rw [ifN];intro hl;have h1:=Tl (xs:=l) (p:=p) (w:=hl);rw [zE] at h;exact h _ (cK hl) h1
theorem aGc(L:List Ob)(A:Option ai)(c:Nat)(c1 c2:aN)(p:Ob->Bool)(w:aJ)(hs:aW w w.heap.size A (fJ L))(hl:aA L<=1000000)
 (hp:∀(x:Ob) (W:aJ),aa w.heap.size w W->aQ aM 216 #[x.val,c1,c2] W λe w'=>e=aU (bM (p x))/\aa W.heap.size W w'):
 aQ aM 168 #[aH A (aA L) c,.func (.func 216) #[] #[c1,c2]] w λe w'=>e=aU (aG aF (uQ p L))/\aa w.heap.size w w':=by
 have HS:=η hs;have HP:=η hp;go_enter aAD,aB0
 go_wp2
 go_loopw [5,8] (λ_ i wr=>∃k:Nat,k<=aA L/\i=aG aF k/\Hid (aa w.heap.size w wr)/\Hid ((L.take k).any p=aP)) (λ_ i _=>aA L-(ag i).toNat)
 case atStart=>exact⟨0,bL _,rfl,aX _ _,rfl⟩
 case round=>
  obtain⟨k,hk,rfl,HB,HK⟩:=hrel;have hsz:=HB.o.size;by_cases hlt:k<aA L
  ·obtain⟨b,o,rfl,hb,d0,d1,d2,d3,d4,d5⟩:=xO (HS.o.below HB.o) hlt;have HA:=η (zM p hlt);cases hp:p L[k]
   ·go_wp2_with (go_at_call 216;refine lu (HP.o L[k] _ HB.o) λw1 aR=> ?_)
    go_roundw
    case rel=>exact⟨k+1,by omega,by go_num,HB.o.trans (aR.o.mono hsz),η (by rw [HA.o,HK.o,hp];rfl)⟩
    case measure=>simp [ag];omega
   have HF:=η (Qn p hlt HK.o hp);go_wp2_with (go_at_call 216;refine lu (HP.o L[k] _ HB.o) λw1 aR=> ?_)
   go_ret;exact⟨cY HF.o,HB.o.trans (aR.o.mono hsz)⟩
  obtain rfl:k=aA L:=by omega
  have hn:=HK.o;rw [cU] at hn;have HN:=η (Qo p hn);go_wp2
  go_ret;exact⟨cY HN.o,HB.o⟩
theorem aGb(L:List Ob)(A:Option ai)(c:Nat)(c1:aN)(p:Ob->Bool)(w:aJ)(hs:aW w w.heap.size A (fJ L))(hl:aA L<=1000000)
 (hp:∀(x:Ob) (W:aJ),aa w.heap.size w W->aQ aM 109 #[x.val,c1] W λe w'=>e=aU (bM (p x))/\aa W.heap.size W w'):
 aQ aM 168 #[aH A (aA L) c,.func (.func 109) #[] #[c1]] w λe w'=>e=aU (aG aF (uQ p L))/\aa w.heap.size w w':=by
 have HS:=η hs;have HP:=η hp;go_enter aAD,aB0
 go_wp2
 go_loopw [5,8] (λ_ i wr=>∃k:Nat,k<=aA L/\i=aG aF k/\Hid (aa w.heap.size w wr)/\Hid ((L.take k).any p=aP)) (λ_ i _=>aA L-(ag i).toNat)
 case atStart=>exact⟨0,bL _,rfl,aX _ _,rfl⟩
 case round=>
  obtain⟨k,hk,rfl,HB,HK⟩:=hrel;have hsz:=HB.o.size;by_cases hlt:k<aA L
  ·obtain⟨b,o,rfl,hb,d0,d1,d2,d3,d4,d5⟩:=xO (HS.o.below HB.o) hlt;have HA:=η (zM p hlt);cases hp:p L[k]
   ·go_wp2_with (go_at_call 109;refine lu (HP.o L[k] _ HB.o) λw1 aR=> ?_)
    go_roundw
    case rel=>exact⟨k+1,by omega,by go_num,HB.o.trans (aR.o.mono hsz),η (by rw [HA.o,HK.o,hp];rfl)⟩
    case measure=>simp [ag];omega
   have HF:=η (Qn p hlt HK.o hp);go_wp2_with (go_at_call 109;refine lu (HP.o L[k] _ HB.o) λw1 aR=> ?_)
   go_ret;exact⟨cY HF.o,HB.o.trans (aR.o.mono hsz)⟩
  obtain rfl:k=aA L:=by omega
  have hn:=HK.o;rw [cU] at hn;have HN:=η (Qo p hn);go_wp2
  go_ret;exact⟨cY HN.o,HB.o⟩
theorem aGd(L:List Lg)(A:Option ai)(c:Nat)(c1:aN)(p:Lg->Bool)(w:aJ)(hs:aW w w.heap.size A (bA L))(hl:aA L<=1000000)
 (hp:∀(x:Lg) (W:aJ),aa w.heap.size w W->aQ aM 171 #[x.val,c1] W λe w'=>e=aU (bM (p x))/\aa W.heap.size W w'):
 aQ aM 210 #[aH A (aA L) c,.func (.func 171) #[] #[c1]] w λe w'=>e=aU (aG aF (uQ p L))/\aa w.heap.size w w':=by
 have HS:=η hs;have HP:=η hp;go_enter func210,ntmps210
 go_wp2
 go_loopw [5,8] (λ_ i wr=>∃k:Nat,k<=aA L/\i=aG aF k/\Hid (aa w.heap.size w wr)/\Hid ((L.take k).any p=aP)) (λ_ i _=>aA L-(ag i).toNat)
 case atStart=>exact⟨0,bL _,rfl,aX _ _,rfl⟩
 case round=>
  obtain⟨k,hk,rfl,HB,HK⟩:=hrel;have hsz:=HB.o.size;by_cases hlt:k<aA L
  ·obtain⟨b,o,rfl,hb,d0,d1,d2⟩:=oG (HS.o.below HB.o) hlt;have HA:=η (zM p hlt);cases hp:p L[k]
   ·go_wp2_with (go_at_call 171;refine lu (HP.o L[k] _ HB.o) λw1 aR=> ?_)
    go_roundw
    case rel=>exact⟨k+1,by omega,by go_num,HB.o.trans (aR.o.mono hsz),η (by rw [HA.o,HK.o,hp];rfl)⟩
    case measure=>simp [ag];omega
   have HF:=η (Qn p hlt HK.o hp);go_wp2_with (go_at_call 171;refine lu (HP.o L[k] _ HB.o) λw1 aR=> ?_)
   go_ret;exact⟨cY HF.o,HB.o.trans (aR.o.mono hsz)⟩
  obtain rfl:k=aA L:=by omega
  have hn:=HK.o;rw [cU] at hn;have HN:=η (Qo p hn);go_wp2
  go_ret;exact⟨cY HN.o,HB.o⟩
section
structure fX(w:aJ)(bs base:Nat)(v:aN)(L:List Ob):Prop where
 s:w.heap[bs]? =aC (aK #[v] 146 (0,0))
 own:w.ownsRow base 59 6 v (aA L) (fJ L)
section
variable {w w':aJ} {bs base:Nat} {v:aN} {L:List Ob}
theorem fX.lt(h:fX w bs base v L):bs<w.heap.size:=(fY.1 h.s).1
theorem fX.c0(h:fX w bs base v L):w.cell? ⟨bs,0,aB⟩=aC v:=bG _ _ _ _ _ (0,0) h.s
theorem fX.f0(h:fX w bs base v L):w.frozen? ⟨bs,0,aB⟩=aP:=by simp [iU,h.s]
theorem fX.below(h:fX w bs base v L)(hb:aa w.heap.size w w'):fX w' bs base v L:=by refine⟨(hb.block _ h.lt).trans h.s, ?_⟩;have hg:w.grownBy w' aB:=⟨hb.os,hb.tape,hb.output,hb.size,λi hi _=>hb.block i hi⟩;exact h.own.kept hg (by cases v.ownBlock<;>simp)
theorem fX.ne(h:fX w bs base v L):v.ownBlock≠aC bs:=by
 rcases h.own.2 with⟨rfl,_⟩|⟨g,cap,cur,rfl,_,hh,_⟩
 ·simp [dx]
 intro e;have e':g=bs:=by simpa [dx] using e
 subst e';rw [h.s] at hh;injection hh with hh;injection hh with _ ht;exact absurd ht (by decide)
end
theorem N8(L:List Ob)(v:aN)(bs base:Nat)(w:aJ)(h:fX w bs base v L)(hl:aA L<=1000000):
 aQ aM 43 #[bH (aC ⟨bs,0,aB⟩)] w (CC w L):=by
 have c0:=h.c0;have HO:=η h.own;go_enter func43,ntmps43
 go_wp2_with (go_at_call 96;refine(aHw L v base _ HO.o hl).mono ?_;rintro e w1 ⟨v1,rfl,eR,hb1⟩;have cF:=η eR;have aR:=η hb1)
 go_ret;exact⟨v1,rfl,cF.o,aR.o⟩
def wZ(s:Int)(L:List Ob):Int:=aA (L.filter λx=>x.st==s)
theorem aE2(s:Int) {L:List Ob} {k:Nat}(hk:k<aA L):wZ s (L.take (k+1))=wZ s (L.take k)+(if L[k].st==s then 1 else 0):=by unfold wZ;rw [fF hk,List.filter_append,cL];by_cases h:(L[k].st==s)=aO<;>simp [h]
theorem aE0(s:Int)(L:List Ob)(k:Nat):0<=wZ s (L.take k)/\wZ s (L.take k)<=k:=by unfold wZ;have h1:=qN (λx:Ob=>x.st==s) (L.take k);have h2:=List.length_take_le k L;omega
theorem aE1(L:List Ob):(decide (0<wZ 1 L))=L.any eW:=by
 rw [FN];unfold wZ;rw [decide_eq_true_eq,kK];constructor
 ·intro h;have hp:0<aA (L.filter λx=>x.st==1):=by omega
  obtain⟨x,hx⟩:=List.exists_mem_of_length_pos hp;exact⟨x,(j6.1 hx).1,(j6.1 hx).2⟩
 rintro⟨x,hx,hp⟩;have:0<aA (L.filter λx=>x.st==1):=List.length_pos_of_mem (j6.2 ⟨hx,hp⟩);omega
theorem X6(L:List Ob)(s:Int)(v:aN)(bs base:Nat)(w:aJ)(h:fX w bs base v L)(hl:aA L<=1000000):
 aQ aM 107 #[bH (aC ⟨bs,0,aB⟩),aG aF s] w λe w'=>e=aU (aG aF (wZ s L))/\aa w.heap.size w w':=by
 have HH:=η h;go_enter func107,ntmps107
 go_wp2_with fail
 refine(N8 L v bs base _ HH.o hl).mono ?_;rintro e w1 ⟨v1,rfl,eR,hb1⟩;obtain⟨A1,c1,rfl⟩:=bJ eR;have HS:=η (aW.cA eR);have aR:=η hb1;go_wp2_with fail
 go_loopw [5,11] (λn i wr=>∃k:Nat,k<=aA L/\i=aG aF k/\n=aG aF (wZ s (L.take k))/\Hid (aa w1.heap.size w1 wr)) (λ_ i _=>aA L-(ag i).toNat)
 case atStart=>exact⟨0,bL _,rfl,rfl,aX _ _⟩
 case round=>
  obtain⟨k,hk,rfl,rfl,HB⟩:=hrel;have hsz:=HB.o.size;obtain⟨n0,n1⟩:=aE0 s L k;by_cases hlt:k<aA L
  ·obtain⟨b,o,rfl,hb,d0,d1,d2,d3,d4,d5⟩:=xO (HS.o.below HB.o) hlt;have HC:=η (aE2 s hlt);cases hp:(L[k].st==s)
   ·go_wp2_with fail
    go_roundw
    case rel=>exact⟨k+1,by omega,by go_num,by rw [HC.o,hp];go_num,HB.o.alloc hsz _⟩
    case measure=>simp [ag];omega
   go_wp2_with fail
   go_roundw
   case rel=>exact⟨k+1,by omega,by go_num,by rw [HC.o,hp];go_num,HB.o.alloc hsz _⟩
   case measure=>simp [ag];omega
  obtain rfl:k=aA L:=by omega
  rw [cU];go_wp2_with fail
  go_ret;exact⟨rfl,aR.o.trans (HB.o.mono aR.o.size)⟩
theorem aF5(x:Ob)(m a:Int)(bm ba:Nat)(w:aJ)(hm:w.cell? ⟨bm,0,aB⟩=aC (aG aF m))(ha:w.cell? ⟨ba,0,aB⟩=aC (aG aF a))(h1:bm<w.heap.size)(h2:ba<w.heap.size):
 aQ aM 216 #[x.val,π bm,π ba] w λe w'=>e=aU (bM (yT m a x))/\aa w.heap.size w w':=by
 obtain⟨c,xm,xa,az,done,st⟩:=x;unfold Ob.val;go_enter func216,ntmps216
 go_wp2
 all_goals
  go_ret;refine⟨fP ?_,(aX _ _).alloc (aZ _) _⟩;rw [FN];simp_all [yT]
theorem KC(L:List Ob)(m a:Int)(v:aN)(bs base:Nat)(w:aJ)(h:fX w bs base v L)(hl:aA L<=1000000):
 aQ aM 175 #[bH (aC ⟨bs,0,aB⟩),aG aF m,aG aF a] w λe w'=>e=aU (aG aF (uQ (yT m a) L))/\aa w.heap.size w w':=by
 have hlt:=h.lt;have hb2:aa w.heap.size w ((w.alloc (aK #[aG aF m] 3)).alloc (aK #[aG aF a] 3)):=σ.alloc (by simp) _;have h':=h.below hb2;have c0:=h.c0;obtain⟨A,c,rfl⟩:=bJ h'.own;have HS:=η (aW.cA h'.own)
 have hp:∀(x:Ob) (W:aJ),aa ((w.alloc (aK #[aG aF m] 3)).alloc (aK #[aG aF a] 3)).heap.size ((w.alloc (aK #[aG aF m] 3)).alloc (aK #[aG aF a] 3)) W->
  aQ aM 216 #[x.val,bH (aC ⟨w.heap.size,0,aB⟩),bH (aC ⟨w.heap.size+1,0,aB⟩)] W λe w'=>e=aU (bM (yT m a x))/\aa W.heap.size W w':=by
  intro x W hb;have hz:=hb.size;simp at hz;refine aF5 x m a _ _ W ?_ ?_ (by omega) (by omega)
  ·rw [hb.cell (p:=⟨w.heap.size,0,aB⟩) (by simp;omega),BH _ _ _ (by simp),cM _ _ _ _ rfl];rfl
  rw [hb.cell (p:=⟨w.heap.size+1,0,aB⟩) (by simp),cM _ _ _ _ (by simp)];rfl
 have HP:=η hp;have aV:=η hb2;go_enter func175,ntmps175
 go_wp2_with (go_at_call 168;refine lu (aGc L A c _ _ (yT m a) _ HS.o hl HP.o) λw1 aR=> ?_)
 go_ret;exact⟨rfl,aV.o.trans (aR.o.mono (by simp;omega))⟩
end
theorem a2j {L:List Ob} {i:Nat} {f:Ob->Ob}(h:sD L)(dR:∀x,L[i]? =aC x->(f x).ok)(Vr:∀x,(f x).m=x.m/\(f x).a=x.a/\(eW (f x)=aO->eW x=aO)):sD (L.modify i f):=by
 refine⟨?_, ?_,by simpa using h.len⟩
 ·intro y hy;obtain⟨k,hk,rfl⟩:=sR.1 hy;rw [Fq];have lZ:k<aA L:=by simpa using hk
  split
  ·rename_i e;subst e;exact dR _ (iA lZ)
  exact h.each _ (cK lZ)
 intro j k hj hk hjk oj ok' QW;have hj':j<aA L:=by simpa using hj
 have lZ:k<aA L:=by simpa using hk
 rw [Fq] at oj ok' QW;rw [Fq] at QW;have fact:∀(q:Nat) (hq:q<aA L),(eW (if i=q then f L[q] else L[q])=aO->eW L[q]=aO)/\(if i=q then f L[q] else L[q]).m=L[q].m/\(if i=q then f L[q] else L[q]).a=L[q].a:=by
  intro q hq;split
  ·exact⟨(Vr _).2.2,(Vr _).1,(Vr _).2.1⟩
  exact⟨id,rfl,rfl⟩
 rw [(fact j hj').2.1,(fact j hj').2.2,(fact k lZ).2.1,(fact k lZ).2.2] at QW;exact h.once j k hj' lZ hjk ((fact j hj').1 oj) ((fact k lZ).1 ok') QW
theorem a7D(L:List Ob):Oo L L:=⟨aZ _,λ_ h _=>iA h⟩
theorem a7C {L:List Ob} {i:Nat} {f:Ob->Ob}(h:∀x,L[i]? =aC x->eW x=aO):Oo L (L.modify i f):=by
 refine⟨by simp,λk hk ho=> ?_⟩;rw [List.getElem?_modify];by_cases e:i=k
 ·subst e;rw [h _ (iA hk)] at ho;cases ho
 simp [e,hk]
theorem M5 {m a:Int} {L:List Ob} {x:Ob}(h:L[dS m a L]? =aC x):eW x=aO/\x.m=m/\x.a=a:=by
 obtain⟨hl,e⟩:=zF.1 h;have hp:=Tl (xs:=L) (p:=yT m a) (w:=hl);have nU:yT m a x=aO:=by rw [<-e];exact hp
 simp [yT] at nU;exact⟨by simp [eW,nU.1.1],nU.1.2,nU.2⟩
theorem aF8 {L:List Ob}(m a n:Int)(h:sD L):sD (kR m a n L)/\Oo L (kR m a n L):=by
 unfold kR;split
 ·rename_i he;have hx:∀x,L[dS m a L]? =aC x->0<=x.az/\1<=n/\n<=x.az-x.done:=by
   intro x hx;unfold ir at he;rw [hx] at he;simp only at he;split at he
   ·cases he
   split at he
   ·cases he
   split at he
   ·cases he
   omega
  refine⟨a2j h (λx hq=> ?_) (λx=>⟨rfl,rfl,id⟩),a7C λx hq=>(M5 hq).1⟩;obtain⟨h1,h2,h3⟩:=hx x hq;have ho:=h.each x (zG hq);have hs:x.size=x.az:=by unfold Ob.size;rw [ifN (by omega)]
  have d0:=ho.d0;refine⟨ho.lo,ho.hi,ho.ne,by simp only;omega, ?_⟩;show x.done+n<=x.size;rw [hs];omega
 exact⟨h,a7D _⟩
theorem aF9 {L:List Ob}(m a n:Int)(h:sD L):sD (ni m a n L)/\Oo L (ni m a n L):=by
 unfold ni;split
 ·rename_i he;have hx:∀x,L[dS m a L]? =aC x->1<=n/\n<=x.done:=by
   intro x hx;unfold l8 at he;rw [hx] at he;simp only at he;split at he
   ·cases he
   split at he
   ·cases he
   split at he
   ·cases he
   omega
  refine⟨a2j h (λx hq=> ?_) (λx=>⟨rfl,rfl,id⟩),a7C λx hq=>(M5 hq).1⟩;obtain⟨h2,h3⟩:=hx x hq;have ho:=h.each x (zG hq);have d1:=ho.d1;refine⟨ho.lo,ho.hi,ho.ne,by simp only;omega, ?_⟩;show x.done-n<=x.size;omega
 exact⟨h,a7D _⟩
structure Only(bs:Nat)(v:aN)(w w':aJ):Prop where
 os:w'.os=w.os
 tape:w'.tape=w.tape
 output:w'.output=w.output
 size:w.heap.size<=w'.heap.size
 block:∀k,k<w.heap.size->k≠bs->aC k≠v.ownBlock->w'.heap[k]? =w.heap[k]?
theorem Only.bV {bs:Nat} {v:aN} {w w':aJ}(h:aa w.heap.size w w'):Only bs v w w':=⟨h.os,h.tape,h.output,h.size,λk hk _ _=>h.block k hk⟩
theorem Only.set {bs g i:Nat} {v:aN} {w w':aJ}(h:Only bs v w w')(hg:v.ownBlock=aC g)(u:aN):Only bs v w (w'.setCell ⟨g,i,aB⟩ u):=
 ⟨h.os,h.tape,h.output,by simpa [EJ] using h.size,λk hk h1 h2=>(nB _ _ _ _ (λe=>h2 (by rw [hg,e]))).trans (h.block k hk h1 h2)⟩
theorem Only.drewN {bs:Nat} {v:aN} {w w':aJ}(h:Only bs v w w')(q:Nat):Only bs v w (w'.drewN q):=⟨h.os,h.tape,h.output,h.size,h.block⟩
theorem Only.drew' {bs:Nat} {v:aN} {w w':aJ}(h:Only bs v w w'):Only bs v w w'.drew:=⟨h.os,h.tape,h.output,h.size,h.block⟩
def From(w:aJ)(v v':aN):Prop:=∀j,v'.ownBlock=aC j->v.ownBlock=aC j\/w.heap.size<=j
theorem qU {w:aJ} {v v':aN}(h:v'.ownBlock=v.ownBlock):From w v v':=λ_ hj=>aS (h▸hj)
def GA(bs base:Nat)(v:aN)(L':List Ob)(E:Int)(w:aJ)(e:di)(w':aJ):Prop:=
 ∃v',e=aU (ν E)/\fX w' bs base v' L'/\Only bs v w w'/\From w v v'
theorem V5 {m a:Int} {L:List Ob}(h:dS m a L<aA L):uQ (yT m a) L=(dS m a L:Int):=by unfold dS at h ⊢;unfold uQ;rw [ifP h]
theorem V6 {m a:Int} {L:List Ob}(h:¬dS m a L<aA L):uQ (yT m a) L= -1:=by unfold dS at h;unfold uQ;rw [ifN h]
theorem KP {w:aJ} {bs base:Nat} {v:aN} {L:List Ob}(h:fX w bs base v L) {i:Nat}(hi:i<aA L):
 ∃g cap,v=aH (aC ⟨g,0,aB⟩) (aA L) cap/\g<w.heap.size/\g≠bs/\aA L<=cap/\(∀j,w.frozen? ⟨g,j,aB⟩=aP)/\
  w.cell? ⟨g,i*6,aB⟩=aC (ν L[i].c)/\w.cell? ⟨g,i*6+1,aB⟩=aC (ν L[i].m)/\w.cell? ⟨g,i*6+2,aB⟩=aC (ν L[i].a)/\
  w.cell? ⟨g,i*6+3,aB⟩=aC (ν L[i].az)/\w.cell? ⟨g,i*6+4,aB⟩=aC (ν L[i].done)/\w.cell? ⟨g,i*6+5,aB⟩=aC (ν L[i].st):=by
 rcases h.own.2 with⟨rfl,h0⟩|⟨g,cap,cur,rfl,hg,hh,xG,hcm,hcs,Hq⟩
 ·omega
 have hlt:=(fY.1 hh).1;have hs:=aW.cA h.own;obtain⟨b,o,e,_,d⟩:=xO hs hi;injection e with e;injection e with e1 e2;subst e1 e2;simp only [Nat.zero_add] at d;refine⟨g,cap,rfl,hlt, ?_,xG, ?_,d⟩
 ·intro e;exact h.ne (by simp [dx,e])
 intro j;simp [iU,hh]
theorem a6T:∀(L:List Ob) (i:Nat) (hi:i<aA L) (f:Ob->Ob) (j:Nat) (u:aN) (_:j<6) (_:(f L[i]).cells=(L[i]).cells.set j u),fJ (L.modify i f)=(fJ L).set (i*6+j) u
 | [],i,hi,_,_,_,_,_=>absurd hi (by simp)
 |x::L,0,_,f,j,u,hj,hf=>by have hl:=hj;rw [List.modify_zero_cons];unfold fJ;rw [wP,wP,Nat.zero_mul,Nat.zero_add,List.set_append_left _ _ hl];rw [show (f x).cells=x.cells.set j u from hf]
 |x::L,i+1,hi,f,j,u,hj,hf=>by
  rw [List.modify_succ_cons];have ih:=a6T L i (by simpa using hi) f j u hj hf;unfold fJ at ih ⊢;have e:(i+1)*6+j=6+(i*6+j):=by omega
  rw [wP,wP,ih,e,List.set_append_right _ _ (by simp [Ob.cells])];simp [Ob.cells]
theorem fX.store {w:aJ} {bs base:Nat} {L:List Ob} {g cap:Nat}(h:fX w bs base (aH (aC ⟨g,0,aB⟩) (aA L) cap) L) {i j:Nat}(hi:i<aA L)(hj:j<6)(u:aN)(f:Ob->Ob)(hf:(f L[i]).cells=(L[i]).cells.set j u):
 fX (w.setCell ⟨g,i*6+j,aB⟩ u) bs base (aH (aC ⟨g,0,aB⟩) (aA (L.modify i f)) cap) (L.modify i f):=by
 have hne:=h.ne;refine⟨?_, ?_⟩
 ·rw [nB _ _ _ _ (λe=>hne (by simp only [dx];exact congrArg aC e.symm)),a9T];exact h.s
 rw [a6T L i hi f j u hj hf,a9T];exact(h.own.stored (i*6+j) u).1
theorem fX.drewN {w:aJ} {bs base:Nat} {v:aN} {L:List Ob}(h:fX w bs base v L)(q:Nat):fX (w.drewN q) bs base v L:=⟨h.s,h.own⟩
def JX(m a n:Int)(L:List Ob):Int:=if debtE m a n L=0 then (dS m a L:Int) else 0
theorem R7(L:List Ob)(m a n:Int)(v:aN)(bs base:Nat)(w:aJ)(h:fX w bs base v L)(hl:aA L<=1000000):
 aQ aM 120 #[bH (aC ⟨bs,0,aB⟩),aG aF m,aG aF a,aG aF n] w λe w'=>
  e=aU (bB #[aG aF (JX m a n L),aG aF (debtE m a n L)])/\aa w.heap.size w w':=by
 have HH:=η h;have hlt:=h.lt;by_cases hi:dS m a L<aA L
 ·have HI:=η (V5 hi);have hx:L[dS m a L]? =aC L[dS m a L]:=iA hi;have hE:debtE m a n L=if L[dS m a L].az<0 then 8 else if n<1 then 1 else 0:=by unfold debtE;rw [hx]
  have HE:=η hE;have hJ:JX m a n L=if debtE m a n L=0 then (dS m a L:Int) else 0:=rfl
  have HJ:=η hJ;generalize dS m a L=i at*;go_enter aA4,aAr
  go_wp2_with fail
  refine(KC L m a v bs base _ HH.o hl).mono ?_;rintro e w1 ⟨rfl,hb1⟩;obtain⟨g,cap,rfl,hg,_,Ee,_,d0,d1,d2,d3,d4,d5⟩:=KP (HH.o.below hb1) hi;have c0:=(HH.o.below hb1).c0;have aR:=η hb1;rw [HI.o];by_cases Jr:L[i].az<0
  ·go_wp2_with fail
   go_ret2;refine⟨?_,aR.o⟩;have hv:debtE m a n L=8:=by rw [HE.o,ifP Jr]
   rw [HJ.o,hv];rfl
  by_cases ju:n<1
  ·go_wp2_with fail
   go_ret2;refine⟨?_,aR.o⟩;have hv:debtE m a n L=1:=by rw [HE.o,ifN (by omega),ifP ju]
   rw [HJ.o,hv];rfl
  go_wp2_with fail
  go_ret2;refine⟨?_,aR.o⟩;have hv:debtE m a n L=0:=by rw [HE.o,ifN (by omega),ifN (by omega)]
  rw [HJ.o,hv];rfl
 have HI:=η (V6 hi);have hx:L[dS m a L]? =aB:=LN (by omega);have hE:debtE m a n L=8:=by unfold debtE;rw [hx]
 have HE:=η hE;go_enter aA4,aAr
 go_wp2_with fail
 refine(KC L m a v bs base _ HH.o hl).mono ?_;rintro e w1 ⟨rfl,hb1⟩;have aR:=η hb1;rw [HI.o];go_wp2_with fail
 go_ret2;refine⟨?_,aR.o⟩;rw [JX,HE.o];rfl
theorem a5i {m a n:Int} {L:List Ob}(h:debtE m a n L≠0):ir m a n L=debtE m a n L/\l8 m a n L=debtE m a n L:=by
 unfold ir l8 debtE at*;cases hq:L[dS m a L]? with
 |none=>exact⟨rfl,rfl⟩
 |some x=>
  rw [hq] at h;simp only at h ⊢;split
  ·exact⟨rfl,rfl⟩
  split
  ·exact⟨rfl,rfl⟩
  rename_i h1 h2;rw [ifN h1,ifN h2] at h;exact absurd rfl h
theorem a2E {m a n:Int} {L:List Ob}(h:debtE m a n L=0):∃hi:dS m a L<aA L,0<=L[dS m a L].az/\1<=n/\JX m a n L=(dS m a L:Int)/\
 ir m a n L=(if L[dS m a L].az-L[dS m a L].done<n then 12 else 0)/\l8 m a n L=(if L[dS m a L].done<n then 12 else 0):=by
 have hj:JX m a n L=(dS m a L:Int):=by unfold JX;rw [ifP h]
 unfold debtE ir l8 at*;by_cases hi:dS m a L<aA L
 ·rw [iA hi] at h ⊢;simp only at h ⊢;split at h
  ·cases h
  rename_i h1;split at h
  ·cases h
  rename_i h2;rw [ifN h1,ifN h2,ifN h1,ifN h2];exact⟨hi,by omega,by omega,hj,rfl,rfl⟩
 rw [LN (by omega)] at h;cases h
theorem aI2(L:List Ob)(m a n:Int)(v:aN)(bs base:Nat)(w:aJ)(h:fX w bs base v L)(hL:sD L)(hn:n<=9223372036854775807):
 aQ aM 60 #[bH (aC ⟨bs,0,aB⟩),aG aF m,aG aF a,aG aF n] w (GA bs base v (kR m a n L) (ir m a n L) w):=by
 have hl:aA L<=1000000:=by have:=hL.len;omega
 have HH:=η h;by_cases hd:debtE m a n L=0
 ·obtain⟨hi,lf,ju,hJ,hP,_⟩:=a2E hd;have dR:=hL.each _ (cK hi);obtain⟨o1,o2,o3,o4,o5⟩:=dR;have hsz:L[dS m a L].size=L[dS m a L].az:=by unfold Ob.size;rw [ifN (by omega)]
  rw [hsz] at o5;have hpl:kR m a n L=if ir m a n L=0 then L.modify (dS m a L) (λx=> {x with done:=x.done+n}) else L:=rfl
  have HD:=η hd;have HJ:=η hJ;have HP:=η hP;have eF:=η hpl;generalize dS m a L=i at*;clear hd hJ hP hpl h hsz o1 o3;go_enter aAb,aBN
  go_wp2_with fail
  refine(R7 L m a n v bs base _ HH.o hl).mono ?_;rintro e w1 ⟨rfl,hb1⟩;rw [HJ.o,HD.o];obtain⟨g,cap,rfl,hg,hgb,Ee,vK,d0,d1,d2,d3,d4,d5⟩:=KP (HH.o.below hb1) hi;have c0:=(HH.o.below hb1).c0;have cW:=η (HH.o.below hb1);have aR:=η hb1;clear hb1;have hkb:(i:Int)<(aA L:Int):=by omega
  have eV:(0:Int)<=(i:Int):=by omega
  have yP:aF.wrap (L[i].az-L[i].done)=L[i].az-L[i].done:=sM _ (by omega);have xz:=η yP;by_cases hm:L[i].az-L[i].done<n
  ·go_wp2_with fail
   go_quiet (fail)
   clear yP;go_wp2_with fail
   go_ret;have hE:ir m a n L=12:=by rw [HP.o,ifP hm]
   refine⟨aH (aC ⟨g,0,aB⟩) (aA L) cap,cY hE.symm, ?_,Only.bV (below_drewN aR.o _),qU rfl⟩;rw [eF.o,hE];exact cW.o.drewN _
  go_wp2_with fail
  go_quiet (fail)
  clear yP;have hf4:=vK (i*6+4);clear vK;go_wp2_with fail
  go_ret;have hE:ir m a n L=0:=by rw [HP.o,ifN (by omega)]
  refine⟨aH (aC ⟨g,0,aB⟩) (aA (L.modify i (λx=> {x with done:=x.done+n}))) cap,cY hE.symm, ?_,((Only.bV aR.o).drewN _).set rfl _,qU rfl⟩;rw [eF.o,hE];exact(cW.o.drewN _).store hi (by decide) _ (λx=> {x with done:=x.done+n}) rfl
 have hP:=(a5i hd).1;have hpl:kR m a n L=L:=by unfold kR;rw [ifN (by rw [hP];exact hd)]
 have HP:=η hP;have eF:=η hpl;have BR:(debtE m a n L !=0)=aO:=by simpa using hd
 clear hP hpl h hd;go_enter aAb,aBN
 go_wp2_with fail
 refine(R7 L m a n v bs base _ HH.o hl).mono ?_;rintro e w1 ⟨rfl,hb1⟩;have aR:=η hb1;clear hb1;go_wp2_with fail
 go_ret;refine⟨v,cY HP.o.symm, ?_,Only.bV aR.o,qU rfl⟩;rw [eF.o];exact HH.o.below aR.o
theorem aI3(L:List Ob)(m a n:Int)(v:aN)(bs base:Nat)(w:aJ)(h:fX w bs base v L)(hL:sD L)(hn:n<=9223372036854775807):
 aQ aM 84 #[bH (aC ⟨bs,0,aB⟩),aG aF m,aG aF a,aG aF n] w (GA bs base v (ni m a n L) (l8 m a n L) w):=by
 have hl:aA L<=1000000:=by have:=hL.len;omega
 have HH:=η h;by_cases hd:debtE m a n L=0
 ·obtain⟨hi,lf,ju,hJ,_,hP⟩:=a2E hd;have dR:=hL.each _ (cK hi);obtain⟨o1,o2,o3,o4,o5⟩:=dR;have hsz:L[dS m a L].size=L[dS m a L].az:=by unfold Ob.size;rw [ifN (by omega)]
  rw [hsz] at o5;have hpl:ni m a n L=if l8 m a n L=0 then L.modify (dS m a L) (λx=> {x with done:=x.done-n}) else L:=rfl
  have HD:=η hd;have HJ:=η hJ;have HP:=η hP;have eF:=η hpl;generalize dS m a L=i at*;clear hd hJ hP hpl h hsz o1 o3;go_enter aAh,aBU
  go_wp2_with fail
  refine(R7 L m a n v bs base _ HH.o hl).mono ?_;rintro e w1 ⟨rfl,hb1⟩;rw [HJ.o,HD.o];obtain⟨g,cap,rfl,hg,hgb,Ee,vK,d0,d1,d2,d3,d4,d5⟩:=KP (HH.o.below hb1) hi;have c0:=(HH.o.below hb1).c0;have cW:=η (HH.o.below hb1);have aR:=η hb1;clear hb1;have hkb:(i:Int)<(aA L:Int):=by omega
  have eV:(0:Int)<=(i:Int):=by omega
  by_cases hm:L[i].done<n
  ·go_wp2_with fail
   go_ret;have hE:l8 m a n L=12:=by rw [HP.o,ifP hm]
   refine⟨aH (aC ⟨g,0,aB⟩) (aA L) cap,cY hE.symm, ?_,Only.bV (aR.o),qU rfl⟩;rw [eF.o,hE];exact cW.o
  have hf4:=vK (i*6+4);clear vK;go_wp2_with fail
  go_ret;have hE:l8 m a n L=0:=by rw [HP.o,ifN (by omega)]
  refine⟨aH (aC ⟨g,0,aB⟩) (aA (L.modify i (λx=> {x with done:=x.done-n}))) cap,cY hE.symm, ?_,(Only.bV aR.o).set rfl _,qU rfl⟩;rw [eF.o,hE];exact cW.o.store hi (by decide) _ (λx=> {x with done:=x.done-n}) rfl
 have hP:=(a5i hd).2;have hpl:ni m a n L=L:=by unfold ni;rw [ifN (by rw [hP];exact hd)]
 have HP:=η hP;have eF:=η hpl;have BR:(debtE m a n L !=0)=aO:=by simpa using hd
 clear hP hpl h hd;go_enter aAh,aBU
 go_wp2_with fail
 refine(R7 L m a n v bs base _ HH.o hl).mono ?_;rintro e w1 ⟨rfl,hb1⟩;have aR:=η hb1;clear hb1;go_wp2_with fail
 go_ret;refine⟨v,cY HP.o.symm, ?_,Only.bV aR.o,qU rfl⟩;rw [eF.o];exact HH.o.below aR.o
theorem aK4(x:Ob):max x.az (-x.az)=x.size:=by unfold Ob.size;split<;>omega
theorem a5P(x:Ob)(w:aJ)(h0:fj<x.az)(h1:x.az<=9223372036854775807):
 aQ aM 176 #[x.val] w λe w'=>e=aU (aG aF x.size)/\aa w.heap.size w w':=by
 have HM:=η (aK4 x);unfold fj at h0;obtain⟨c,m,a,az,done,st⟩:=x;simp only at h0 h1;unfold Ob.val;go_enter func176,ntmps176
 go_wp2
 all_goals
  go_ret;refine⟨cY ?_,(aX _ _).alloc (aZ _) _⟩;rw [<-HM.o];try omega
theorem aHz(w:aJ):aQ aM 33 #[] w λe w'=>e=aU (bH (aC ⟨w.heap.size,0,aB⟩))/\w.alloc (aK #[aH aB 0 0] 146)=w':=by
 go_enter func33,ntmps33
 go_wp2
 go_ret;exact⟨rfl,rfl⟩
def K9(s n z:Int):Bool:=decide (s<2)||decide (5<s)||decide (n<0)||decide (z<n)||(s==2&&n !=z)
theorem aHL {m a s n:Int} {L:List Ob}(hi:dS m a L<aA L):vY m a s n L=if K9 s n L[dS m a L].size then 1 else 0:=by
 unfold vY;rw [iA hi];simp only;by_cases h:s<2\/5<s\/n<0\/L[dS m a L].size<n\/(s=2/\n≠L[dS m a L].size)
 ·rw [ifP h,ifP];unfold K9;simp only [Bool.or_eq_true,decide_eq_true_eq,jX,beq_iff_eq,bne_iff_ne];omega
 rw [ifN h,ifN];unfold K9;simp only [Bool.or_eq_true,decide_eq_true_eq,jX,beq_iff_eq,bne_iff_ne];omega
theorem a5G(L:List Ob)(i:Nat)(s n:Int):(L.modify i (λx=> {x with st:=s})).modify i (λx=> {x with done:=n})=L.modify i (λx=> {x with st:=s,done:=n}):=by rw [List.modify_modify_eq];rfl
theorem N9(L:List Ob)(m a s n:Int)(v:aN)(bs base:Nat)(w:aJ)(h:fX w bs base v L)(hL:sD L):
 aQ aM 124 #[bH (aC ⟨bs,0,aB⟩),aG aF m,aG aF a,aG aF s,aG aF n] w (GA bs base v (lQ m a s n L) (vY m a s n L) w):=by
 have hl:aA L<=1000000:=by have:=hL.len;omega
 have HH:=η h;by_cases hi:dS m a L<aA L
 ·have HI:=η (V5 hi);have hP:=aHL (s:=s) (n:=n) hi;have hpl:lQ m a s n L=if vY m a s n L=0 then L.modify (dS m a L) (λx=> {x with st:=s,done:=n}) else L:=rfl
  obtain⟨o1,o2,o3,o4,o5⟩:=hL.each _ (cK hi);have HP:=η hP;have eF:=η hpl;generalize dS m a L=i at*;have cF:=η o1;clear hP hpl h o1 o3;go_enter aA5,aAs
  go_wp2_with fail
  refine(KC L m a v bs base _ HH.o hl).mono ?_;rintro e w1 ⟨rfl,hb1⟩;rw [HI.o];obtain⟨g,cap,rfl,hg,hgb,Ee,vK,d0,d1,d2,d3,d4,d5⟩:=KP (HH.o.below hb1) hi;have c0:=(HH.o.below hb1).c0;have aR:=η hb1;have hz1:=hb1.size;clear hb1;go_wp2_with fail
  refine(a5P L[i] _ cF.o o2).mono ?_;rintro e w2 ⟨rfl,hb2⟩;clear d0 d1 d2 d3 d4 d5 c0 vK;have MN:aa w.heap.size w w2:=aR.o.trans (hb2.mono hz1);obtain⟨g',cap',ev,DK,hgb',aM5,vK,d0,d1,d2,d3,d4,d5⟩:=KP (HH.o.below MN) hi;injection ev with Lz _ ev2;injection Lz with Lz;injection Lz with Lz _;subst Lz ev2;have c0:=(HH.o.below MN).c0;have cP:=η (HH.o.below MN);have aV:=η MN;clear hb2 MN;have hkb:(i:Int)<(aA L:Int):=by omega
  have eV:(0:Int)<=(i:Int):=by omega
  have hf4:=vK (i*6+4);have DG:=vK (i*6+5);clear vK;generalize hz:L[i].size=z at*;have HZ:=η hz;clear hz;cases vP:K9 s n z
  ·have hE:vY m a s n L=0:=by rw [HP.o,vP];rfl
   have HE:=η hE;unfold K9 at vP;simp only [Bool.or_eq_false_iff,decide_eq_false_iff_not] at vP;obtain⟨⟨⟨⟨m1,m2⟩,m3⟩,m4⟩,m5⟩:=vP;have O6:=η m5;clear m5 hE;cases hs2:(s==2)
   ·go_wp2_with fail
    go_region
    go_wp2_with fail
    go_ret;refine⟨aH (aC ⟨g,0,aB⟩) (aA ((L.modify i (λx=> {x with st:=s})).modify i (λx=> {x with done:=n}))) cap,cY HE.o.symm, ?_,(((Only.bV aV.o).drew').set rfl _).set rfl _,qU rfl⟩;rw [eF.o,HE.o];have h1:=(cP.o.drewN 1).store (i:=i) (j:=5) hi (by decide) (aG aF s) (λx=> {x with st:=s}) rfl;have h2:=h1.store (i:=i) (j:=4) (by simpa using hi) (by decide) (aG aF n) (λx=> {x with done:=n}) (by simp [Ob.cells]);rw [a5G] at h2 ⊢;exact h2
   have hnz:(n !=z)=aP:=by have:=O6.o;rw [hs2] at this;simpa using this
   go_wp2_with fail
   go_region
   go_wp2_with fail
   go_ret;refine⟨aH (aC ⟨g,0,aB⟩) (aA ((L.modify i (λx=> {x with st:=s})).modify i (λx=> {x with done:=n}))) cap,cY HE.o.symm, ?_,(((Only.bV aV.o).drew').set rfl _).set rfl _,qU rfl⟩;rw [eF.o,HE.o];have h1:=(cP.o.drewN 1).store (i:=i) (j:=5) hi (by decide) (aG aF s) (λx=> {x with st:=s}) rfl;have h2:=h1.store (i:=i) (j:=4) (by simpa using hi) (by decide) (aG aF n) (λx=> {x with done:=n}) (by simp [Ob.cells]);rw [a5G] at h2 ⊢;exact h2
  have hE:vY m a s n L=1:=by rw [HP.o,vP];rfl
  have HE:=η hE;have MH:lQ m a s n L=L:=by rw [eF.o,hE];rfl
  have wG:=η MH;clear hE MH;unfold K9 at vP;by_cases m1:s<2
  ·go_wp2_with fail
   go_ret;exact⟨_,cY HE.o.symm,by rw [wG.o];exact cP.o,Only.bV aV.o,qU rfl⟩
  by_cases m2:5<s
  ·go_wp2_with fail
   go_ret;exact⟨_,cY HE.o.symm,by rw [wG.o];exact cP.o,Only.bV aV.o,qU rfl⟩
  by_cases m3:n<0
  ·go_wp2_with fail
   go_ret;exact⟨_,cY HE.o.symm,by rw [wG.o];exact cP.o,Only.bV aV.o,qU rfl⟩
  by_cases m4:z<n
  ·go_wp2_with fail
   go_ret;exact⟨_,cY HE.o.symm,by rw [wG.o];exact cP.o,Only.bV aV.o,qU rfl⟩
  rw [decide_eq_false m1,decide_eq_false m2,decide_eq_false m3,decide_eq_false m4] at vP;simp only [Bool.false_or,jX] at vP;obtain⟨hs2,hnz⟩:=vP;go_wp2_with fail
  go_ret;exact⟨_,cY HE.o.symm,by rw [wG.o];exact cP.o,Only.bV aV.o,qU rfl⟩
 have HI:=η (V6 hi);have hE:vY m a s n L=8:=by unfold vY;rw [LN (by omega)]
 have MH:lQ m a s n L=L:=by unfold lQ;rw [hE];rfl
 have HE:=η hE;have wG:=η MH;clear hE MH h;go_enter aA5,aAs
 go_wp2_with fail
 refine(KC L m a v bs base _ HH.o hl).mono ?_;rintro e w1 ⟨rfl,hb1⟩;rw [HI.o];have aR:=η hb1;clear hb1;go_wp2_with fail
 go_ret;exact⟨v,cY HE.o.symm,by rw [wG.o];exact HH.o.below aR.o,Only.bV aR.o,qU rfl⟩
theorem a1u(x:Ob)(cy:Int)(bc:Nat)(w:aJ)(hc:w.cell? ⟨bc,0,aB⟩=aC (aG aF cy))(h1:bc<w.heap.size):
 aQ aM 109 #[x.val,π bc] w λe w'=>e=aU (bM (decide (cy<=x.c)))/\aa w.heap.size w w':=by
 obtain⟨c,xm,xa,az,done,st⟩:=x;unfold Ob.val;go_enter func109,ntmps109
 go_wp2
 go_ret;exact⟨rfl,(aX _ _).alloc (aZ _) _⟩
theorem Wl {α:Type}(p:α->Bool)(l:List α):decide (0<=uQ p l)=l.any p:=by
 rw [FN,decide_eq_true_eq,kK];unfold uQ;constructor
 ·intro h;split at h
  ·rename_i hl;exact⟨_,cK hl,Tl (w:=hl)⟩
  omega
 rintro⟨x,hx,hp⟩;rw [ifP (List.findIdx_lt_length_of_exists ⟨x,hx,hp⟩)];omega
theorem a3W(L:List Ob)(A:Option ai)(c:Nat)(c1:aN)(p:Ob->Bool)(w:aJ)(hs:aW w w.heap.size A (fJ L))(hl:aA L<=1000000)
 (hp:∀(x:Ob) (W:aJ),aa w.heap.size w W->aQ aM 109 #[x.val,c1] W λe w'=>e=aU (bM (p x))/\aa W.heap.size W w'):
 aQ aM 108 #[aH A (aA L) c,.func (.func 109) #[] #[c1]] w λe w'=>e=aU (bM (L.any p))/\aa w.heap.size w w':=by
 have HI:=η (aGb L A c c1 p w hs hl hp);have HA:=η (Wl p L);go_enter func108,ntmps108
 go_wp2_with (go_at_call 168;refine lu HI.o λw1 aR=> ?_)
 go_ret;exact⟨fP HA.o,aR.o⟩
theorem aFf(L:List Lg)(A:Option ai)(c:Nat)(c1:aN)(p:Lg->Bool)(w:aJ)(hs:aW w w.heap.size A (bA L))(hl:aA L<=1000000)
 (hp:∀(x:Lg) (W:aJ),aa w.heap.size w W->aQ aM 171 #[x.val,c1] W λe w'=>e=aU (bM (p x))/\aa W.heap.size W w'):
 aQ aM 170 #[aH A (aA L) c,.func (.func 171) #[] #[c1]] w λe w'=>e=aU (bM (L.any p))/\aa w.heap.size w w':=by
 have HI:=η (aGd L A c c1 p w hs hl hp);have HA:=η (Wl p L);go_enter func170,ntmps170
 go_wp2_with (go_at_call 210;refine lu HI.o λw1 aR=> ?_)
 go_ret;exact⟨fP HA.o,aR.o⟩
theorem aH8(x y:Lg)(PI:Nat)(w:aJ)(h0:w.cell? ⟨PI,0,aB⟩=aC (aG aF y.m))(h1:w.cell? ⟨PI,1,aB⟩=aC (aG aF y.a))(hb:PI<w.heap.size):
 aQ aM 171 #[x.val,π PI] w λe w'=>e=aU (bM (K8 y x))/\aa w.heap.size w w':=by
 obtain⟨xm,xa,xn⟩:=x;unfold Lg.val;go_enter func171,ntmps171
 go_wp2
 all_goals
  go_ret;refine⟨fP ?_,(aX _ _).alloc (aZ _) _⟩;rw [FN];simp_all [K8]
theorem aC7(n:Int)(h:aL n):(dL (-n) !=0)=(n==fj):=by
 rw [FN];unfold dL fj;unfold aL at h;by_cases hI:aL (-n)
 ·rw [ifP hI];unfold aL at hI;simp;omega
 rw [ifN hI];unfold aL at hI;simp;omega
theorem aW.left {w:aJ} {B:Nat} {A:Option ai} {xs ys:List aN}(h:aW w B A (xs++ys)):aW w B A xs:=λj u hu=>
 h j u (by rw [List.getElem?_append_left (zF.1 hu).1];exact hu)
theorem aH7(bD:List Lg)(i:Nat):bA bD=bA (bD.take i)++bA (bD.drop i):=by unfold bA;rw [<-List.flatMap_append,List.take_append_drop]
theorem a5Q(bD:List Lg)(A:Option ai)(c i:Nat)(w:aJ)(hs:aW w w.heap.size A (bA bD))(hi:i<aA bD)(hl:aA bD<=1000000)(hc:aA bD<=c)(hI:aL bD[i].n):
 aQ aM 110 #[aH A (aA bD) c,aG aF i] w λe w'=>e=aU (bM (ye bD i hi))/\aa w.heap.size w w':=by
 have HS:=η hs;have HI:=η hI;have HE:=η (aC7 _ hI);obtain⟨b,o,rfl,hb,d0,d1,d2⟩:=oG hs hi;clear hs hI;have hl2:aA (bD.take i)=i:=List.length_take_of_le (by omega);have a3d:aQ aM 170 #[aH (aC ⟨b,o,aB⟩) i c,.func (.func 171) #[] #[bH (aC ⟨w.heap.size,0,aB⟩)]] (w.alloc (aK #[aG aF bD[i].m,aG aF bD[i].a,aG aF bD[i].n] 76)) λe w'=>e=aU (bM ((bD.take i).any (K8 bD[i])))/\aa (w.heap.size+1) (w.alloc (aK #[aG aF bD[i].m,aG aF bD[i].a,aG aF bD[i].n] 76)) w':=by
  have Jy:aW (w.alloc (aK #[aG aF bD[i].m,aG aF bD[i].a,aG aF bD[i].n] 76)) (w.alloc (aK #[aG aF bD[i].m,aG aF bD[i].a,aG aF bD[i].n] 76)).heap.size (aC ⟨b,o,aB⟩) (bA (bD.take i)):=by have h1:=HS.o;rw [aH7 bD i] at h1;exact(h1.left.below σ).mono (by simp)
  have h:=aFf (bD.take i) (aC ⟨b,o,aB⟩) c (bH (aC ⟨w.heap.size,0,aB⟩)) (K8 bD[i]) (w.alloc (aK #[aG aF bD[i].m,aG aF bD[i].a,aG aF bD[i].n] 76)) Jy (by omega) (λx W oC=>by
   have hz:=oC.size;simp at hz;have hcell:=λj=>(oC.cell (p:=⟨w.heap.size,j,aB⟩) (by simp)).trans (cM _ _ _ j rfl)
   exact aH8 x bD[i] _ W (hcell 0) (hcell 1) (by omega))
  rw [hl2] at h;exact h.mono λe w' ⟨h1,h2⟩=>⟨h1,h2.mono (by simp)⟩
 have HC:=η a3d;have hW0:aa w.heap.size w (w.alloc (aK #[aG aF bD[i].m,aG aF bD[i].a,aG aF bD[i].n] 76)):=(aX _ _).alloc (aZ _) _;have mA:=η hW0;clear a3d hl2 hW0;go_enter func110,ntmps110
 go_wp2_with fail
 refine(R5 bD[i].n _ HI.o).mono ?_;rintro e w1 ⟨rfl,rfl⟩;cases hz:(bD[i].n==0)
 ·cases hm:(bD[i].n==fj)
  ·have hE:(dL (-bD[i].n) !=0)=aP:=HE.o.trans hm;have hT:(bD.take i).any (K8 bD[i])=ye bD i hi:=by unfold ye SA;rw [hz,hm];rfl
   have HT:=η hT;clear hT;go_wp2_with (go_at_call 170;refine HC.o.mono ?_;rintro e w2 ⟨rfl,hb2⟩;have aV:=η hb2;clear hb2)
   go_ret;exact⟨fP HT.o,mA.o.trans (aV.o.mono (by omega))⟩
  have hE:(dL (-bD[i].n) !=0)=aO:=HE.o.trans hm;have hT:aO=ye bD i hi:=by unfold ye SA;rw [hz,hm];rfl
  have HT:=η hT;clear hT;go_wp2_with fail
  go_ret;exact⟨fP HT.o,mA.o⟩
 have hT:aO=ye bD i hi:=by unfold ye SA;rw [hz];rfl
 have HT:=η hT;clear hT;go_wp2_with fail
 go_ret;exact⟨fP HT.o,mA.o⟩
theorem gM {w:aJ} {base:Nat} {e t:bX} {size n g:Nat} {v:aN} {xs:List aN} {cs:Array aN}(h:w.ownsRow base e size v n xs)(hg:w.heap[g]? =aC (aK cs t (0,0)))(hne:t≠e):v.ownBlock≠aC g:=by
 rcases h.2 with⟨rfl,_⟩|⟨g',cap,cur,rfl,_,hh,_⟩
 ·simp [dx]
 intro e';have e2:g'=g:=by simpa [dx] using e'
 subst e2;rw [hg] at hh;injection hh with hh;injection hh with _ ht;exact hne ht
theorem aCQ {bD:List Lg} {i:Nat} {hi:i<aA bD}(h:ye bD i hi=aO):GQ bD=aO:=by unfold GQ;rw [kK];exact⟨i,nH.2 hi,by rw [dif_pos hi];exact h⟩
theorem aCP {bD:List Lg}(h:∀i (hi:i<aA bD),ye bD i hi=aP):GQ bD=aP:=by unfold GQ;rw [zE];intro i hi;rw [dif_pos (nH.1 hi),h];simp
theorem N7(L:List Ob)(x:Ob):fJ (L++ [x])=fJ L++x.cells:=by unfold fJ;simp
theorem aHK {α β:Type}(f:α->β) {l:List α} {k:Nat}(hk:k<aA l):(l.take (k+1)).map f=(l.take k).map f++ [f l[k]]:=by rw [fF hk,dY];rfl
theorem aW.only {w w':aJ} {bs:Nat} {v:aN} {A:Option ai} {xs:List aN}(h:aW w w.heap.size A xs)(hA:xs≠ []->∀p,A=aC p->p.block≠bs/\aC p.block≠v.ownBlock)(ho:Only bs v w w'):aW w' w.heap.size A xs:=λj u hu=>by obtain⟨b,o,e,hb,hc⟩:=h j u hu;obtain⟨h1,h2⟩:=hA (λe=>by rw [e] at hu;simp at hu) _ e;exact⟨b,o,e,hb,(gg (w:=w) (a:=⟨b,o+j,aB⟩) (ho.block b hb h1 h2)).trans hc⟩
theorem MA {wr w3:aJ} {o1 o2:Obj} {row:Option Nat}(hg:((wr.alloc o1).alloc o2).drew.grownBy w3 row) {k:Nat}(hk:k<wr.heap.size)(hne:aC k≠row):w3.heap[k]? =wr.heap[k]? :=by have h1:=hg.block k (by show k<((wr.alloc o1).alloc o2).heap.size;simp;omega) hne;rw [h1];show ((wr.alloc o1).alloc o2).heap[k]? =_;rw [fG _ _ (by simp;omega),fG _ _ hk]
theorem a3G {wr w3:aJ} {o1 o2:Obj} {row:Option Nat}(hg:((wr.alloc o1).alloc o2).drew.grownBy w3 row)(hne:aC wr.heap.size≠row):w3.heap[wr.heap.size]? =aC o1:=by have h1:=hg.block wr.heap.size (by show wr.heap.size<((wr.alloc o1).alloc o2).heap.size;simp;omega) hne;rw [h1];show ((wr.alloc o1).alloc o2).heap[wr.heap.size]? =_;rw [fG _ _ (by simp)];exact cT wr o1
theorem a5Y {L:List Ob} {cy:Int} {bD:List Lg} {k:Nat} {eC:k<aA bD} {bs base g cap:Nat} {v v1:aN} {w wr w3:aJ} {o1 o2:Obj}
 (Me:Only bs v w wr) (hb3:w3.heap[bs]? =aC (aK #[v1] 146 (0,0))) (hr3:w3.heap[w.heap.size]? =aC (aK #[ν cy] 3 (0,0)))
 (ik:w3.ownsRow base 59 6 (aH (aC ⟨g,0,aB⟩) (aA (L++(bD.take k).map (ft cy))+1) cap) (aA (L++(bD.take k).map (ft cy))+1) (fJ (L++(bD.take k).map (ft cy))++(ft cy bD[k]).cells))
 (hg3:((wr.alloc o1).alloc o2).drew.grownBy w3 v1.ownBlock) (DI:From w v v1) (hat:v1.ownBlock=aC g\/g=wr.heap.size+1+1) (QH:(bD.take (k+1)).map (ft cy)=(bD.take k).map (ft cy)++ [ft cy bD[k]]) (Ed:bs≠w.heap.size):
 (∃v',fX (w3.setCell ⟨bs,0,aB⟩ (aH (aC ⟨g,0,aB⟩) (aA (L++(bD.take k).map (ft cy))+1) cap)) bs base v' (L++(bD.take (k+1)).map (ft cy))/\From w v v')/\
  Only bs v w (w3.setCell ⟨bs,0,aB⟩ (aH (aC ⟨g,0,aB⟩) (aA (L++(bD.take k).map (ft cy))+1) cap))/\
  (w3.setCell ⟨bs,0,aB⟩ (aH (aC ⟨g,0,aB⟩) (aA (L++(bD.take k).map (ft cy))+1) cap)).heap[w.heap.size]? =aC (aK #[ν cy] 3 (0,0)):=by
 have hrow:fJ (L++(bD.take (k+1)).map (ft cy))=fJ (L++(bD.take k).map (ft cy))++(ft cy bD[k]).cells:=by rw [QH,<-List.append_assoc,N7]
 have aG7:aA (L++(bD.take (k+1)).map (ft cy))=aA (L++(bD.take k).map (ft cy))+1:=by rw [QH,<-List.append_assoc,cL,uC]
 have aGH:=gM ik hb3 (by decide);have hz2:=Me.size;refine⟨⟨aH (aC ⟨g,0,aB⟩) (aA (L++(bD.take k).map (ft cy))+1) cap,⟨?_, ?_⟩, ?_⟩,⟨hg3.os.trans Me.os,hg3.tape.trans Me.tape,hg3.output.trans Me.output, ?_, ?_⟩, ?_⟩
 ·rw [om hb3];rfl
 ·rw [hrow,aG7];exact jz ik aGH _
 ·intro j hj;have e:g=j:=by simpa [dx] using hj
  subst e;rcases hat with h|h
  ·exact DI g h
  right;omega
 ·have h2:=hg3.size;have h4:((wr.alloc o1).alloc o2).drew.heap.size=wr.heap.size+2:=by show ((wr.alloc o1).alloc o2).heap.size=_;simp
  simp only [EJ,Array.size_modify];omega
 ·intro j hj hjb hjo;rw [nB _ _ _ _ hjb,MA hg3 (by omega) (λe=> ?_)]
  ·exact Me.block j hj hjb hjo
  rcases DI j e.symm with h|h
  ·exact hjo h.symm
  omega
 rw [nB _ _ _ _ (λe=>Ed e.symm)];exact hr3
theorem aI1(L:List Ob)(cy:Int)(bD:List Lg)(A:Option ai)(c:Nat)(v:aN)(bs base:Nat)(w:aJ)(h:fX w bs base v L)(hL:sD L)(hs:aW w w.heap.size A (bA bD))(hA:bD≠ []->∀p,A=aC p->p.block≠bs/\aC p.block≠v.ownBlock)(hbase:base<=w.heap.size)
 (hn:aA bD<=100000) (hc:aA bD<=c) (hI:∀y∈bD,aL y.n):
 aQ aM 54 #[bH (aC ⟨bs,0,aB⟩),aG aF cy,aH A (aA bD) c] w (GA bs base v (ng cy bD L) (rr cy bD L) w):=by
 have aMC:=hL.len;have hl:aA L<=1000000:=by omega
 have hlt:=h.lt;have hW0:aa w.heap.size w (w.alloc (aK #[aG aF cy] 3)):=(aX _ _).alloc (aZ _) _;have HH:=η (h.below hW0);have mA:=η hW0;have HS:=η hs;have HI:=η hI;have HA:=η hA;have c0:=(h.below hW0).c0;obtain⟨A0,k0,hv⟩:=bJ h.own;have a3K:rr cy bD L=if 1024-(aA L:Int)<(aA bD) then 6 else if L.any eW then 17 else if L.any (λx=>decide (cy<=x.c)) then 7 else if GQ bD then 1 else 0:=rfl
 have HE:=η a3K;have a3P:ng cy bD L=if rr cy bD L=0 then L++bD.map (ft cy) else L:=rfl
 have HL:=η a3P;have CF:=η (aE1 L);subst hv;clear h hs hI hA hW0 a3K a3P;by_cases h6:1024-(aA L:Int)<aA bD
 ·have hE:rr cy bD L=6:=by rw [HE.o,ifP h6]
  have hO:ng cy bD L=L:=by rw [HL.o,hE];rfl
  have CG:=η hE;have lV:=η hO;clear hE hO;go_enter U9,UG
  go_wp2_with fail
  go_ret;exact⟨_,cY CG.o.symm,by rw [lV.o];exact HH.o,Only.bV mA.o,qU rfl⟩
 cases DB:L.any eW
 ·cases h7:L.any (λx=>decide (cy<=x.c))
  ·have a3I:decide (0<wZ 1 L)=aP:=CF.o.trans DB;have MG:rr cy bD L=if GQ bD then 1 else 0:=by rw [HE.o,ifN h6,DB,h7];rfl
   have Yl:=η MG;have H7:=η h7;clear MG DB h7;obtain⟨i0,bj,hz0,fh,hz2⟩:=dK KD;go_enter U9,UG
   go_wp2_with fail
   refine(X6 L 1 _ bs base _ HH.o hl).mono ?_;rintro e w1 ⟨rfl,hb1⟩;have xh:=η (HH.o.below hb1);have c1:=(HH.o.below hb1).c0;have aR:=η hb1;have hz1:=hb1.size;simp at hz1;clear hb1;go_wp2_with fail
   refine(a3W L A0 k0 _ (λx=>decide (cy<=x.c)) _ (aW.cA xh.o.own) hl ?_).mono ?_
   ·intro x W oC;have hzW:=oC.size;refine a1u x cy _ W ?_ (by omega);rw [oC.cell (p:=⟨w.heap.size,0,aB⟩) (by simp;omega),aR.o.cell (p:=⟨w.heap.size,0,aB⟩) (by simp),cM _ _ _ _ rfl];rfl
   rintro e w2 ⟨rfl,hb2⟩;have aV:=η hb2;have xK:=hb2.size;clear hb2;rw [H7.o];have gB:Hid (aa w.heap.size w w2):=mA.o.trans ((aR.o.mono (by simp)).trans (aV.o.mono (by omega)));have Io:=η (xh.o.below aV.o);have bQ:w2.heap[w.heap.size]? =aC (aK #[aG aF cy] 3 (0,0)):=by rw [aV.o.block _ (by omega),aR.o.block _ (by simp)];exact cT w _
   have dN:=η bQ;have cP:Hid (aW w2 w2.heap.size A (bA bD)):=(HS.o.below gB.o).mono (by omega);clear bQ c1 c0;go_wp2_with fail
   go_loopw [7,36] (λ_ i wr=>∃k:Nat,k<=aA bD/\i=aG aF k/\Hid (aa w2.heap.size w2 wr)/\Hid (∀j (hj:j<aA bD),j<k->ye bD j hj=aP)) (λ_ i _=>aA bD-(ag i).toNat)
   case atStart=>exact⟨0,bL _,rfl,aX _ _,λ_ _ h=>absurd h (by omega)⟩
   case round=>
    obtain⟨k,hk,rfl,HB,HK⟩:=hrel;have hsz:=HB.o.size;by_cases eC:k<aA bD
    ·have Ny:=η (HI.o bD[k] (cK eC));cases ht:ye bD k eC
     ·go_wp2_with (go_at_call 110;refine(a5Q bD A c k _ ((cP.o.below HB.o).mono hsz) eC (by omega) hc Ny.o).mono ?_;rintro e w3 ⟨rfl,hb3⟩;have af:=η hb3;clear hb3)
      go_roundw
      case rel=>exact⟨k+1,by omega,by go_num,HB.o.trans (af.o.mono hsz),η (λj hj hjk=>by
       rcases rF j k with h1|h1
       ·exact HK.o j hj h1
       obtain rfl:j=k:=by omega
       exact ht)⟩
      case measure=>simp [ag];omega
     have hE:rr cy bD L=1:=by rw [Yl.o,aCQ ht];rfl
     have hO:ng cy bD L=L:=by rw [HL.o,hE];rfl
     have CG:=η hE;have lV:=η hO;clear hE hO;go_wp2_with (go_at_call 110;refine(a5Q bD A c k _ ((cP.o.below HB.o).mono hsz) eC (by omega) hc Ny.o).mono ?_;rintro e w3 ⟨rfl,hb3⟩;have af:=η hb3;clear hb3)
     go_ret;have js:aa w2.heap.size w2 w3:=HB.o.trans (af.o.mono hsz);exact⟨_,cY CG.o.symm,by rw [lV.o];exact Io.o.below js,Only.bV (gB.o.trans (js.mono (by omega))),qU rfl⟩
    obtain rfl:k=aA bD:=by omega
    have hE:rr cy bD L=0:=by rw [Yl.o,aCP (λj hj=>HK.o j hj hj)];rfl
    have hO:ng cy bD L=L++bD.map (ft cy):=by rw [HL.o,hE];rfl
    have CG:=η hE;have lV:=η hO;clear hE hO;obtain⟨wo,rfl⟩:∃wo:aJ,wo=wr:=⟨_,rfl⟩;have HHo:=η (Io.o.below HB.o);have a8a:Hid (wo.heap[w.heap.size]? =aC (aK #[aG aF cy] 3 (0,0))):=(HB.o.block _ (by omega)).trans dN.o;have HWo:Hid (aa w.heap.size w wo):=gB.o.trans (HB.o.mono (by omega));go_wp2_with fail
    go_loopw [9,45] (λ_ i wr=>∃k:Nat,k<=aA bD/\i=aG aF k/\Hid (∃v',fX wr bs base v' (L++(bD.take k).map (ft cy))/\From w (aH A0 (aA L) k0) v')/\Hid (Only bs (aH A0 (aA L) k0) w wr)/\Hid (wr.heap[w.heap.size]? =aC (aK #[aG aF cy] 3 (0,0)))) (λ_ i _=>aA bD-(ag i).toNat)
    case atStart=>exact⟨0,bL _,rfl,⟨aH A0 (aA L) k0,by simpa using HHo.o,λj hj=>aS hj⟩,Only.bV HWo.o,a8a.o⟩
    case round=>
     obtain⟨k,hk,rfl,HSh,L4,Ie⟩:=hrel;obtain⟨v1,rT,DI⟩:=HSh.o;have wE:=η DI;clear DI;by_cases eC:k<aA bD
     ·have a3J:=HS.o.only (λhx=>HA.o λe=>hx (by rw [e];rfl)) L4.o;have aMR:=L4.o.size;have hlen:aA (L++(bD.take k).map (ft cy))=aA L+k:=by simp;omega
      have Ir:=η hlen;obtain⟨b,o,rfl,hb,n0,n1,n2⟩:=oG a3J eC;have a3Y:wr.cell? ⟨w.heap.size,0,aB⟩=aC (aG aF cy):=ρ Ie.o;have a3a:w.heap.size<wr.heap.size:=(fY.1 Ie.o).1;have s0:=rT.c0;have sf:=rT.f0;have Ra:=rT.lt;have Q1:bs≠w.heap.size:=by omega
      have xw:=η rT;have Iw:=η (aHK (ft cy) eC);have aLy:b≠bs:=(HA.o (λe=>by rw [e] at eC;simp at eC) _ rfl).1;have hbr:bs≠wr.heap.size:=by omega
      have aM1:wr.heap.size≠bs:=by omega
      have aM2:w.heap.size≠bs:=by omega
      have Q8:∀o,(wr.alloc o).frozen? ⟨bs,0,aB⟩=aP:=λo=>(Lf (w:=wr) (fG _ _ Ra)).trans sf
      have Gz:∀o o',((wr.alloc o).alloc o').frozen? ⟨bs,0,aB⟩=aP:=λo o'=>(Lf (w:=wr) ((fG _ _ (by simp;omega)).trans (fG _ _ Ra))).trans sf
      clear rT a3J hlen;go_wp2_with fail
      refine wp_region_held_drew (S:=(λw'=>w'.cell? ⟨w.heap.size,0,aB⟩=aC (aG aF cy)/\w'.cell? ⟨wr.heap.size,0,aB⟩=aC (aG aF bD[k].m)/\w'.cell? ⟨wr.heap.size,1,aB⟩=aC (aG aF bD[k].a)/\w'.cell? ⟨wr.heap.size,2,aB⟩=aC (aG aF bD[k].n))) (by kernel_rfl) (by go_keep) (λhHeld=> ?_);refine jk (i:=0) (v:=bH (aC ⟨bs,0,aB⟩)) rfl (by kernel_rfl) (by kernel_rfl) (by kernel_rfl) (λ_ _ _ h=>h) (aS ⟨by rfl,λw' hSw=>by dsimp only at hSw;go_simp⟩) hHeld ?_;refine jk (i:=1) (v:=bH (aC ⟨bs,0,aB⟩)) rfl (by kernel_rfl) (by kernel_rfl) (by kernel_rfl) (λ_ _ _ h=>h) (aS ⟨by rfl,λw' hSw=>by dsimp only at hSw;go_simp⟩) hHeld ?_;refine jk (i:=2) (v:=bH (aC ⟨bs,0,aB⟩)) rfl (by kernel_rfl) (by kernel_rfl) (by kernel_rfl) (λ_ _ _ h=>h) (aS ⟨by rfl,λw' hSw=>by dsimp only at hSw;go_simp⟩) hHeld ?_;refine jk (i:=3) (v:=bH (aC ⟨bs,0,aB⟩)) rfl (by kernel_rfl) (by kernel_rfl) (by kernel_rfl) (λ_ _ _ h=>h) (aS ⟨by rfl,λw' hSw=>by dsimp only at hSw;go_simp⟩) hHeld ?_;refine jk (i:=5) (v:=aG aF cy) rfl (by kernel_rfl) (by kernel_rfl) (by kernel_rfl) (λ_ _ _ h=>h) (aS ⟨by rfl,λw' hSw=>by dsimp only at hSw;go_simp⟩) hHeld ?_;refine jk (i:=6) (v:=bH (aC ⟨wr.heap.size,0,aB⟩)) rfl (by kernel_rfl) (by kernel_rfl) (by kernel_rfl) (λ_ _ _ h=>h) (aS ⟨by rfl,λw' hSw=>by dsimp only at hSw;go_simp⟩) hHeld ?_;refine jk (i:=7) (v:=aG aF bD[k].m) rfl (by kernel_rfl) (by kernel_rfl) (by kernel_rfl) (λ_ _ _ h=>h) (aS ⟨by rfl,λw' hSw=>by dsimp only at hSw;go_simp⟩) hHeld ?_;refine jk (i:=8) (v:=bH (aC ⟨wr.heap.size,1,aB⟩)) rfl (by kernel_rfl) (by kernel_rfl) (by kernel_rfl) (λ_ _ _ h=>h) (aS ⟨by rfl,λw' hSw=>by dsimp only at hSw;go_simp⟩) hHeld ?_;refine jk (i:=9) (v:=aG aF bD[k].a) rfl (by kernel_rfl) (by kernel_rfl) (by kernel_rfl) (λ_ _ _ h=>h) (aS ⟨by rfl,λw' hSw=>by dsimp only at hSw;go_simp⟩) hHeld ?_;refine jk (i:=10) (v:=bH (aC ⟨wr.heap.size,2,aB⟩)) rfl (by kernel_rfl) (by kernel_rfl) (by kernel_rfl) (λ_ _ _ h=>h) (aS ⟨by rfl,λw' hSw=>by dsimp only at hSw;go_simp⟩) hHeld ?_;refine jk (i:=11) (v:=aG aF bD[k].n) rfl (by kernel_rfl) (by kernel_rfl) (by kernel_rfl) (λ_ _ _ h=>h) (aS ⟨by rfl,λw' hSw=>by dsimp only at hSw;go_simp⟩) hHeld ?_;refine jk (i:=12) (v:=bO #[aG aF cy,aG aF bD[k].m,aG aF bD[k].a,aG aF bD[k].n,aG aF 0,aG aF 1]) rfl (by kernel_rfl) (by kernel_rfl) (by kernel_rfl) (λ_ _ _ h=>h) (aS ⟨by rfl,λw' hSw=>by dsimp only at hSw;go_simp⟩) hHeld ?_;refine pK (rs:= [4,13]) (by kernel_rfl) (by simp) ?_;refine mU rfl (λK hK=> ?_) (mU rfl (λK hK=> ?_) oM)
      ·go_simp
       refine hK.o _ _ hHeld (λhHeld=> ?_);clear hK K;refine pK (rs:= [13]) (by kernel_rfl) (by simp) ?_;refine mU rfl (λK hK=> ?_) oM;go_simp
       refine hK.o _ _ (by go_keep) (λhHeld=> ?_);clear hK K;refine pK (rs:= [14]) (by kernel_rfl) (by simp) ?_;refine mU rfl (λK hK=> ?_) oM;refine AL _ rfl (.tmp 53) (.tmp 62) 56 rfl base 59 i0 _ 6 48 GJ bj hz0 fh hz2 rfl (by decide) v1 _ _ rfl ((xw.o.own.alloc _).alloc _) ⟨wr.heap.size+1,0,aB⟩ 1 1 (ft cy bD[k]).cells rfl rfl (dM _ _ #[_,_,_,_,_,_] (by simp)) (by intro u hu;simp [Ob.cells] at hu;rcases hu with rfl|rfl|rfl|rfl|rfl|rfl<;>rfl) (by decide) (by rw [Ir.o];simp only [bK];omega) (by rw [Ir.o];omega) (by simp;omega) (wr.heap.size+1+1) (by simp) ?_;intro g cap w3 mJ gK Eb _;have b3:=(MA gK Ra (λe=>xw.o.ne e.symm)).trans xw.o.s;have q3:=a3G gK (λe=>by have:=(xw.o.own.lt _ e.symm).2;omega);have r3:=(MA gK a3a (λe=>gM xw.o.own Ie.o (by decide) e.symm)).trans Ie.o;have s3:w3.cell? ⟨bs,0,aB⟩=aC v1:=ρ b3;have f3:w3.frozen? ⟨bs,0,aB⟩=aP:=by simp [iU,b3]
       have x3:w3.cell? ⟨w.heap.size,0,aB⟩=aC (aG aF cy):=ρ r3;have m3:w3.cell? ⟨wr.heap.size,0,aB⟩=aC (aG aF bD[k].m):=ρ q3;have a3:w3.cell? ⟨wr.heap.size,1,aB⟩=aC (aG aF bD[k].a):=ρ q3;have n3:w3.cell? ⟨wr.heap.size,2,aB⟩=aC (aG aF bD[k].n):=ρ q3;have cB:=η mJ;have tY:=η gK;have lC:=η Eb;have af:=η b3;have TH:=η r3;clear mJ gK Eb b3 q3 r3;refine hK.o _ _ ⟨x3,m3,a3,n3⟩ (λhHeld=> ?_);clear hK K;refine jk (i:=15) (v:=bH (aC ⟨bs,0,aB⟩)) rfl (by kernel_rfl) (by kernel_rfl) (by kernel_rfl) (λ_ _ _ h=>h) (aS ⟨by rfl,λw' hSw=>by dsimp only at hSw;go_simp⟩) hHeld ?_;refine jk (i:=16) (v:=bH (aC ⟨bs,0,aB⟩)) rfl (by kernel_rfl) (by kernel_rfl) (by kernel_rfl) (λ_ _ _ h=>h) (aS ⟨by rfl,λw' hSw=>by dsimp only at hSw;go_simp⟩) hHeld ?_;refine pK (rs:= [17]) (by kernel_rfl) (by simp) ?_;refine mU rfl (λK hK=> ?_) oM;go_simp
       refine hK.o _ _ ⟨(GL _ _ _ _ (λe=>Q1 (congrArg FL e))).trans x3,(GL _ _ _ _ (λe=>hbr (congrArg FL e))).trans m3,(GL _ _ _ _ (λe=>hbr (congrArg FL e))).trans a3,(GL _ _ _ _ (λe=>hbr (congrArg FL e))).trans n3⟩ (λhHeld=> ?_);clear hK K hHeld;refine Nf (by kernel_rfl) ?_ _;have Hn:=a5Y L4.o af.o TH.o cB.o tY.o wE.o lC.o Iw.o Q1;rw [Ir.o] at Hn;have Fe:=η Hn;clear Hn;clear s3 f3 x3 m3 a3 n3 s0 sf Q8 Gz a3Y n0 n1 n2;go_wp2_with fail
       go_roundw
       case rel=>exact⟨k+1,by omega,by go_num,Fe.o.1,Fe.o.2.1,Fe.o.2.2⟩
       case measure=>simp [ag];omega
      go_simp
      refine hK.o _ _ (by go_keep) (λhHeld=> ?_);clear hK K;refine pK (rs:= [4]) (by kernel_rfl) (by simp) ?_;refine mU rfl (λK hK=> ?_) oM;go_simp
      refine hK.o _ _ hHeld (λhHeld=> ?_);clear hK K;refine pK (rs:= [14]) (by kernel_rfl) (by simp) ?_;refine mU rfl (λK hK=> ?_) oM;refine AL _ rfl (.tmp 53) (.tmp 62) 56 rfl base 59 i0 _ 6 48 GJ bj hz0 fh hz2 rfl (by decide) v1 _ _ rfl ((xw.o.own.alloc _).alloc _) ⟨wr.heap.size+1,0,aB⟩ 1 1 (ft cy bD[k]).cells rfl rfl (dM _ _ #[_,_,_,_,_,_] (by simp)) (by intro u hu;simp [Ob.cells] at hu;rcases hu with rfl|rfl|rfl|rfl|rfl|rfl<;>rfl) (by decide) (by rw [Ir.o];simp only [bK];omega) (by rw [Ir.o];omega) (by simp;omega) (wr.heap.size+1+1) (by simp) ?_;intro g cap w3 mJ gK Eb _;have b3:=(MA gK Ra (λe=>xw.o.ne e.symm)).trans xw.o.s;have q3:=a3G gK (λe=>by have:=(xw.o.own.lt _ e.symm).2;omega);have r3:=(MA gK a3a (λe=>gM xw.o.own Ie.o (by decide) e.symm)).trans Ie.o;have s3:w3.cell? ⟨bs,0,aB⟩=aC v1:=ρ b3;have f3:w3.frozen? ⟨bs,0,aB⟩=aP:=by simp [iU,b3]
      have x3:w3.cell? ⟨w.heap.size,0,aB⟩=aC (aG aF cy):=ρ r3;have m3:w3.cell? ⟨wr.heap.size,0,aB⟩=aC (aG aF bD[k].m):=ρ q3;have a3:w3.cell? ⟨wr.heap.size,1,aB⟩=aC (aG aF bD[k].a):=ρ q3;have n3:w3.cell? ⟨wr.heap.size,2,aB⟩=aC (aG aF bD[k].n):=ρ q3;have cB:=η mJ;have tY:=η gK;have lC:=η Eb;have af:=η b3;have TH:=η r3;clear mJ gK Eb b3 q3 r3;refine hK.o _ _ ⟨x3,m3,a3,n3⟩ (λhHeld=> ?_);clear hK K;refine jk (i:=15) (v:=bH (aC ⟨bs,0,aB⟩)) rfl (by kernel_rfl) (by kernel_rfl) (by kernel_rfl) (λ_ _ _ h=>h) (aS ⟨by rfl,λw' hSw=>by dsimp only at hSw;go_simp⟩) hHeld ?_;refine jk (i:=16) (v:=bH (aC ⟨bs,0,aB⟩)) rfl (by kernel_rfl) (by kernel_rfl) (by kernel_rfl) (λ_ _ _ h=>h) (aS ⟨by rfl,λw' hSw=>by dsimp only at hSw;go_simp⟩) hHeld ?_;refine pK (rs:= [17]) (by kernel_rfl) (by simp) ?_;refine mU rfl (λK hK=> ?_) oM;go_simp
      refine hK.o _ _ ⟨(GL _ _ _ _ (λe=>Q1 (congrArg FL e))).trans x3,(GL _ _ _ _ (λe=>hbr (congrArg FL e))).trans m3,(GL _ _ _ _ (λe=>hbr (congrArg FL e))).trans a3,(GL _ _ _ _ (λe=>hbr (congrArg FL e))).trans n3⟩ (λhHeld=> ?_);clear hK K hHeld;refine Nf (by kernel_rfl) ?_ _;have Hn:=a5Y L4.o af.o TH.o cB.o tY.o wE.o lC.o Iw.o Q1;rw [Ir.o] at Hn;have Fe:=η Hn;clear Hn;clear s3 f3 x3 m3 a3 n3 s0 sf Q8 Gz a3Y n0 n1 n2;go_wp2_with fail
      go_roundw
      case rel=>exact⟨k+1,by omega,by go_num,Fe.o.1,Fe.o.2.1,Fe.o.2.2⟩
      case measure=>simp [ag];omega
     obtain rfl:k=aA bD:=by omega
     have xw:=η rT;clear rT;go_wp2_with fail
     go_ret;refine⟨v1,cY CG.o.symm, ?_,L4.o,wE.o⟩;rw [lV.o];have:=xw.o;rw [cU] at this;exact this
  have hE:rr cy bD L=7:=by rw [HE.o,ifN h6,DB,h7];rfl
  have hO:ng cy bD L=L:=by rw [HL.o,hE];rfl
  have CG:=η hE;have lV:=η hO;have a3I:decide (0<wZ 1 L)=aP:=CF.o.trans DB;have H7:=η h7;clear hE hO DB h7;go_enter U9,UG
  go_wp2_with fail
  refine(X6 L 1 _ bs base _ HH.o hl).mono ?_;rintro e w1 ⟨rfl,hb1⟩;have xh:=η (HH.o.below hb1);have c1:=(HH.o.below hb1).c0;have aR:=η hb1;have hz1:=hb1.size;simp at hz1;clear hb1;go_wp2_with fail
  refine(a3W L A0 k0 _ (λx=>decide (cy<=x.c)) _ (aW.cA xh.o.own) hl ?_).mono ?_
  ·intro x W oC;have hzW:=oC.size;refine a1u x cy _ W ?_ (by omega);rw [oC.cell (p:=⟨w.heap.size,0,aB⟩) (by simp;omega),aR.o.cell (p:=⟨w.heap.size,0,aB⟩) (by simp),cM _ _ _ _ rfl];rfl
  rintro e w2 ⟨rfl,hb2⟩;have aV:=η hb2;clear hb2;rw [H7.o];go_wp2_with fail
  go_ret;exact⟨_,cY CG.o.symm,by rw [lV.o];exact xh.o.below aV.o,Only.bV (mA.o.trans ((aR.o.mono (by simp)).trans (aV.o.mono (by omega)))),qU rfl⟩
 have hE:rr cy bD L=17:=by rw [HE.o,ifN h6,DB];rfl
 have hO:ng cy bD L=L:=by rw [HL.o,hE];rfl
 have CG:=η hE;have lV:=η hO;have a3I:decide (0<wZ 1 L)=aO:=CF.o.trans DB;clear hE hO DB;go_enter U9,UG
 go_wp2_with fail
 refine(X6 L 1 _ bs base _ HH.o hl).mono ?_;rintro e w1 ⟨rfl,hb1⟩;have aR:=η hb1;clear hb1;go_wp2_with fail
 go_ret;exact⟨_,cY CG.o.symm,by rw [lV.o];exact HH.o.below aR.o,Only.bV (mA.o.trans (aR.o.mono (by simp))),qU rfl⟩
theorem aEP(x:Ob)(w:aJ):
 aQ aM 174 #[x.val] w λe w'=>e=aU (bM (decide (0<x.az)))/\β w w':=by
 obtain⟨c,m,a,az,done,st⟩:=x;unfold Ob.val;go_enter func174,ntmps174
 go_wp2
 go_ret;exact⟨rfl,(aX _ _).alloc (aZ _) _⟩
theorem aDK(x:Ob)(w:aJ):
 aQ aM 144 #[x.val] w λe w'=>e=aU (bM (decide (x.az<0)))/\β w w':=by
 obtain⟨c,m,a,az,done,st⟩:=x;unfold Ob.val;go_enter func144,ntmps144
 go_wp2
 go_ret;exact⟨rfl,(aX _ _).alloc (aZ _) _⟩
theorem aIK(L:List Ob)(p:Ob->Bool)(v:aN)(bs base:Nat)(w:aJ)(h:fX w bs base v L)(hl:aA L<=1000000)
 (hp:∀(x:Ob) (W:aJ),aQ aM 174 #[x.val] W λe w'=>e=aU (bM (p x))/\aa W.heap.size W w'):
 aQ aM 143 #[bH (aC ⟨bs,0,aB⟩),.func (.func 174) #[] #[]] w (CC w (L.filter λx=>x.st==1&&p x)):=by
 have HH:=η h;have HP:=η hp;obtain⟨i0,bj,hz0,fh,hz2⟩:=dK KD;go_enter aAA,aAx
 go_wp2_with fail
 refine(N8 L v bs base _ HH.o hl).mono ?_;rintro e w1 ⟨v1,rfl,eR,hb1⟩;obtain⟨A1,c1,rfl⟩:=bJ eR;have HS:=η (aW.cA eR);have aR:=η hb1;have hz1:=hb1.size;go_wp2_with fail
 go_loopw [5,7,11] (λu _ i wr=>∃k:Nat,k<=aA L/\i=aG aF k/\Hid (wr.ownsRow w1.heap.size 59 6 u (aA ((L.take k).filter λx=>x.st==1&&p x)) (fJ ((L.take k).filter λx=>x.st==1&&p x)))/\Hid (aa w1.heap.size w1 wr)) (λ_ _ i _=>aA L-(ag i).toNat)
 case atStart=>exact⟨0,bL _,rfl,⟨by simp [fJ],aS ⟨rfl,rfl⟩⟩,aX _ _⟩
 case round=>
  obtain⟨k,hk,rfl,HO,HB⟩:=hrel;have hsz:=HB.o.size;have gV:=Pb (λx:Ob=>x.st==1&&p x) L k;by_cases hlt:k<aA L
  ·obtain⟨b,o,rfl,hb,d0,d1,d2,d3,d4,d5⟩:=xO (HS.o.below HB.o) hlt;have HF:=η (Pc (λx:Ob=>x.st==1&&p x) hlt);cases h1:(L[k].st==1)
   ·have hF:(L.take (k+1)).filter (λx=>x.st==1&&p x)=(L.take k).filter (λx=>x.st==1&&p x):=by rw [HF.o,h1];simp
    have jd:=HO.o;rw [<-hF] at jd;have cF:=η jd;go_wp2_with fail
    go_roundw
    case rel=>exact⟨k+1,by omega,by go_num,cF.o.alloc _,HB.o.alloc hsz _⟩
    case measure=>simp [ag];omega
   cases h2:p L[k]
   ·have hF:(L.take (k+1)).filter (λx=>x.st==1&&p x)=(L.take k).filter (λx=>x.st==1&&p x):=by rw [HF.o,h1,h2];simp
    have jd:=HO.o;rw [<-hF] at jd;have cF:=η jd;have tu:Hid (∀W:aJ,aQ aM 174 #[L[k].val] W λe w'=>e=aU (bM aP)/\aa W.heap.size W w'):=λW=>by have:=HP.o L[k] W;rw [h2] at this;exact this
    go_wp2_with fail
    refine(tu.o _).mono ?_;rintro e w3 ⟨rfl,hb3⟩;have af:Hid (aa w1.heap.size w1 w3):=(HB.o.alloc hsz _).trans (hb3.mono (by simp;omega));have hg3:wr.grownBy w3 aB:=⟨hb3.os,hb3.tape,hb3.output,by have:=hb3.size;simp at this;omega,λi hi _=>(hb3.block i (by simp;omega)).trans (fG _ _ hi)⟩;have cB:=η (cF.o.kept hg3 (by cases (dx _)<;>simp));go_wp2_with fail
    go_roundw
    case rel=>exact⟨k+1,by omega,by go_num,cB,af⟩
    case measure=>simp [ag];omega
   have hF:(L.take (k+1)).filter (λx=>x.st==1&&p x)=(L.take k).filter (λx=>x.st==1&&p x)++ [L[k]]:=by rw [HF.o,h1,h2];simp
   have jH:=η hF;have tu:Hid (∀W:aJ,aQ aM 174 #[L[k].val] W λe w'=>e=aU (bM aO)/\aa W.heap.size W w'):=λW=>by have:=HP.o L[k] W;rw [h2] at this;exact this
   generalize (L.take k).filter (λx=>x.st==1&&p x)=ys at*;go_wp2_with fail
   refine(tu.o _).mono ?_;rintro e w3 ⟨rfl,hb3⟩;have af:Hid (aa w1.heap.size w1 w3):=(HB.o.alloc hsz _).trans (hb3.mono (by simp;omega));have hz3:=hb3.size;simp at hz3;have hg3:wr.grownBy w3 aB:=⟨hb3.os,hb3.tape,hb3.output,by omega,λi hi _=>(hb3.block i (by simp;omega)).trans (fG _ _ hi)⟩;have cB:=η (HO.o.kept hg3 (by cases (dx _)<;>simp));have hc:=λj=>(hb3.cell (p:=⟨wr.heap.size,j,aB⟩) (by simp)).trans (cM _ _ _ j rfl)
   have e0:=hc 0;have e1:=hc 1;have e2:=hc 2;have e3:=hc 3;have e4:=hc 4;have e5:=hc 5;simp at e0 e1 e2 e3 e4 e5;go_wp2_with (at_builtin;refine iw _ rfl _ _ 56 rfl w1.heap.size 59 i0 _ 6 48 GJ bj hz0 fh hz2 rfl (by decide) _ (aA ys) (fJ ys) rfl (cB.o.alloc _) ⟨w3.heap.size,0,aB⟩ 1 1 L[k].cells rfl rfl ?c1 ?c2 ?c3 ?c4 ?c5 ?_)
   case c1=>exact dM _ _ #[_,_,_,_,_,_] rfl
   case c2=>intro u hu;simp [Ob.cells] at hu;rcases hu with rfl|rfl|rfl|rfl|rfl|rfl<;>rfl
   case c3=>simp only [bK];omega
   case c4=>omega
   case c5=>simp;omega
   intro v' w4 hown1 dE _;have dU:Hid (w4.ownsRow w1.heap.size 59 6 v' (aA ((L.take (k+1)).filter λx=>x.st==1&&p x)) (fJ ((L.take (k+1)).filter λx=>x.st==1&&p x))):=by show jn _ _ _ _ _ _ _;rw [jH.o,N7,cL,uC];exact hown1
   have pP:Hid (aa w1.heap.size w1 w4):=(af.o.alloc (by omega) _).grown dE (by simp;omega) (λj hj=>ei cB.o j hj);go_wp2_with fail
   go_roundw
   case rel=>exact⟨k+1,by omega,by go_num,dU,pP⟩
   case measure=>simp [ag];omega
  obtain rfl:k=aA L:=by omega
  have hO:=HO.o;rw [cU] at hO;have dB:=η hO;go_wp2_with fail
  go_ret;refine⟨_,rfl, ?_,aR.o.trans (HB.o.mono hz1)⟩;exact jT dB.o hz1
theorem aIJ(L:List Ob)(p:Ob->Bool)(v:aN)(bs base:Nat)(w:aJ)(h:fX w bs base v L)(hl:aA L<=1000000)
 (hp:∀(x:Ob) (W:aJ),aQ aM 144 #[x.val] W λe w'=>e=aU (bM (p x))/\aa W.heap.size W w'):
 aQ aM 143 #[bH (aC ⟨bs,0,aB⟩),.func (.func 144) #[] #[]] w (CC w (L.filter λx=>x.st==1&&p x)):=by
 have HH:=η h;have HP:=η hp;obtain⟨i0,bj,hz0,fh,hz2⟩:=dK KD;go_enter aAA,aAx
 go_wp2_with fail
 refine(N8 L v bs base _ HH.o hl).mono ?_;rintro e w1 ⟨v1,rfl,eR,hb1⟩;obtain⟨A1,c1,rfl⟩:=bJ eR;have HS:=η (aW.cA eR);have aR:=η hb1;have hz1:=hb1.size;go_wp2_with fail
 go_loopw [5,7,11] (λu _ i wr=>∃k:Nat,k<=aA L/\i=aG aF k/\Hid (wr.ownsRow w1.heap.size 59 6 u (aA ((L.take k).filter λx=>x.st==1&&p x)) (fJ ((L.take k).filter λx=>x.st==1&&p x)))/\Hid (aa w1.heap.size w1 wr)) (λ_ _ i _=>aA L-(ag i).toNat)
 case atStart=>exact⟨0,bL _,rfl,⟨by simp [fJ],aS ⟨rfl,rfl⟩⟩,aX _ _⟩
 case round=>
  obtain⟨k,hk,rfl,HO,HB⟩:=hrel;have hsz:=HB.o.size;have gV:=Pb (λx:Ob=>x.st==1&&p x) L k;by_cases hlt:k<aA L
  ·obtain⟨b,o,rfl,hb,d0,d1,d2,d3,d4,d5⟩:=xO (HS.o.below HB.o) hlt;have HF:=η (Pc (λx:Ob=>x.st==1&&p x) hlt);cases h1:(L[k].st==1)
   ·have hF:(L.take (k+1)).filter (λx=>x.st==1&&p x)=(L.take k).filter (λx=>x.st==1&&p x):=by rw [HF.o,h1];simp
    have jd:=HO.o;rw [<-hF] at jd;have cF:=η jd;go_wp2_with fail
    go_roundw
    case rel=>exact⟨k+1,by omega,by go_num,cF.o.alloc _,HB.o.alloc hsz _⟩
    case measure=>simp [ag];omega
   cases h2:p L[k]
   ·have hF:(L.take (k+1)).filter (λx=>x.st==1&&p x)=(L.take k).filter (λx=>x.st==1&&p x):=by rw [HF.o,h1,h2];simp
    have jd:=HO.o;rw [<-hF] at jd;have cF:=η jd;have tu:Hid (∀W:aJ,aQ aM 144 #[L[k].val] W λe w'=>e=aU (bM aP)/\aa W.heap.size W w'):=λW=>by have:=HP.o L[k] W;rw [h2] at this;exact this
    go_wp2_with fail
    refine(tu.o _).mono ?_;rintro e w3 ⟨rfl,hb3⟩;have af:Hid (aa w1.heap.size w1 w3):=(HB.o.alloc hsz _).trans (hb3.mono (by simp;omega));have hg3:wr.grownBy w3 aB:=⟨hb3.os,hb3.tape,hb3.output,by have:=hb3.size;simp at this;omega,λi hi _=>(hb3.block i (by simp;omega)).trans (fG _ _ hi)⟩;have cB:=η (cF.o.kept hg3 (by cases (dx _)<;>simp));go_wp2_with fail
    go_roundw
    case rel=>exact⟨k+1,by omega,by go_num,cB,af⟩
    case measure=>simp [ag];omega
   have hF:(L.take (k+1)).filter (λx=>x.st==1&&p x)=(L.take k).filter (λx=>x.st==1&&p x)++ [L[k]]:=by rw [HF.o,h1,h2];simp
   have jH:=η hF;have tu:Hid (∀W:aJ,aQ aM 144 #[L[k].val] W λe w'=>e=aU (bM aO)/\aa W.heap.size W w'):=λW=>by have:=HP.o L[k] W;rw [h2] at this;exact this
   generalize (L.take k).filter (λx=>x.st==1&&p x)=ys at*;go_wp2_with fail
   refine(tu.o _).mono ?_;rintro e w3 ⟨rfl,hb3⟩;have af:Hid (aa w1.heap.size w1 w3):=(HB.o.alloc hsz _).trans (hb3.mono (by simp;omega));have hz3:=hb3.size;simp at hz3;have hg3:wr.grownBy w3 aB:=⟨hb3.os,hb3.tape,hb3.output,by omega,λi hi _=>(hb3.block i (by simp;omega)).trans (fG _ _ hi)⟩;have cB:=η (HO.o.kept hg3 (by cases (dx _)<;>simp));have hc:=λj=>(hb3.cell (p:=⟨wr.heap.size,j,aB⟩) (by simp)).trans (cM _ _ _ j rfl)
   have e0:=hc 0;have e1:=hc 1;have e2:=hc 2;have e3:=hc 3;have e4:=hc 4;have e5:=hc 5;simp at e0 e1 e2 e3 e4 e5;go_wp2_with (at_builtin;refine iw _ rfl _ _ 56 rfl w1.heap.size 59 i0 _ 6 48 GJ bj hz0 fh hz2 rfl (by decide) _ (aA ys) (fJ ys) rfl (cB.o.alloc _) ⟨w3.heap.size,0,aB⟩ 1 1 L[k].cells rfl rfl ?c1 ?c2 ?c3 ?c4 ?c5 ?_)
   case c1=>exact dM _ _ #[_,_,_,_,_,_] rfl
   case c2=>intro u hu;simp [Ob.cells] at hu;rcases hu with rfl|rfl|rfl|rfl|rfl|rfl<;>rfl
   case c3=>simp only [bK];omega
   case c4=>omega
   case c5=>simp;omega
   intro v' w4 hown1 dE _;have dU:Hid (w4.ownsRow w1.heap.size 59 6 v' (aA ((L.take (k+1)).filter λx=>x.st==1&&p x)) (fJ ((L.take (k+1)).filter λx=>x.st==1&&p x))):=by show jn _ _ _ _ _ _ _;rw [jH.o,N7,cL,uC];exact hown1
   have pP:Hid (aa w1.heap.size w1 w4):=(af.o.alloc (by omega) _).grown dE (by simp;omega) (λj hj=>ei cB.o j hj);go_wp2_with fail
   go_roundw
   case rel=>exact⟨k+1,by omega,by go_num,dU,pP⟩
   case measure=>simp [ag];omega
  obtain rfl:k=aA L:=by omega
  have hO:=HO.o;rw [cU] at hO;have dB:=η hO;go_wp2_with fail
  go_ret;refine⟨_,rfl, ?_,aR.o.trans (HB.o.mono hz1)⟩;exact jT dB.o hz1
theorem aHx(L:List Ob)(v:aN)(bs base:Nat)(w:aJ)(h:fX w bs base v L)(hl:aA L<=1000000):
 aQ aM 116 #[bH (aC ⟨bs,0,aB⟩)] w (CC w (L.filter λx=>x.st==1&&(λx=>decide (0<x.az)) x)):=by
 have HC:=η (aIK L (λx=>decide (0<x.az)) v bs base w h hl aEP);go_enter func116,ntmps116
 go_wp2_with fail
 refine HC.o.mono ?_;rintro e w1 ⟨v1,rfl,eR,hb1⟩;have cF:=η eR;have aR:=η hb1;go_wp2_with fail
 go_ret;exact⟨v1,rfl,cF.o,aR.o⟩
theorem aHv(L:List Ob)(v:aN)(bs base:Nat)(w:aJ)(h:fX w bs base v L)(hl:aA L<=1000000):
 aQ aM 73 #[bH (aC ⟨bs,0,aB⟩)] w (CC w (L.filter λx=>x.st==1&&(λx=>decide (x.az<0)) x)):=by
 have HC:=η (aIJ L (λx=>decide (x.az<0)) v bs base w h hl aDK);go_enter func73,ntmps73
 go_wp2_with fail
 refine HC.o.mono ?_;rintro e w1 ⟨v1,rfl,eR,hb1⟩;have cF:=η eR;have aR:=η hb1;go_wp2_with fail
 go_ret;exact⟨v1,rfl,cF.o,aR.o⟩
theorem Cs(b off j:Nat):(⟨b,off,aB⟩:ai).add j=⟨b,off+j,aB⟩:=by grind [Addr.add]
theorem AE {w:aJ} {base:Nat} {e:bX} {size n c:Nat} {A:Option ai} {xs:List aN}(h:w.ownsRow base e size (aH A n c) n xs):A=aB->n=0:=by
 rintro rfl;rcases h.2 with⟨_,h0⟩|⟨g,cap,cur,hv,_⟩
 ·exact h0
 grind
def nC(E:bX)(k n:Nat)(xs:List aN)(w:aJ)(e:di)(w':aJ):Prop:=∃v',e=aU v'/\w'.ownsRow w.heap.size E k v' n xs/\aa w.heap.size w w'
theorem Mz:(aM.info? 2).map (λi=>(i.zero,i.size,i.bytes))=aC (aC (aG aF 0),1,8):=by kernel_rfl
theorem aDa(n:Nat)(xs:List aN)(A:Option ai)(c:Nat)(w:aJ)(hs:aW w w.heap.size A xs)(mq:aA xs=n*1)(hnil:A=aB->n=0)(h1:∀u∈xs,u.oneCell'=aO)(hl:n<=100000):
 aQ aM 158 #[aH A n c] w (nC 2 1 n xs w):=by
 obtain⟨i0,bj,hz0,hz1,hz2⟩:=dK Mz;have hq:=De mD;cases A with
 |none=>
  obtain rfl:=hnil rfl;obtain rfl:xs= []:=nG (by omega);go_enter func158,ntmps158
  go_wp2
  go_ret;exact⟨_,rfl,gC _ _ _ _,aX _ _⟩
 |some p=>
  have HC:Hid (∀j u,xs[j]? =aC u->∀o:Obj,(w.alloc o).cell? (p.add j)=aC u):=η (λj u hu o=>by obtain⟨b,off,e,hb,hc⟩:=hs j u hu;obtain rfl:=od e;rw [Cs];exact(qO _ _ _ hb).trans hc);have HL:=η mq;have H1:=η h1;go_enter func158,ntmps158
  go_wp2_with (at_builtin;refine iw _ rfl _ _ 53 rfl w.heap.size 2 i0 _ 1 8 mD bj hz0 hz1 hz2 rfl (by decide) _ 0 [] rfl ?c0i64 p n c xs rfl HL ?c1i64 H1 ?c3i64 ?c4i64 ?c5i64 ?_)
  case c0i64=>exact Da w _ 1
  case c1i64=>exact λj u hu=>HC j u hu _
  case c3i64=>simp only [bK];omega
  case c4i64=>omega
  case c5i64=>simp
  intro v' w1 hown1 dE _;have cF:=η hown1;have lG:=η dE;go_wp2
  go_ret;refine⟨_,rfl,by simpa using cF.o,σ.grown lG.o (by simp) ?_⟩;grind [dx]
theorem aDU(n:Nat)(xs:List aN)(v:aN)(base:Nat)(w:aJ)(hown:w.ownsRow base 2 1 v n xs)(h1:∀u∈xs,u.oneCell'=aO)(hl:n<=100000):
 aQ aM 158 #[v] w (nC 2 1 n xs w):=by
 obtain⟨A,c,hv⟩:=bJ hown;subst hv;exact aDa n xs A c w (aW.cA hown) hown.1 (AE hown) h1 hl
theorem aGh:(aM.info? 3).map (λi=>(i.zero,i.size,i.bytes))=aC (aC (aG aF 0),1,8):=by kernel_rfl
theorem aDb(n:Nat)(xs:List aN)(A:Option ai)(c:Nat)(w:aJ)(hs:aW w w.heap.size A xs)(mq:aA xs=n*1)(hnil:A=aB->n=0)(h1:∀u∈xs,u.oneCell'=aO)(hl:n<=100000):
 aQ aM 40 #[aH A n c] w (nC 3 1 n xs w):=by
 obtain⟨i0,bj,hz0,hz1,hz2⟩:=dK aGh;have hq:=De yD;cases A with
 |none=>
  obtain rfl:=hnil rfl;obtain rfl:xs= []:=nG (by omega);go_enter func40,aBJ
  go_wp2
  go_ret;exact⟨_,rfl,gC _ _ _ _,aX _ _⟩
 |some p=>
  have HC:Hid (∀j u,xs[j]? =aC u->∀o:Obj,(w.alloc o).cell? (p.add j)=aC u):=η (λj u hu o=>by obtain⟨b,off,e,hb,hc⟩:=hs j u hu;obtain rfl:=od e;rw [Cs];exact(qO _ _ _ hb).trans hc);have HL:=η mq;have H1:=η h1;go_enter func40,aBJ
  go_wp2_with (at_builtin;refine iw _ rfl _ _ 46 rfl w.heap.size 3 i0 _ 1 8 yD bj hz0 hz1 hz2 rfl (by decide) _ 0 [] rfl ?c0int p n c xs rfl HL ?c1int H1 ?c3int ?c4int ?c5int ?_)
  case c0int=>exact Da w _ 1
  case c1int=>exact λj u hu=>HC j u hu _
  case c3int=>simp only [bK];omega
  case c4int=>omega
  case c5int=>simp
  intro v' w1 hown1 dE _;have cF:=η hown1;have lG:=η dE;go_wp2
  go_ret;refine⟨_,rfl,by simpa using cF.o,σ.grown lG.o (by simp) ?_⟩;grind [dx]
theorem aDV(n:Nat)(xs:List aN)(v:aN)(base:Nat)(w:aJ)(hown:w.ownsRow base 3 1 v n xs)(h1:∀u∈xs,u.oneCell'=aO)(hl:n<=100000):
 aQ aM 40 #[v] w (nC 3 1 n xs w):=by
 obtain⟨A,c,hv⟩:=bJ hown;subst hv;exact aDb n xs A c w (aW.cA hown) hown.1 (AE hown) h1 hl
theorem aGf:(aM.info? 45).map (λi=>(i.zero,i.size,i.bytes))=aC (aC (bO #[aG aF 0,aG aF 0,aG aF 0,aG aF 0,aG aF 0]),5,40):=by kernel_rfl
theorem aDY(n:Nat)(xs:List aN)(A:Option ai)(c:Nat)(w:aJ)(hs:aW w w.heap.size A xs)(mq:aA xs=n*5)(hnil:A=aB->n=0)(h1:∀u∈xs,u.oneCell'=aO)(hl:n<=100000):
 aQ aM 34 #[aH A n c] w (nC 45 5 n xs w):=by
 obtain⟨i0,bj,hz0,hz1,hz2⟩:=dK aGf;have hq:=De underlying35;cases A with
 |none=>
  obtain rfl:=hnil rfl;obtain rfl:xs= []:=nG (by omega);go_enter aAW,aBH
  go_wp2
  go_ret;exact⟨_,rfl,gC _ _ _ _,aX _ _⟩
 |some p=>
  have HC:Hid (∀j u,xs[j]? =aC u->∀o:Obj,(w.alloc o).cell? (p.add j)=aC u):=η (λj u hu o=>by obtain⟨b,off,e,hb,hc⟩:=hs j u hu;obtain rfl:=od e;rw [Cs];exact(qO _ _ _ hb).trans hc);have HL:=η mq;have H1:=η h1;go_enter aAW,aBH
  go_wp2_with (at_builtin;refine iw _ rfl _ _ 35 rfl w.heap.size 45 i0 _ 5 40 underlying35 bj hz0 hz1 hz2 rfl (by decide) _ 0 [] rfl ?c0ev p n c xs rfl HL ?c1ev H1 ?c3ev ?c4ev ?c5ev ?_)
  case c0ev=>exact Da w _ 5
  case c1ev=>exact λj u hu=>HC j u hu _
  case c3ev=>simp only [bK];omega
  case c4ev=>omega
  case c5ev=>simp
  intro v' w1 hown1 dE _;have cF:=η hown1;have lG:=η dE;go_wp2
  go_ret;refine⟨_,rfl,by simpa using cF.o,σ.grown lG.o (by simp) ?_⟩;grind [dx]
theorem aDS(n:Nat)(xs:List aN)(v:aN)(base:Nat)(w:aJ)(hown:w.ownsRow base 45 5 v n xs)(h1:∀u∈xs,u.oneCell'=aO)(hl:n<=100000):
 aQ aM 34 #[v] w (nC 45 5 n xs w):=by
 obtain⟨A,c,hv⟩:=bJ hown;subst hv;exact aDY n xs A c w (aW.cA hown) hown.1 (AE hown) h1 hl
theorem Wm:(aM.info? 41).map (λi=>(i.zero,i.size,i.bytes))=aC (aC (bO #[aG aF 0,aG aF 0,aG aF 0,aG aF 0,aG aF 0]),5,40):=by kernel_rfl
theorem aDW(n:Nat)(xs:List aN)(A:Option ai)(c:Nat)(w:aJ)(hs:aW w w.heap.size A xs)(mq:aA xs=n*5)(hnil:A=aB->n=0)(h1:∀u∈xs,u.oneCell'=aO)(hl:n<=100000):
 aQ aM 157 #[aH A n c] w (nC 41 5 n xs w):=by
 obtain⟨i0,bj,hz0,hz1,hz2⟩:=dK Wm;have hq:=De Oy;cases A with
 |none=>
  obtain rfl:=hnil rfl;obtain rfl:xs= []:=nG (by omega);go_enter aAB,aAy
  go_wp2
  go_ret;exact⟨_,rfl,gC _ _ _ _,aX _ _⟩
 |some p=>
  have HC:Hid (∀j u,xs[j]? =aC u->∀o:Obj,(w.alloc o).cell? (p.add j)=aC u):=η (λj u hu o=>by obtain⟨b,off,e,hb,hc⟩:=hs j u hu;obtain rfl:=od e;rw [Cs];exact(qO _ _ _ hb).trans hc);have HL:=η mq;have H1:=η h1;go_enter aAB,aAy
  go_wp2_with (at_builtin;refine iw _ rfl _ _ 132 rfl w.heap.size 41 i0 _ 5 40 Oy bj hz0 hz1 hz2 rfl (by decide) _ 0 [] rfl ?c0bid p n c xs rfl HL ?c1bid H1 ?c3bid ?c4bid ?c5bid ?_)
  case c0bid=>exact Da w _ 5
  case c1bid=>exact λj u hu=>HC j u hu _
  case c3bid=>simp only [bK];omega
  case c4bid=>omega
  case c5bid=>simp
  intro v' w1 hown1 dE _;have cF:=η hown1;have lG:=η dE;go_wp2
  go_ret;refine⟨_,rfl,by simpa using cF.o,σ.grown lG.o (by simp) ?_⟩;grind [dx]
theorem aDR(n:Nat)(xs:List aN)(v:aN)(base:Nat)(w:aJ)(hown:w.ownsRow base 41 5 v n xs)(h1:∀u∈xs,u.oneCell'=aO)(hl:n<=100000):
 aQ aM 157 #[v] w (nC 41 5 n xs w):=by
 obtain⟨A,c,hv⟩:=bJ hown;subst hv;exact aDW n xs A c w (aW.cA hown) hown.1 (AE hown) h1 hl
theorem Wn:(aM.info? 188).map (λi=>(i.zero,i.size,i.bytes))=aC (aC (bO #[aG aF 0,aG aF 0,aG aF 0,aG aF 0,aG aF 0]),5,40):=by kernel_rfl
theorem aDZ(n:Nat)(xs:List aN)(A:Option ai)(c:Nat)(w:aJ)(hs:aW w w.heap.size A xs)(mq:aA xs=n*5)(hnil:A=aB->n=0)(h1:∀u∈xs,u.oneCell'=aO)(hl:n<=100000):
 aQ aM 181 #[aH A n c] w (nC 188 5 n xs w):=by
 obtain⟨i0,bj,hz0,hz1,hz2⟩:=dK Wn;have hq:=De Oz;cases A with
 |none=>
  obtain rfl:=hnil rfl;obtain rfl:xs= []:=nG (by omega);go_enter aAG,aB3
  go_wp2
  go_ret;exact⟨_,rfl,gC _ _ _ _,aX _ _⟩
 |some p=>
  have HC:Hid (∀j u,xs[j]? =aC u->∀o:Obj,(w.alloc o).cell? (p.add j)=aC u):=η (λj u hu o=>by obtain⟨b,off,e,hb,hc⟩:=hs j u hu;obtain rfl:=od e;rw [Cs];exact(qO _ _ _ hb).trans hc);have HL:=η mq;have H1:=η h1;go_enter aAG,aB3
  go_wp2_with (at_builtin;refine iw _ rfl _ _ 185 rfl w.heap.size 188 i0 _ 5 40 Oz bj hz0 hz1 hz2 rfl (by decide) _ 0 [] rfl ?c0hrow p n c xs rfl HL ?c1hrow H1 ?c3hrow ?c4hrow ?c5hrow ?_)
  case c0hrow=>exact Da w _ 5
  case c1hrow=>exact λj u hu=>HC j u hu _
  case c3hrow=>simp only [bK];omega
  case c4hrow=>omega
  case c5hrow=>simp
  intro v' w1 hown1 dE _;have cF:=η hown1;have lG:=η dE;go_wp2
  go_ret;refine⟨_,rfl,by simpa using cF.o,σ.grown lG.o (by simp) ?_⟩;grind [dx]
theorem aDT(n:Nat)(xs:List aN)(v:aN)(base:Nat)(w:aJ)(hown:w.ownsRow base 188 5 v n xs)(h1:∀u∈xs,u.oneCell'=aO)(hl:n<=100000):
 aQ aM 181 #[v] w (nC 188 5 n xs w):=by
 obtain⟨A,c,hv⟩:=bJ hown;subst hv;exact aDZ n xs A c w (aW.cA hown) hown.1 (AE hown) h1 hl
theorem aGi:(aM.info? 67).map (λi=>(i.zero,i.size,i.bytes))=aC (aC (bO #[aG aF 0,aG aF 0]),2,16):=by kernel_rfl
theorem aDc(n:Nat)(xs:List aN)(A:Option ai)(c:Nat)(w:aJ)(hs:aW w w.heap.size A xs)(mq:aA xs=n*2)(hnil:A=aB->n=0)(h1:∀u∈xs,u.oneCell'=aO)(hl:n<=100000):
 aQ aM 81 #[aH A n c] w (nC 67 2 n xs w):=by
 obtain⟨i0,bj,hz0,hz1,hz2⟩:=dK aGi;have hq:=De underlying22;cases A with
 |none=>
  obtain rfl:=hnil rfl;obtain rfl:xs= []:=nG (by omega);go_enter aAe,aBR
  go_wp2
  go_ret;exact⟨_,rfl,gC _ _ _ _,aX _ _⟩
 |some p=>
  have HC:Hid (∀j u,xs[j]? =aC u->∀o:Obj,(w.alloc o).cell? (p.add j)=aC u):=η (λj u hu o=>by obtain⟨b,off,e,hb,hc⟩:=hs j u hu;obtain rfl:=od e;rw [Cs];exact(qO _ _ _ hb).trans hc);have HL:=η mq;have H1:=η h1;go_enter aAe,aBR
  go_wp2_with (at_builtin;refine iw _ rfl _ _ 22 rfl w.heap.size 67 i0 _ 2 16 underlying22 bj hz0 hz1 hz2 rfl (by decide) _ 0 [] rfl ?c0mem p n c xs rfl HL ?c1mem H1 ?c3mem ?c4mem ?c5mem ?_)
  case c0mem=>exact Da w _ 2
  case c1mem=>exact λj u hu=>HC j u hu _
  case c3mem=>simp only [bK];omega
  case c4mem=>omega
  case c5mem=>simp
  intro v' w1 hown1 dE _;have cF:=η hown1;have lG:=η dE;go_wp2
  go_ret;refine⟨_,rfl,by simpa using cF.o,σ.grown lG.o (by simp) ?_⟩;grind [dx]
theorem aGj:(aM.info? 69).map (λi=>(i.zero,i.size,i.bytes))=aC (aC (bO #[aG aF 0,aG aF 0]),2,16):=by kernel_rfl
theorem aDd(n:Nat)(xs:List aN)(A:Option ai)(c:Nat)(w:aJ)(hs:aW w w.heap.size A xs)(mq:aA xs=n*2)(hnil:A=aB->n=0)(h1:∀u∈xs,u.oneCell'=aO)(hl:n<=100000):
 aQ aM 82 #[aH A n c] w (nC 69 2 n xs w):=by
 obtain⟨i0,bj,hz0,hz1,hz2⟩:=dK aGj;have hq:=De underlying23;cases A with
 |none=>
  obtain rfl:=hnil rfl;obtain rfl:xs= []:=nG (by omega);go_enter aAf,aBS
  go_wp2
  go_ret;exact⟨_,rfl,gC _ _ _ _,aX _ _⟩
 |some p=>
  have HC:Hid (∀j u,xs[j]? =aC u->∀o:Obj,(w.alloc o).cell? (p.add j)=aC u):=η (λj u hu o=>by obtain⟨b,off,e,hb,hc⟩:=hs j u hu;obtain rfl:=od e;rw [Cs];exact(qO _ _ _ hb).trans hc);have HL:=η mq;have H1:=η h1;go_enter aAf,aBS
  go_wp2_with (at_builtin;refine iw _ rfl _ _ 23 rfl w.heap.size 69 i0 _ 2 16 underlying23 bj hz0 hz1 hz2 rfl (by decide) _ 0 [] rfl ?c0sec p n c xs rfl HL ?c1sec H1 ?c3sec ?c4sec ?c5sec ?_)
  case c0sec=>exact Da w _ 2
  case c1sec=>exact λj u hu=>HC j u hu _
  case c3sec=>simp only [bK];omega
  case c4sec=>omega
  case c5sec=>simp
  intro v' w1 hown1 dE _;have cF:=η hown1;have lG:=η dE;go_wp2
  go_ret;refine⟨_,rfl,by simpa using cF.o,σ.grown lG.o (by simp) ?_⟩;grind [dx]
theorem aGe:(aM.info? 71).map (λi=>(i.zero,i.size,i.bytes))=aC (aC (bO #[aG aF 0,aG aF 0,aG aF 0,aG aF 0]),4,32):=by kernel_rfl
theorem aDX(n:Nat)(xs:List aN)(A:Option ai)(c:Nat)(w:aJ)(hs:aW w w.heap.size A xs)(mq:aA xs=n*4)(hnil:A=aB->n=0)(h1:∀u∈xs,u.oneCell'=aO)(hl:n<=100000):
 aQ aM 83 #[aH A n c] w (nC 71 4 n xs w):=by
 obtain⟨i0,bj,hz0,hz1,hz2⟩:=dK aGe;have hq:=De underlying24;cases A with
 |none=>
  obtain rfl:=hnil rfl;obtain rfl:xs= []:=nG (by omega);go_enter aAg,aBT
  go_wp2
  go_ret;exact⟨_,rfl,gC _ _ _ _,aX _ _⟩
 |some p=>
  have HC:Hid (∀j u,xs[j]? =aC u->∀o:Obj,(w.alloc o).cell? (p.add j)=aC u):=η (λj u hu o=>by obtain⟨b,off,e,hb,hc⟩:=hs j u hu;obtain rfl:=od e;rw [Cs];exact(qO _ _ _ hb).trans hc);have HL:=η mq;have H1:=η h1;go_enter aAg,aBT
  go_wp2_with (at_builtin;refine iw _ rfl _ _ 24 rfl w.heap.size 71 i0 _ 4 32 underlying24 bj hz0 hz1 hz2 rfl (by decide) _ 0 [] rfl ?c0cyc p n c xs rfl HL ?c1cyc H1 ?c3cyc ?c4cyc ?c5cyc ?_)
  case c0cyc=>exact Da w _ 4
  case c1cyc=>exact λj u hu=>HC j u hu _
  case c3cyc=>simp only [bK];omega
  case c4cyc=>omega
  case c5cyc=>simp
  intro v' w1 hown1 dE _;have cF:=η hown1;have lG:=η dE;go_wp2
  go_ret;refine⟨_,rfl,by simpa using cF.o,σ.grown lG.o (by simp) ?_⟩;grind [dx]
def a9l(M A:Nat)(l:List Int)(po:Int)(w:aJ)(e:di)(w':aJ):Prop:=
 ∃nb v,e=aU (π nb)/\fE w' nb M A v l po/\w.heap.size<=nb/\(∀k,v.ownBlock=aC k->w.heap.size<=k)/\β w w'
theorem aCb(M A:Nat)(v:aN)(l:List Int)(po:Int)(bb:Nat)(w:aJ)(h:fE w bb M A v l po):
 aQ aM 98 #[π bb] w (a9l M A l po w):=by
 have hM:=h.hM;have hA:=h.hA;have mi:=h.len;have hl:aA l<=100000:=by rw [mi];exact cC (yC hA (show 6+3*M<=54 by omega)) (by omega)
 have c0:=h.c0;have c1:=h.c1;have c2:=h.c2;have c3:=h.c3;have aY:Hid (β w (w.alloc (aK #[ν (M:Int),ν (A:Int),v,ν po] 216))):=η σ;have HC:=η (aDU (aA l) _ v 0 _ (h.below aY.o).own (λu hu=>by obtain⟨y,_,rfl⟩:=dV.1 hu;rfl) (by omega));have c2':=(h.below aY.o).c2;have aG8:=η mi;obtain⟨Av,cv,hv⟩:=bJ h.own;subst hv;clear h mi;have b0:(w.alloc (aK #[ν (M:Int),ν (A:Int),aH Av (aA l) cv,ν po] 216)).heap[w.heap.size]? =aC (aK #[ν (M:Int),ν (A:Int),aH Av (aA l) cv,ν po] 216 (0,0)):=cT w _;go_enter func98,ntmps98
 go_wp2_with (go_at_call 158;refine HC.o.mono ?_)
 rintro e w2 ⟨v2,rfl,fN,hb2⟩;have hb:w2.heap[w.heap.size]? =aC (aK #[ν (M:Int),ν (A:Int),aH Av (aA l) cv,ν po] 216 (0,0)):=(hb2.block _ (by simp)).trans b0;have tD:∀k,v2.ownBlock=aC k->w.heap.size+1<=k:=λk hk=>by have:=ei fN k hk;simpa using this
 have aV:Hid (β w w2):=τ aY hb2;have dB:=η fN;have Yd:=η tD;have z2:w2.cell? ⟨w.heap.size,2,aB⟩=aC (aH Av (aA l) cv):=ρ hb;have f2:w2.frozen? ⟨w.heap.size,2,aB⟩=aP:=by grind [iU]
 have HB:=η hb;obtain⟨A2,Gb,hv2⟩:=bJ fN;subst hv2;go_wp2
 go_ret;refine⟨w.heap.size,aH A2 (aA l) Gb,rfl,⟨?_, ?_,aG8.o,hM,hA⟩,aZ _,λk hk=>by have:=Yd.o k hk;omega,aV.o.setCell (p:=⟨w.heap.size,2,aB⟩) (aZ _) _⟩
 ·exact(om HB.o 2 _).trans rfl
 exact jT (jz dB.o (λe=>by have:=Yd.o _ e;simp at this;omega) _) (bL _)
def Dc(M:Nat)(l:List Int)(x:Nat):List Int:=(l.drop (x*(6+3*M))).take (6+3*M)
theorem aCh(M A:Nat)(hM:M<=16)(MB:1<=A)(hA:A<=9)(w:aJ):
 aQ aM 79 #[ν (M:Int),ν (A:Int)] w λe w'=>∃nb v,e=aU (bB #[π nb,ν 0])/\fE w' nb M A v (gN (A*(6+3*M)) 0) 0/\w.heap.size<=nb/\(∀k,v.ownBlock=aC k->w.heap.size<=k)/\β w w':=by
 have CF:=η (λW=>a1b M hM W);obtain⟨u,hu⟩:∃u:Nat,u=6+3*M:=⟨_,rfl⟩;have vS:u<=54:=by omega
 obtain⟨q,hq⟩:∃q:Nat,q=A*u:=⟨_,rfl⟩;have Jv:q<=9*54:=by rw [hq];exact yC hA vS
 have tF:(A:Int)*(u:Int)=(q:Int):=by omega
 have HLEN:Hid ((gN (A*(6+3*M)) (0:Int))=gN q 0):=η (by rw [<-hu,<-hq]);have HQL:Hid (q=A*(6+3*M)):=η (by rw [hq,hu]);rw [<-hu] at CF;rw [HLEN.o];have DO:=Wx q (by omega) w;have hM0:(M:Int)<=16:=by omega
 have hA0:¬(A:Int)<1:=by omega
 have hmap:(gN q (0:Int)).map (aG aF)=gN q (aG aF 0):=List.map_replicate;clear hu hq;go_enter func79,ntmps79
 go_wp2_with (go_at_call 146;refine(CF.o _).mono ?_;rintro e w3 ⟨rfl,rfl⟩)
 go_ret2;have rO:(w.alloc (aK (l9 q (aG aF 0)) 2)).heap[w.heap.size]? =aC (aK (l9 q (aG aF 0)) 2 (0,0)):=cT w _;refine⟨w.heap.size+1,aH (aC ⟨w.heap.size,0,aB⟩) q q,rfl,⟨?_, ?_,by rw [Cb];exact HQL.o,hM,hA⟩,by omega,λk hk=>by grind [dx],σ.alloc (by simp) _⟩
 ·have:=cT (w.alloc (aK (l9 q (aG aF 0)) 2)) (aK #[ν (M:Int),ν (A:Int),aH (aC ⟨w.heap.size,0,aB⟩) q q,ν 0] 216);grind [Cr]
 rw [Cb,hmap];refine⟨by simp,aT ⟨w.heap.size,q,l9 q (aG aF 0),rfl,bL _, ?_,aZ _,by simp only [bK];omega,by simp,by simp⟩⟩;grind [fG]
def Wz:Int:=9223372036854775807
def pG(a b:Int):Int:=if a<=b then 0 else if aL (a-b) then a-b else Wz
theorem Ul(a b:Int)(ha:aL a)(hb:aL b)(w:aJ):aQ aM 86 #[aG aF a,aG aF b] w λe w'=>e=aU (aG aF (pG a b))/\aa w.heap.size w w':=by
 have HS:=η (λW=>Rh a b W ha hb);by_cases hab:a<=b
 ·have e:pG a b=0:=by grind [pG]
  rw [e];go_enter LY,La
  go_wp2_with fail
  go_ret;exact⟨rfl,aX _ _⟩
 by_cases hd:aL (a-b)
 ·have e:pG a b=a-b:=by grind [pG]
  obtain⟨h1,h2⟩:=dy hd;rw [h1,h2] at HS;rw [e];obtain⟨d,hdd⟩:∃d,d=a-b:=⟨_,rfl⟩;rw [<-hdd] at HS ⊢;clear e hd h1 h2 hdd;go_enter LY,La
  go_wp2_with (go_at_call 148;refine(HS.o _).mono ?_;rintro e w1 ⟨rfl,hb1⟩;have HB:=η hb1;clear hb1)
  go_ret;exact⟨rfl,by rw [<-HB.o];exact aX _ _⟩
 have e:pG a b=Wz:=by grind [pG]
 obtain⟨h1,h2⟩:=gh hd;rw [h1,h2] at HS;rw [e];clear e hd h1 h2;go_enter LY,La
 go_wp2_with (go_at_call 148;refine(HS.o _).mono ?_;rintro e w1 ⟨rfl,hb1⟩;have HB:=η hb1;clear hb1)
 go_ret;exact⟨rfl,by rw [<-HB.o];exact aX _ _⟩
theorem wY(w:aJ):aQ aM 61 #[] w λe w'=>e=aU (bO #[aG aF 1,aG aF 0])/\aa w.heap.size w w':=by
 go_enter func61,ntmps61
 go_wp2
 refine bodyPost_ret (by simp [results,results61,go_sem];try rfl) rfl ?_;exact⟨rfl,(aX _ _).alloc (aZ _) _⟩
theorem EM(m:Int)(w:aJ):aQ aM 49 #[aG aF m] w λe w'=>e=aU (bO #[aG aF 7,aG aF m])/\aa w.heap.size w w':=by
 go_enter func49,ntmps49
 go_wp2
 refine bodyPost_ret (by simp [results,results49,go_sem];try rfl) rfl ?_;exact⟨rfl,(aX _ _).alloc (aZ _) _⟩
theorem zQ(m:Int)(w:aJ):aQ aM 47 #[aG aF m] w λe w'=>e=aU (bO #[aG aF 8,aG aF m])/\aa w.heap.size w w':=by
 go_enter func47,ntmps47
 go_wp2
 refine bodyPost_ret (by simp [results,results47,go_sem];try rfl) rfl ?_;exact⟨rfl,(aX _ _).alloc (aZ _) _⟩
def kQ(a:Int):Int:=if a=0 then 288230376151711744 else 274877906944
theorem aDg(a:Int)(w:aJ):aQ aM 106 #[aG aF a] w λe w'=>e=aU (aG aF (kQ a))/\w=w':=by
 by_cases h:a=0
 ·subst h;go_enter aA0,aAn
  go_wp2
  go_ret;exact⟨rfl,rfl⟩
 have e:kQ a=274877906944:=by grind [kQ]
 have hb:(a==0)=aP:=by simpa using h
 rw [e];go_enter aA0,aAn
 go_wp2
 go_ret;exact⟨rfl,rfl⟩
structure Bd where
 s:Int
 m:Int
 c:Int
 q:Int
 p:Int
structure Fi where
 b:Bd
 q:Int
 c:Int
def Bd.cells(x:Bd):List aN:= [aG aF x.s,aG aF x.m,aG aF x.c,aG aF x.q,aG aF x.p]
def Fi.cells(x:Fi):List aN:= [aG aF x.b.s,aG aF x.b.m,aG aF x.b.c,aG aF x.b.q,aG aF x.b.p,aG aF x.q,aG aF x.c]
def ny(l:List Bd):List aN:=l.flatMap Bd.cells
def BM(l:List Fi):List aN:=l.flatMap Fi.cells
theorem a2h {w:aJ} {B:Nat} {A:Option ai} {l:List Fi}(h:aW w B A (BM l)) {k:Nat}(hk:k<aA l):
 ∃b o,A=aC ⟨b,o,aB⟩/\b<B/\w.cell? ⟨b,o+k*7,aB⟩=aC (ν l[k].b.s)/\w.cell? ⟨b,o+k*7+1,aB⟩=aC (ν l[k].b.m)/\w.cell? ⟨b,o+k*7+2,aB⟩=aC (ν l[k].b.c)/\w.cell? ⟨b,o+k*7+3,aB⟩=aC (ν l[k].b.q)/\w.cell? ⟨b,o+k*7+4,aB⟩=aC (ν l[k].b.p)/\w.cell? ⟨b,o+k*7+5,aB⟩=aC (ν l[k].q)/\w.cell? ⟨b,o+k*7+6,aB⟩=aC (ν l[k].c):=by
 obtain⟨b,o,e,hb,hc⟩:=h.run (i:=k*7) (y:=ν l[k].b.s) (t:= [ν l[k].b.m,ν l[k].b.c,ν l[k].b.q,ν l[k].b.p,ν l[k].q,ν l[k].c]) (λj u hu=>tC Fi.cells 7 (λ_=>rfl) l k hk j u hu);exact⟨b,o,e,hb,hc 0 _ rfl,hc 1 _ rfl,hc 2 _ rfl,hc 3 _ rfl,hc 4 _ rfl,hc 5 _ rfl,hc 6 _ rfl⟩
def rI(l:List Fi):Int:=l.foldl (λn x=>fV (n+x.c)) 0
theorem aDx(l:List Fi)(x:Fi):rI (l++ [x])=fV (rI l+x.c):=by simp [rI]
theorem aDy(l:List Fi)(A:Option ai)(c:Nat)(w:aJ)(hs:aW w w.heap.size A (BM l))(hl:aA l<=100000):aQ aM 136 #[aH A (aA l) c] w λe w'=>e=aU (aG aF (rI l))/\aa w.heap.size w w':=by
 have HS:=η hs;have HT:Hid (rI l=rI (l.take (aA l))):=η (by rw [cU]);generalize rI l=R at HT ⊢;go_enter func136,ntmps136
 go_wp2
 go_loopw [3,5,8] (λn _ i wr=>∃k:Nat,k<=aA l/\i=ν (k:Int)/\n=ν (rI (l.take k))/\Hid (β w wr)) (λ_ _ i _=>aA l-(ag i).toNat)
 ·exact⟨0,bL _,rfl,rfl,aX _ _⟩
 ·
  obtain⟨k,hk,rfl,rfl,HB⟩:=hrel;have hsz:=HB.o.size;by_cases hlt:k<aA l
  ·obtain⟨b,o,rfl,hb,e0,e1,e2,e3,e4,e5,e6⟩:=a2h ((HS.o.below HB).mono hsz) hlt;have cG:Hid (rI (l.take (k+1))=fV (rI (l.take k)+l[k].c)):=η (by grind [fF,aDx]);have hkb:(k:Int)<(aA l:Int):=by omega
   generalize l[k]=x at*;generalize rI (l.take k)=n at*;go_wp2
   go_roundw
   ·exact⟨k+1,by omega,by go_num,by rw [cG.o],HB.o.alloc hsz _⟩
   simp [ag];omega
  obtain rfl:k=aA l:=by omega
  go_wp2
  go_ret;exact⟨by rw [HT.o];rfl,HB⟩
section
structure jY(w:aJ)(xb:Nat)(x:ak)(v:aN)(L:List Bd):Prop where
 blk:w.heap[xb]? =aC (aK #[aH x.Am (aA x.ms) x.cm,aH x.As (aA x.ss) x.cs,aH x.Ac (aA x.cy) x.cc,ν x.line,ν x.bu,ν x.lead,ν x.tr,ν x.bY,v] 134 (0,0))
 own:w.ownsRow 0 41 5 v (aA L) (ny L)
section
variable {w w':aJ} {xb:Nat} {x:ak} {v:aN} {L:List Bd}
theorem jY.lt(h:jY w xb x v L):xb<w.heap.size:=(fY.1 h.blk).1
theorem jY.below(h:jY w xb x v L)(hb:aa w.heap.size w w'):jY w' xb x v L:=by have hg:w.grownBy w' aB:=⟨hb.os,hb.tape,hb.output,hb.size,λi hi _=>hb.block i hi⟩;exact⟨(hb.block _ h.lt).trans h.blk,h.own.kept hg (by grind)⟩
theorem jY.c8(h:jY w xb x v L):w.cell? ⟨xb,8,aB⟩=aC v:=bG _ _ _ _ _ (0,0) h.blk
theorem jY.ne(h:jY w xb x v L):v.ownBlock≠aC xb:=by
 rcases h.own.2 with⟨rfl,_⟩|⟨g,cap,cur,rfl,_,hh,_⟩
 ·simp [dx]
 intro e;have e':g=xb:=by grind [dx]
 subst e';rw [h.blk] at hh;grind
end
theorem aCc(L:List Bd):∀u∈ny L,u.oneCell'=aO:=by intro u hu;unfold ny at hu;obtain⟨x,_,hx⟩:=List.mem_flatMap.1 hu;simp [Bd.cells] at hx;rcases hx with rfl|rfl|rfl|rfl|rfl<;>rfl
theorem aLX(x:ak)(v:aN)(L:List Bd)(xb:Nat)(w:aJ)(h:jY w xb x v L)(hl:aA L<=100000):
 aQ aM 193 #[π xb] w (nC 41 5 (aA L) (ny L) w):=by
 have c8:=h.c8;have HC:=η (aDR (aA L) (ny L) v 0 w h.own (aCc L) hl);obtain⟨A,c,hv⟩:=bJ h.own;subst hv;go_enter func193,ntmps193
 go_wp2_with (go_at_call 157;refine HC.o.mono ?_)
 rintro e w2 ⟨v2,rfl,fN,hb2⟩;have HO:=η fN;have HB:=η hb2;go_wp2
 go_ret;exact⟨v2,rfl,HO,HB⟩
theorem aLY(x:ak)(v:aN)(L:List Bd)(xb:Nat)(w:aJ)(h:jY w xb x v L):
 aQ aM 77 #[π xb] w λe w'=>e=aU (ν (aA L:Int))/\w'=w.setCell ⟨xb,8,aB⟩ (aH aB 0 0)/\jY w' xb x (aH aB 0 0) []:=by
 have c8:=h.c8;have f8:w.frozen? ⟨xb,8,aB⟩=aP:=by simp [iU,h.blk]
 have H:=η h;obtain⟨A,c,hv⟩:=bJ h.own;subst hv;go_enter func77,ntmps77
 go_wp2
 go_ret;exact⟨rfl,rfl,(om H.o.blk 8 _).trans rfl,gC _ _ _ _⟩
end
section
structure Hr where
 i:Int
 s:Int
 m:Int
 a:Int
 n:Int
def Hr.cells(x:Hr):List aN:= [aG aF x.i,aG aF x.s,aG aF x.m,aG aF x.a,aG aF x.n]
def tJ(l:List Hr):List aN:=l.flatMap Hr.cells
theorem a3q(L:List Hr):∀u∈tJ L,u.oneCell'=aO:=by intro u hu;unfold tJ at hu;obtain⟨x,_,hx⟩:=List.mem_flatMap.1 hu;simp [Hr.cells] at hx;rcases hx with rfl|rfl|rfl|rfl|rfl<;>rfl
structure jM(w:aJ)(tb:Nat)(room:Int)(v:aN)(L:List Hr):Prop where
 blk:w.heap[tb]? =aC (aK #[ν room,v] 218 (0,0))
 own:w.ownsRow 0 188 5 v (aA L) (tJ L)
section
variable {w w':aJ} {tb:Nat} {room:Int} {v:aN} {L:List Hr}
theorem jM.lt(h:jM w tb room v L):tb<w.heap.size:=(fY.1 h.blk).1
theorem jM.below(h:jM w tb room v L)(hb:aa w.heap.size w w'):jM w' tb room v L:=by have hg:w.grownBy w' aB:=⟨hb.os,hb.tape,hb.output,hb.size,λi hi _=>hb.block i hi⟩;exact⟨(hb.block _ h.lt).trans h.blk,h.own.kept hg (by grind)⟩
theorem jM.c0(h:jM w tb room v L):w.cell? ⟨tb,0,aB⟩=aC (aG aF room):=bG _ _ _ _ _ (0,0) h.blk
theorem jM.c1(h:jM w tb room v L):w.cell? ⟨tb,1,aB⟩=aC v:=bG _ _ _ _ _ (0,0) h.blk
end
theorem aKo(room:Int)(v:aN)(L:List Hr)(tb:Nat)(w:aJ)(h:jM w tb room v L)(hr:0<=room/\room<=1000000000)(hl:aA L<=100000):
 aQ aM 114 #[π tb] w λe w'=>e=aU (ν (room-aA L))/\β w w':=by
 have c0:=h.c0;have c1:=h.c1;obtain⟨A,c,hv⟩:=bJ h.own;subst hv;have hw:fV (room-aA L)=room-aA L:=by unfold fV;omega
 go_enter func114,ntmps114
 go_wp2
 go_quiet (fail)
 go_wp2
 go_ret;exact⟨rfl,below_drewN (aX _ _) nq⟩
theorem a7e(room:Int)(v:aN)(L:List Hr)(tb:Nat)(w:aJ)(h:jM w tb room v L)(hl:aA L<=100000):
 aQ aM 125 #[π tb] w (nC 188 5 (aA L) (tJ L) w):=by
 have c1:=h.c1;have HC:=η (aDT (aA L) (tJ L) v 0 w h.own (a3q L) hl);obtain⟨A,c,hv⟩:=bJ h.own;subst hv;go_enter func125,ntmps125
 go_wp2_with (go_at_call 181;refine HC.o.mono ?_)
 rintro e w2 ⟨v2,rfl,fN,hb2⟩;have HO:=η fN;have HB:=η hb2;go_wp2
 go_ret;exact⟨v2,rfl,HO,HB⟩
def a9n(room:Int)(L:List Hr)(w:aJ)(e:di)(w':aJ):Prop:=
 ∃nb v,e=aU (π nb)/\jM w' nb room v L/\w.heap.size<=nb/\(∀k,v.ownBlock=aC k->w.heap.size<=k)/\β w w'
theorem aKp(room:Int)(w:aJ)(hr:0<=room):
 aQ aM 80 #[ν room] w (a9n room [] w):=by
 have hm:max room 0=room:=by omega
 go_enter func80,ntmps80
 go_wp2
 go_ret;refine⟨w.heap.size,aH aB 0 0,rfl,⟨?_,gC _ _ _ _⟩,aZ _,λk hk=>by grind [dx],(aX _ _).alloc (aZ _) _⟩;rw [cT]
end
def kr(M A:Nat)(q:Int×Int×Int):Option Nat:=plcA M A q.1 q.2.1 q.2.2
def kf(M A:Nat)(l:List Int)(q:Int×Int×Int):Int:=balA M A l q.1 q.2.1 q.2.2
def fA(es:List En)(q:Int×Int×Int):Int:=sumI (gq es q)
structure Ch where
 p:Int
 f:Bool
 b:Int
 n:Int
def Ch.cells(x:Ch):List aN:= [aG aF x.p,bM x.f,aG aF x.b,aG aF x.n]
def BI(l:List Ch):List aN:=l.flatMap Ch.cells
theorem aCv(l:List Ch)(x:Ch):BI (l++ [x])=BI l++x.cells:=by simp [BI]
theorem a1e {w:aJ} {B:Nat} {A:Option ai} {l:List Ch}(h:aW w B A (BI l)) {k:Nat}(hk:k<aA l):
 ∃b o,A=aC ⟨b,o,aB⟩/\b<B/\w.cell? ⟨b,o+k*4,aB⟩=aC (ν l[k].p)/\w.cell? ⟨b,o+k*4+1,aB⟩=aC (bM l[k].f)/\w.cell? ⟨b,o+k*4+2,aB⟩=aC (ν l[k].b)/\w.cell? ⟨b,o+k*4+3,aB⟩=aC (ν l[k].n):=by
 obtain⟨b,o,e,hb,hc⟩:=h.run (i:=k*4) (y:=ν l[k].p) (t:= [bM l[k].f,ν l[k].b,ν l[k].n]) (λj u hu=>tC Ch.cells 4 (λ_=>rfl) l k hk j u hu);exact⟨b,o,e,hb,hc 0 _ rfl,hc 1 _ rfl,hc 2 _ rfl,hc 3 _ rfl⟩
def jo(M A:Nat)(l:List Int)(es:List En)(q:Int×Int×Int):Ch:=⟨((kr M A q).getD 0:Nat),uK q.1,fA es q,kf M A l q+fA es q⟩
def yY(M A:Nat)(l:List Int)(es:List En)(q:Int×Int×Int):Bool:=dL (fA es q) !=0||dL (kf M A l q+fA es q) !=0
def jO(M A:Nat)(l:List Int)(es:List En):Int:=
 if 1024<(aA es) then 6 else if es.any (λx=>(kr M A x.spot).isNone)=aO then 8 else if (dQ 9).any (λi=>sumI (gp es i) !=0)=aO then 17
 else if (cu es).any (yY M A l es)=aO then 2 else 0
def rL(x:Ch):Bool:= !x.f&&decide (x.b<0)&&decide (x.n<0)
def kg(M A:Nat)(l:List Int)(es:List En):List Ch:=(cu es).map (jo M A l es)
def ku(l:List Int)(c:List Ch):List Int:=c.foldl (λl x=>l.set x.p.toNat x.n) l
def jw(M A:Nat)(l:List Int)(es:List En):List Int:=ku l (kg M A l es)
def nM(M A:Nat)(l:List Int)(es:List En):Int:=if jO M A l es≠0 then jO M A l es else if (kg M A l es).any rL=aO then 13 else 0
theorem a5y(l:List Int)(c:List Ch):aA (ku l c)=aA l:=by
 unfold ku;induction c generalizing l with
 |nil=>rfl
 |cons x c ih=>grind
theorem aJB(l:List Int)(c:List Ch)(x:Ch):ku l (c++ [x])=(ku l c).set x.p.toNat x.n:=by simp [ku]
theorem aHo(M A:Nat)(l:List Int)(es:List En):aA (jw M A l es)=aA l:=a5y _ _
def iG(h:List Hr)(k m a:Int):Int:=h.foldl (λn r=>if r.s==k&&r.m==m&&r.a==a then fV (n+r.n) else n) 0
theorem aFu(h:List Hr)(r:Hr)(k m a:Int):iG (h++ [r]) k m a=if r.s==k&&r.m==m&&r.a==a then fV (iG h k m a+r.n) else iG h k m a:=by simp [iG]
def rZ(M A:Nat)(l l':List Int)(h:List Hr)(x:En):Bool:= !uK x.k&&decide (kf M A l' x.spot<kf M A l x.spot)&&decide (kf M A l' x.spot<iG h x.k x.m x.a)
def lR(M A:Nat)(l:List Int)(h:List Hr)(es:List En):Int:=if nM M A l es≠0 then nM M A l es else if es.any (rZ M A l (jw M A l es) h)=aO then 13 else 0
theorem aHt {M:Nat} {k m k' m':Int} {n:Nat}(h:jx M k m=aC n)(h':jx M k' m'=aC n):k=k'/\m=m':=by grind [jx]
theorem XL {M A:Nat} {k m a:Int} {n:Nat}(h:plcA M A k m a=aC n):∃j,jx M k m=aC j/\j<6+3*M/\0<=a/\a<(A:Int)/\n=a.toNat*(6+3*M)+j:=by grind [plcA,jx]
theorem a2J {S a b i j:Nat}(hi:i<S)(hj:j<S)(h:a*S+i=b*S+j):a=b/\i=j:=by
 have h1:(a*S+i) % S=(b*S+j) % S:=by rw [h]
 rw [a9c,a9d,a9c (b*S),a9d,a9g hi,a9g hj] at h1;subst h1;have h2:a*S=b*S:=by omega
 exact⟨Nat.eq_of_mul_eq_mul_right (by omega) h2,rfl⟩
theorem aIw {M A:Nat} {k m a k' m' a':Int} {n:Nat}(h:plcA M A k m a=aC n)(h':plcA M A k' m' a'=aC n):k=k'/\m=m'/\a=a':=by obtain⟨j,h1,h2,h3,h4,h5⟩:=XL h;obtain⟨j',uL,uM,Gq,h4',h5'⟩:=XL h';obtain⟨e1,rfl⟩:=a2J h2 uM (h5.symm.trans h5');grind [aHt]
theorem a5r {M A:Nat} {q q':Int×Int×Int} {n:Nat}(h:kr M A q=aC n)(h':kr M A q'=aC n):q=q':=by obtain⟨k,m,a⟩:=q;obtain⟨k',m',a'⟩:=q';obtain⟨rfl,rfl,rfl⟩:=aIw h h';rfl
theorem KA {es:List En} {q:Int×Int×Int}:q∈cu es↔∃x∈es,x.spot=q:=by
 suffices h:∀n (es:List En),aA es=n->(q∈cu es↔∃x∈es,x.spot=q) from h _ es rfl
 intro n;induction n with
 |zero=>
  grind [cu,ordF]
 |succ n ih=>
  intro es h;rcases OY es with rfl|⟨l,x,rfl⟩
  ·cases h
  rw [OX] at h ⊢;rw [RB,gJ,ih l (by simpa using h)];constructor
  ·grind
  rintro⟨y,hy,e⟩;rcases gJ.1 hy with hy|hy
  ·grind
  obtain rfl:=List.mem_singleton.1 hy;by_cases hx:(gq l y.spot).isEmpty=aO
  ·grind
  left;have mL:gq l y.spot≠ []:=by grind
  obtain⟨u,hu⟩:=List.exists_mem_of_ne_nil _ mL;grind [gq]
theorem a5a(es:List En):(cu es).Nodup:=by
 suffices h:∀n (es:List En),aA es=n->(cu es).Nodup from h _ es rfl
 intro n;induction n with
 |zero=>
  grind [cu,ordF]
 |succ n ih=>
  intro es h;rcases OY es with rfl|⟨l,x,rfl⟩
  ·cases h
  rw [OX] at h ⊢;rw [RB];by_cases hx:(gq l x.spot).isEmpty=aO
  ·rw [ifP hx,List.nodup_append];refine⟨ih l (by simpa using h),by simp, ?_⟩;intro a ha b hb e;obtain rfl:=List.mem_singleton.1 hb;subst e;obtain⟨y,hy,e⟩:=KA.1 ha;have:y.n∈gq l x.spot:=by
    grind [gq]
   grind
  grind
theorem aCq {es:List En} {q:Int×Int×Int}(h:q∉cu es):gq es q= []:=by grind [gq,List.filter_eq_nil_iff,KA]
theorem Xx {es:List En} {q:Int×Int×Int}(h:q∉cu es):fA es q=0:=by unfold fA;rw [aCq h];rfl
theorem aMa(l:List Int)(i j:Nat)(v:Int)(hi:i<aA l):(l.set i v).getD j 0=if i=j then v else l.getD j 0:=by grind
theorem a5x(M A:Nat)(l:List Int)(es:List En)(q':Int×Int×Int)(n':Nat)(hq':kr M A q'=aC n'):∀(qs:List (Int×Int×Int)) (acc:List Int),aA acc=A*(6+3*M)->(∀q∈qs,∃n,kr M A q=aC n)->(ku acc (qs.map (jo M A l es))).getD n' 0=if q'∈qs then kf M A l q'+fA es q' else acc.getD n' 0
 | [],acc,_,_=>by simp [ku]
 |q::qs,acc,hlen,hp=>by
  obtain⟨n,hn⟩:=hp q (by simp);have hlt:n<aA acc:=by rw [hlen];exact NK hn
  have hch:(jo M A l es q).p.toNat=n:=by simp [jo,hn]
  have ih:=a5x M A l es q' n' hq' qs (acc.set n (jo M A l es q).n) (by grind) (λq hq=>hp q (df _ hq));grind [ku,jo,a5r]
structure xU(M A:Nat)(l:List Int)(es:List En):Prop where
 len:aA es<=1024
 NJ:∀x∈es,∃n,kr M A x.spot=aC n
 zero:∀i,i<9->sumI (gp es i)=0
 ovr:∀q∈cu es,aL (fA es q)/\aL (kf M A l q+fA es q)
theorem aDB {M A:Nat} {l:List Int} {es:List En}(h:jO M A l es=0):xU M A l es:=by
 unfold jO at h;split at h
 ·cases h
 rename_i h1;split at h
 ·cases h
 rename_i h2;split at h
 ·cases h
 rename_i h3;split at h
 ·cases h
 rename_i h4;refine⟨by omega, ?_, ?_, ?_⟩
 ·intro x hx;cases hp:kr M A x.spot with
  |some n=>exact⟨n,rfl⟩
  |none=>grind
 ·grind
 grind [yY,dL]
theorem a1g {M A:Nat} {l:List Int} {es:List En}(h:xU M A l es):jO M A l es=0:=by
 unfold jO;rw [ifN (by have:=h.len;omega),ifN,ifN,ifN]
 ·intro ha;obtain⟨q,hq,hb⟩:=kK.1 ha;obtain⟨h1,h2⟩:=h.ovr q hq;unfold yY at hb;rw [(dy h1).2,(dy h2).2] at hb;grind
 ·intro ha;obtain⟨i,hi,hb⟩:=kK.1 ha;rw [h.zero i (nH.1 hi)] at hb;grind
 intro ha;obtain⟨x,hx,hb⟩:=kK.1 ha;obtain⟨n,hn⟩:=h.NJ x hx;rw [hn] at hb;cases hb
theorem xU.spot {M A:Nat} {l:List Int} {es:List En}(h:xU M A l es):∀q∈cu es,∃n,kr M A q=aC n:=by intro q hq;obtain⟨x,hx,rfl⟩:=KA.1 hq;exact h.NJ x hx
theorem aCR {M A:Nat} {l:List Int} {q:Int×Int×Int} {n:Nat}(h:kr M A q=aC n):kf M A l q=l.getD n 0:=by obtain⟨k,m,a⟩:=q;have h':plcA M A k m a=aC n:=h;grind [kf,balA]
theorem KB {M A:Nat} {l:List Int} {es:List En}(hl:aA l=A*(6+3*M))(h:xU M A l es) {q:Int×Int×Int} {n:Nat}(hn:kr M A q=aC n):kf M A (jw M A l es) q=kf M A l q+fA es q:=by have:=a5x M A l es q n hn (cu es) l hl h.spot;grind [aCR,jw,kg,Xx]
theorem a7H:∀(l:List Int) (i:Nat) (v:Int),i<aA l->sumI (l.set i v)=sumI l+(v-l.getD i 0)
 | [],i,_,h=>by simp at h
 |a::l,0,v,_=>by simp [sumI];omega
 |a::l,i+1,v,h=>by have:=a7H l i v (by simpa using h);grind [sumI]
theorem aJe {M A:Nat}(l:List Int)(a j x:Nat)(v:Int)(hl:aA l=A*(6+3*M))(ha:a<A)(hj:j<6+3*M):sumI (Dc M (l.set (a*(6+3*M)+j) v) x)=sumI (Dc M l x)+if a=x then v-l.getD (a*(6+3*M)+j) 0 else 0:=by
 have hlt:(a+1)*(6+3*M)<=A*(6+3*M):=Fz _ ha;rw [Nat.succ_mul] at hlt;unfold Dc;by_cases h:a=x
 ·grind [List.drop_set,List.take_set,a7H]
 rw [ifN h,Int.add_zero];congr 1;apply List.ext_getElem?;intro i;simp only [List.getElem?_take,List.getElem?_drop,List.getElem?_set];by_cases hi:i<6+3*M
 ·rw [ifP hi,ifP hi,ifN];intro e;obtain⟨e1,_⟩:=a2J hj hi e;exact h e1
 grind
def vn(es:List En)(qs:List (Int×Int×Int))(a:Nat):Int:=sumI ((qs.filter λq=>q.2.2==(a:Int)).map (fA es))
theorem Xw(es:List En)(q:Int×Int×Int)(qs:List (Int×Int×Int))(a:Nat):vn es (q::qs) a=(if q.2.2=(a:Int) then fA es q else 0)+vn es qs a:=by
 unfold vn;rw [List.filter_cons];by_cases h:q.2.2=(a:Int)
 ·rw [ifP h,ifP (by simpa using h)];rfl
 grind
theorem a5z(M A:Nat)(l:List Int)(es:List En)(x:Nat):∀(qs:List (Int×Int×Int)) (acc:List Int),aA acc=A*(6+3*M)->qs.Nodup->(∀q∈qs,∃n,kr M A q=aC n/\acc.getD n 0=kf M A l q)->sumI (Dc M (ku acc (qs.map (jo M A l es))) x)=sumI (Dc M acc x)+vn es qs x
 | [],acc,_,_,_=>by grind [ku,vn,sumI]
 |q::qs,acc,hlen,vQ,hp=>by
  obtain⟨n,hn,hv⟩:=hp q (by simp);have hch:(jo M A l es q).p.toNat=n:=by simp [jo,hn]
  have hlt:n<aA acc:=by rw [hlen];exact NK hn
  obtain⟨tI,vR⟩:=a9X.1 vQ;have e:ku acc ((q::qs).map (jo M A l es))=ku (acc.set n (jo M A l es q).n) (qs.map (jo M A l es)):=by grind [ku]
  have ih:=a5z M A l es x qs (acc.set n (jo M A l es q).n) (by grind) vR (λq2 h2=>by grind [a5r]);obtain⟨j,h1,h2,h3,h4,h5⟩:=XL hn;rw [e,ih,Xw];have hr:=aJe acc q.2.2.toNat j x (jo M A l es q).n hlen (by omega) h2;grind [jo]
theorem IJ(l:List En)(x:En)(q:Int×Int×Int):fA (l++ [x]) q=fA l q+if q=x.spot then x.n else 0:=by
 unfold fA;rw [a1Z];by_cases h:q=x.spot
 ·rw [ifP h,ifP h,NY];simp [sumI]
 grind
theorem a7P(l:List En)(x:En)(a:Nat):∀qs:List (Int×Int×Int),qs.Nodup->vn (l++ [x]) qs a=vn l qs a+if x.spot∈qs/\x.a=(a:Int) then x.n else 0
 | [],_=>by simp [vn,sumI]
 |q::qs,vQ=>by
  obtain⟨h1,h2⟩:=a9X.1 vQ;rw [Xw,Xw,a7P l x a qs h2,IJ];by_cases hq:q=x.spot
  ·subst hq;have e:x.spot.2.2=x.a:=rfl;grind
  grind
theorem aKU(es:List En)(a:Nat):vn es (cu es) a=sumI (gp es a):=by
 suffices h:∀n (es:List En),aA es=n->vn es (cu es) a=sumI (gp es a) from h _ es rfl
 intro n;induction n with
 |zero=>
  grind [cu,ordF,vn,gp]
 |succ n ih=>
  intro es h;rcases OY es with rfl|⟨l,x,rfl⟩
  ·cases h
  rw [OX] at h ⊢;rw [a7P _ _ _ _ (a5a _)];have hi:=ih l (by simpa using h);have hs:sumI (gp (l++ [x]) a)=sumI (gp l a)+if x.a=(a:Int) then x.n else 0:=by
   rw [a1W];by_cases hx:x.a=(a:Int)
   ·rw [ifP hx,ifP hx,NY];simp [sumI]
   grind
  have hm:x.spot∈cu (l++ [x]):=KA.2 ⟨x,by simp,rfl⟩;have hq:vn l (cu (l++ [x])) a=vn l (cu l) a:=by
   rw [RB];by_cases hx:(gq l x.spot).isEmpty=aO
   ·rw [ifP hx];unfold vn;rw [List.filter_append,dY,NY,List.filter_cons];grind [fA,sumI]
   grind
  grind
theorem aHp {M A:Nat} {l:List Int} {es:List En}(hl:aA l=A*(6+3*M))(h:xU M A l es) {a:Nat}(ha:a<9):sumI (Dc M (jw M A l es) a)=sumI (Dc M l a):=by have h1:=a5z M A l es a (cu es) l hl (a5a _) (λq hq=>by obtain⟨n,hn⟩:=h.spot q hq;refine⟨n,hn, ?_⟩;obtain⟨k,m,b⟩:=q;have Jq:plcA M A k m b=aC n:=hn;grind [kf,balA]);unfold jw kg;rw [h1,aKU,h.zero a ha,Int.add_zero]
section
open Go.Maps Go.MapKept Go.ChangeMaps
section
variable {κ:Type} [BEq κ]
def getM(q:κ):List (κ×aN)->Option aN
 | []=>aB
 |p::m=>if p.1==q then aC p.2 else getM q m
def eI(q:κ)(v:aN):List (κ×aN)->List (κ×aN)
 | []=> [(q,v)]
 |p::m=>if p.1==q then (q,v)::m else p::eI q v m
def vr(m:List (κ×aN)):Prop:=m.Pairwise λp q=>p.1≠q.1
theorem a6C {q:κ} {v:aN} {x:κ×aN}:∀ {m:List (κ×aN)},x∈eI q v m->x=(q,v)\/x∈m
 | [],h=>by grind [eI]
 |p::m,h=>by
  unfold eI at h;split at h
  ·grind
  rcases fC.1 h with h|h
  ·grind
  exact(a6C h).imp id λh=>df _ h
variable [LawfulBEq κ]
theorem getM_none {q:κ}:∀ {m:List (κ×aN)},(∀p∈m,p.1≠q)->getM q m=aB
 | [],_=>rfl
 |p::m,h=>by unfold getM;rw [ifN (by grind)];exact getM_none λx hx=>h x (df _ hx)
theorem XR {q:κ}(v:aN):∀ {m:List (κ×aN)},(∀p∈m,p.1≠q)->eI q v m=m++ [(q,v)]
 | [],_=>rfl
 |p::m,h=>by unfold eI;rw [ifN (by grind),XR v λx hx=>h x (df _ hx)];rfl
theorem getM_some {q:κ} {v0:aN}:∀ {m:List (κ×aN)} {j:Nat},vr m->m[j]? =aC (q,v0)->getM q m=aC v0
 | [],_,_,h=>by simp at h
 |p::m,0,_,h=>by grind [getM]
 |p::m,j+1,ha,h=>by obtain⟨h1,h2⟩:=kX.1 ha;have hm:=zG (by simpa using h);unfold getM;rw [ifN (by simpa using h1 _ hm)];exact getM_some h2 (by simpa using h)
theorem XS {q:κ} {v0:aN}(v:aN):∀ {m:List (κ×aN)} {j:Nat},vr m->m[j]? =aC (q,v0)->eI q v m=m.set j (q,v)
 | [],_,_,h=>by simp at h
 |p::m,0,_,h=>by grind [eI]
 |p::m,j+1,ha,h=>by obtain⟨h1,h2⟩:=kX.1 ha;have hm:=zG (by simpa using h);unfold eI;rw [ifN (by simpa using h1 _ hm),XS v h2 (by simpa using h)];rfl
theorem vr.put {q:κ} {v:aN}:∀ {m:List (κ×aN)},vr m->vr (eI q v m)
 | [],_=>by simp [eI,vr]
 |p::m,ha=>by
  obtain⟨h1,h2⟩:=kX.1 ha;unfold eI;split
  ·rename_i hc;have e:p.1=q:=by simpa using hc
   exact kX.2 ⟨λx hx=>by grind,h2⟩
  rename_i hc;refine kX.2 ⟨λx hx=> ?_,vr.put h2⟩;rcases a6C hx with rfl|hx
  ·simpa using hc
  exact h1 x hx
theorem a2w(q:κ)(v:aN):∀m:List (κ×aN),getM q (eI q v m)=aC v
 | []=>by simp [eI,getM]
 |p::m=>by
  unfold eI;split
  ·simp [getM]
  rename_i hc;unfold getM;rw [ifN hc,a2w q v m]
theorem a2v {q q':κ}(h:q≠q')(v:aN):∀m:List (κ×aN),getM q' (eI q v m)=getM q' m
 | []=>by simp [eI,getM,h]
 |p::m=>by
  unfold eI;split
  ·grind [getM]
  unfold getM;rw [a2v h v m]
end
section
variable {κ:Type} {P:Program} {k:bX} {enc:κ->aN}
structure eU(P:Program)(k:bX)(enc:κ->aN)(w:aJ)(b:Nat)(m:List (κ×aN)):Prop where
 blk:∃es clock,w.heap[b]? =aC (.map es clock)/\es.toList.map (λe=>(e.key,e.val))=m.map λp=>(enc p.1,p.2)
 apart:vr m
structure CB(P:Program)(k:bX)(enc:κ->aN)(jZ:κ->Prop):Prop where
 keyed:Keyed P k
 key:∀q,jZ q->∃kl,keyOf P k (enc q)=aC kl
 inj:∀q q',enc q=enc q'->q=q'
variable {jZ:κ->Prop} {w w':aJ} {b:Nat} {m:List (κ×aN)}
theorem eU.lt(h:eU P k enc w b m):b<w.heap.size:=by obtain⟨es,clock,hb,_⟩:=h.blk;grind
theorem eU.of_block(h:eU P k enc w b m)(e:w'.heap[b]? =w.heap[b]?):eU P k enc w' b m:=by obtain⟨es,clock,hb,hm⟩:=h.blk;exact⟨⟨es,clock,e.trans hb,hm⟩,h.apart⟩
theorem eU.below {B:Nat}(h:eU P k enc w b m)(hb:b<B)(hB:aa B w w'):eU P k enc w' b m:=h.of_block (hB.block b hb)
theorem eU.alloc(h:eU P k enc w b m)(o:Obj):eU P k enc (w.alloc o) b m:=h.of_block (fG w o h.lt)
theorem eU.drew(h:eU P k enc w b m):eU P k enc w.drew b m:=⟨h.blk,h.apart⟩
theorem eU.grown(h:eU P k enc w b m) {row:Option Nat}(hg:w.grownBy w' row)(hne:aC b≠row):eU P k enc w' b m:=h.of_block (hg.block b h.lt hne)
theorem eU.made(P:Program)(k:bX)(enc:κ->aN)(w:aJ):eU P k enc (w.alloc (.map #[] 0)) w.heap.size []:=⟨⟨#[],0,cT w _,by simp⟩,by simp [vr]⟩
theorem eU.find(K:CB P k enc jZ) {es:Array MapEntry}(hm:es.toList.map (λe=>(e.key,e.val))=m.map λp=>(enc p.1,p.2))(hd:∀p∈m,jZ p.1) {q:κ}(hq:jZ q)(w:aJ):
 ((a9E k (enc q) es.toList).run P w= .ok aB w/\∀p∈m,p.1≠q)\/∃j v0,(a9E k (enc q) es.toList).run P w= .ok (aC (j,v0)) w/\m[j]? =aC (q,v0)/\∃e0,es[j]? =aC e0/\e0.key=enc q/\e0.val=v0:=by
 obtain⟨kl,eC⟩:=K.key q hq;have Vs:∀x∈es.toList,∃kl,keyOf P k x.key=aC kl:=by
  intro x hx;have h1:(x.key,x.val)∈m.map λp=>(enc p.1,p.2):=by grind
  obtain⟨p,hp,e⟩:=dV.1 h1;injection e with e1 e2;obtain⟨kl,h⟩:=K.key p.1 (hd p hp);grind
 rcases K.keyed.find w eC es.toList Vs with⟨h1,h2⟩|⟨j,e0,h1,h2,h3⟩
 ·refine aS ⟨h1,λp hp e=> ?_⟩;have h4:(enc p.1,p.2)∈es.toList.map (λe=>(e.key,e.val)):=by grind
  grind
 refine aT ⟨j,e0.val,h1, ?_,e0,by simpa using h2,h3,rfl⟩;have h4:(es.toList.map (λe=>(e.key,e.val)))[j]? =aC (enc q,e0.val):=by grind
 rw [hm,List.getElem?_map] at h4;cases hj:m[j]? with
 |none=>grind
 |some p=>
  rw [hj] at h4;simp at h4;obtain⟨a1,a2⟩:=h4;have:=K.inj _ _ a1;grind
variable [BEq κ] [LawfulBEq κ]
theorem eU.look(c:Bool)(K:CB P k enc jZ) {t e:bX}(ht:P.underlying t=aC (.map k e)) {z:aN}(hz:(zeroValue e).run P w= .ok z w)(h:eU P k enc w b m)(hd:∀p∈m,jZ p.1) {q:κ}(hq:jZ q):
 (Instr.lookup t (.map (aC b)) (enc q) c).run P w= .ok (if c then .tuple #[(getM q m).getD z,.bool (getM q m).isSome] else (getM q m).getD z) w:=by
 obtain⟨es,clock,hb,hm⟩:=h.blk;obtain⟨kl,eC⟩:=K.key q hq;rcases eU.find K hm hd hq w with⟨h1,h2⟩|⟨j,v0,h1,h2,_⟩
 ·rw [getM_none h2];simp [Instr.lookup,run_underlying ht,B9 hb,K.keyed.check w _ eC,h1,hz,uE]
 rw [getM_some h.apart h2];simp [Instr.lookup,run_underlying ht,B9 hb,K.keyed.check w _ eC,h1,uE]
theorem eU.store(K:CB P k enc jZ) {t e:bX}(ht:P.underlying t=aC (.map k e))(h:eU P k enc w b m)(hd:∀p∈m,jZ p.1) {q:κ}(hq:jZ q)(v:aN):
 ∃w',(EA t (.map (aC b)) (enc q) v).run P w= .ok () w'/\eU P k enc w' b (eI q v m)/\w.grownBy w' (aC b):=by
 obtain⟨es,clock,hb,hm⟩:=h.blk;obtain⟨kl,eC⟩:=K.key q hq;rcases eU.find K hm hd hq w with⟨h1,h2⟩|⟨j,v0,h1,h2,e0,h3,h4,h5⟩
 ·refine⟨setBlock w b (.map (es.push ⟨enc q,v,clock⟩) (clock+1)), ?_,⟨⟨_,_,heap_setBlock_same hb _, ?_⟩,h.apart.put⟩,⟨rfl,rfl,rfl,by simp [setBlock],λi _ hi=>heap_setBlock_other hb _ (λe=>hi (by rw [e]))⟩⟩
  ·simp [EA,run_underlying ht,B9 hb,K.keyed.check w aP eC,h1,Fu _ hb,uE,setBlock]
  grind [XR]
 have uM:es.toList[j]? =aC e0:=by simpa using h3
 refine⟨setBlock w b (.map (es.modify j (λe'=> {e' with key:=enc q,val:=v})) clock), ?_,⟨⟨_,_,heap_setBlock_same hb _, ?_⟩,h.apart.put⟩,⟨rfl,rfl,rfl,by simp [setBlock],λi _ hi=>heap_setBlock_other hb _ (λe=>hi (by rw [e]))⟩⟩
 ·simp [EA,run_underlying ht,B9 hb,K.keyed.check w aP eC,h1,h3,h4,K.keyed.stays w eC,Fu _ hb,uE,setBlock]
 rw [XS v h.apart h2,YH,modify_eq_set _ _ _ _ uM,List.map_set,List.map_set,hm]
end
end
section
open Go.Maps Go.MapKept Go.ChangeMaps
def Bt {κ:Type} [DecidableEq κ](q:κ)(m:List (κ×aN)):aN:=(getM q m).getD (aH aB 0 0)
structure ua {κ:Type}(kt:bX)(enc:κ->aN)(jZ:κ->Prop)(w:aJ)(base b:Nat)(m:List (κ×aN))(f:κ->List Int):Prop where
 map:eU aM kt enc w b m
 yc:∃es clock,w.heap[b]? =aC (.map es clock)/\Stamped es clock
 low:b<base
 rows:∀p∈m,w.ownsRow base 2 1 p.2 (aA (f p.1)) ((f p.1).map (aG aF))
 far:∀p∈m,∀q∈m,p.1≠q.1->p.2.ownBlock=aB\/p.2.ownBlock≠q.2.ownBlock
 off:∀q,(∀p∈m,p.1≠q)->f q= []
 dom:∀p∈m,jZ p.1
section
variable {κ:Type} {kt:bX} {enc:κ->aN} {jZ:κ->Prop} {w w' w1:aJ} {base b:Nat} {m:List (κ×aN)} {f:κ->List Int}
theorem ua.made(w:aJ):ua kt enc jZ (w.alloc (.map #[] 0)) (w.heap.size+1) w.heap.size [] (λ_=> []):=
 ⟨eU.made _ _ _ _,⟨#[],0,cT w _,stamped_empty 0⟩,Nat.lt_succ_self _,by simp,by simp,λ_ _=>rfl,by simp⟩
theorem ua.below {B:Nat}(h:ua kt enc jZ w base b m f)(hB:w.heap.size<=B)(hb:aa B w w'):ua kt enc jZ w' base b m f:=by obtain⟨es,clock,hb',hs⟩:=h.yc;have hlt:=h.map.lt;refine⟨h.map.below (by omega) hb,⟨es,clock,(hb.block b (by omega)).trans hb',hs⟩,h.low,λp hp=>(h.rows p hp).kept ⟨hb.os,hb.tape,hb.output,hb.size,λk hk _=>hb.block k (cR hk hB)⟩ (by cases p.2.ownBlock<;>simp:p.2.ownBlock=aB\/p.2.ownBlock≠aB),h.far,h.off,h.dom⟩
variable [DecidableEq κ]
theorem Qx {q:κ} {v:aN}:∀ {m:List (κ×aN)},getM q m=aC v->(q,v)∈m
 | [],h=>by simp [getM] at h
 |p::m,h=>by
  unfold getM at h;split at h
  ·grind
  exact df _ (Qx h)
theorem a2t {q:κ}:∀ {m:List (κ×aN)},getM q m=aB->∀p∈m,p.1≠q
 | [],_,p,hp=>by simp at hp
 |p::m,h,x,hx=>by
  unfold getM at h;split at h
  ·cases h
  rename_i hc;rcases fC.1 hx with rfl|hx
  ·simpa using hc
  exact a2t h x hx
theorem ua.slot(h:ua kt enc jZ w base b m f)(q:κ):w.ownsRow base 2 1 (Bt q m) (aA (f q)) ((f q).map (aG aF)):=by
 unfold Bt;cases hg:getM q m with
 |none=>rw [h.off q (a2t hg)];exact gC _ _ _ _
 |some v=>exact h.rows _ (Qx hg)
theorem ua.look(K:CB aM kt enc jZ)(h:ua kt enc jZ w base b m f) {q:κ}(hq:jZ q) {t:bX}(ht:aM.underlying t=aC (.map kt 53)):(Instr.lookup t (.map (aC b)) (enc q) aP).run aM w= .ok (Bt q m) w:=
 eU.look (P:=aM) aP K ht (z:= .slice aB 0 0) (by kernel_rfl) h.map h.dom hq
theorem KM {q:κ} {v:aN}(ha:vr m) {x:κ×aN}(hx:x∈eI q v m):x=(q,v)\/(x∈m/\x.1≠q):=by
 induction m with
 |nil=>grind [eI]
 |cons p m ih=>
  obtain⟨h1,h2⟩:=kX.1 ha;unfold eI at hx;split at hx
  ·grind
  rename_i hc;rcases fC.1 hx with hx|hx
  ·grind
  rcases ih h2 hx with h|⟨h,h'⟩
  ·exact aS h
  grind
theorem a6A {q:κ} {v:aN}:∀(m:List (κ×aN)),aA (eI q v m)<=aA m+1
 | []=>by simp [eI]
 |p::m=>by
  unfold eI;split
  ·simp
  have:=a6A (q:=q) (v:=v) m;simp;omega
theorem a6B {q:κ} {v:aN} {x:κ×aN}(hx:x∈m):∃u,(x.1,u)∈eI q v m:=by
 induction m with
 |nil=>simp at hx
 |cons p m ih=>
  grind [eI]
theorem XO {q:κ} {v:aN}:∀(m:List (κ×aN)),(q,v)∈eI q v m
 | []=>by simp [eI]
 |p::m=>by
  unfold eI;split
  ·grind
  exact df _ (XO m)
end
end
section
open Go.ChangeShapes Go.WideShapes Go.ChangeAt Go.Joins Go.Deep
theorem aIb:ownKnob aM.godebug=aB:=by kernel_rfl
theorem Wt:laidOutB aM=aO:=by kernel_rfl
section
variable {H:Type} {enc:bX×aN->H} {P:Program}
theorem a7d(hl:laidOutB P=aO) {W W':aJ}(hb:aa W.heap.size W W'):∀(ts:List bX) {vs:List aN} {ds:List (DataW H)} {ps:List MemPlace},
 (ts.all λt=>P.readableRec t&&decide (t<P.types.size))=aO->YP enc P W 0 (λ_=>aO) aO ts vs ds ps->YP enc P W' 0 (λb=>decide (b<W.heap.size)) aO ts vs ds ps
 | [],vs,ds,ps,_,h=>by obtain⟨rfl,rfl,rfl⟩:=trodAll_nil h;exact trodAll_mk0
 |t::ts,vs,ds,ps,hr,h=>by
  obtain⟨v,vs',d,Ge,p,q,rfl,rfl,rfl,h0,r⟩:=trodAll_cons h;rw [List.all_cons,jX,jX] at hr;have lt0:∀x∈p,x.block<W.heap.size:=by obtain⟨m,hm⟩:=h0;exact DataW.trod_lt m _ _ _ hm
  exact trodAll_cons_mk (Below.trod hl hr.1.1 (of_decide_eq_true hr.1.2) h0 hb lt0) (a7d hl hb ts hr.2 r)
theorem aH1(hl:laidOutB P=aO) {f:Func} {s:ChangeSpec} {W W':aJ} {args:Array aN} {ds gs:List (DataW H)} {before:List MemPlace} {tb:bX}(hr:(f.params.toList.all λt=>P.readableRec t&&decide (t<P.types.size))=aO)
 (Mo:P.underlying tb=aC .bool) (hrt:f.resultTypes= #[tb]) (hv:s.vars= []) (hW:DataW.Whole enc P f.params.toList s.vars aP W args.toList ds gs before)
 (hsp:∀Ge:List (DataW H),aA Ge=aA f.params.toList->s.fn H Ge= {results:= [.lit (.bool aO)],args:=Ge}) (wW:β W W'):
 s.post enc P f aP aO aP aP W args (.bool aO) W':=by
 have EY:=hW;obtain⟨p,q,hA,hV,rfl,_,_⟩:=hW;rw [hv] at hV;obtain⟨rfl,rfl⟩:=trodVars_none hV;have hlen:∀(ts:List bX) (vs:List aN) (ds:List (DataW H)) (ps:List MemPlace),YP enc P W 0 (λ_=>aO) aO ts vs ds ps->aA ds=aA ts:=by
  intro ts;induction ts with
  |nil=>intro vs ds ps h;obtain⟨_,rfl,_⟩:=trodAll_nil h;rfl
  |cons t ts ih=>
   intro vs ds ps h;obtain⟨v,vs',d,Ge,p,q,_,rfl,_,_,r⟩:=trodAll_cons h;simp [ih _ _ _ r]
 have e:=hsp ds (hlen _ _ _ _ hA);refine⟨ds,[],p++ [],[],p,[],EY, ?_, ?_, ?_, ?_,λh=>by cases h⟩
 ·rw [List.append_nil,e,hrt];exact trodAll_mk1 (shut_bool Mo aO)
 ·grind [a7d]
 ·rw [List.append_nil,e,hv];rfl
 exact wW.frame _
end
end
section
open Go.Maps Go.MapKept Go.ChangeMaps
def zX(q:Int×Int×Int):aN:=bO #[aG aF q.1,aG aF q.2.1,aG aF q.2.2]
def FP(q:Int×Int×Int):Prop:=aL q.1/\aL q.2.1/\aL q.2.2
theorem Mx {x:Int}(h:aL x):(Lit.int aF x).wf=aO:=by unfold aL at h;have h1:aF.min= -9223372036854775808:=rfl;have h2:aF.max=9223372036854775807:=rfl;grind [Lit.wf]
theorem aEo(q q':Int×Int×Int)(h:zX q=zX q'):q=q':=by grind [zX]
theorem N4(d:Nat)(n:Int)(hn:(Lit.int aF n).wf=aO):aM.keyLits (d+1) 3 [.int aF n]=aC [.int aF n]:=by unfold Tv;grind [wS]
theorem aGt(q:Int×Int×Int)(hq:FP q):∃kl,keyOf aM 289 (zX q)=aC kl:=by
 have hu:=underlying289;have vS:=underlying51;have h1:aM.keyType 289=aO:=by kernel_rfl
 have w1:=Mx hq.1;have w2:=Mx hq.2.1;have w3:=Mx hq.2.2;have h2:(zX q).formed aM 289=aO:=by kernel_rfl
 have k1:aM.cellsOf 3=1:=by kernel_rfl
 have k2:aM.cellsOf 51=2:=by kernel_rfl
 have k3:aM.cellsOf 289=3:=by kernel_rfl
 have h3:aM.keyLits (aM.types.size+1) 289 (zX q).cells.toList=aC [.int aF q.1,.int aF q.2.1,.int aF q.2.2]:=by
  obtain⟨d,hd⟩:∃d,aM.types.size=d+1+1:=⟨aM.types.size-2,by have:1<aM.types.size:=of_decide_eq_true (by kernel_rfl);omega⟩;rw [hd];have hx:=N4 d q.1 w1;have hy:=N4 d q.2.1 w2;have hz:=N4 (d+1) q.2.2 w3;have hac:aM.keyLits (d+1+1) 51 [.int aF q.1,.int aF q.2.1]=aC [.int aF q.1,.int aF q.2.1]:=by unfold Tv;rw [vS];simp [k1,k2,hx,hy]
  unfold Tv;rw [hu];simp [zX,Value.cells,k1,k2,k3,hac,hz]
 exact⟨_,by unfold keyOf;rw [hu];simp only [h1,h2,Bool.and_self,if_true,h3];rfl⟩
theorem a6w:CB aM 289 zX FP where
 keyed:=a8J (deep_law_laid Wt (m:=3) (by omega) (of_decide_eq_true (by kernel_rfl)) (by kernel_rfl) (by kernel_rfl))
 key:=aGt
 inj:=aEo
def xA(q:Int×Int):aN:=bO #[aG aF q.1,aG aF q.2]
def IY(q:Int×Int):Prop:=aL q.1/\aL q.2
theorem a2c(q q':Int×Int)(h:xA q=xA q'):q=q':=by grind [xA]
theorem aGs(q:Int×Int)(hq:IY q):∃kl,keyOf aM 162 (xA q)=aC kl:=by
 have hu:=underlying162;have h1:aM.keyType 162=aO:=by kernel_rfl
 have w1:=Mx hq.1;have w2:=Mx hq.2;have h2:(xA q).formed aM 162=aO:=by kernel_rfl
 have k1:aM.cellsOf 3=1:=by kernel_rfl
 have k3:aM.cellsOf 162=2:=by kernel_rfl
 have h3:aM.keyLits (aM.types.size+1) 162 (xA q).cells.toList=aC [.int aF q.1,.int aF q.2]:=by obtain⟨d,hd⟩:∃d,aM.types.size=d+1:=⟨aM.types.size-1,by have:1<aM.types.size:=of_decide_eq_true (by kernel_rfl);omega⟩;rw [hd];have hx:=N4 d q.1 w1;have hy:=N4 d q.2 w2;unfold Tv;rw [hu];simp [xA,Value.cells,k1,k3,hx,hy]
 exact⟨_,by unfold keyOf;rw [hu];simp only [h1,h2,Bool.and_self,if_true,h3];rfl⟩
theorem a6Y:CB aM 162 xA IY where
 keyed:=a8J (deep_law_laid Wt (m:=2) (by omega) (of_decide_eq_true (by kernel_rfl)) (by kernel_rfl) (by kernel_rfl))
 key:=aGs
 inj:=a2c
end
section
open Go.Maps Go.MapKept Go.ChangeMaps
def U2(w:aJ)(b:Nat):Prop:=∃es clock,w.heap[b]? =aC (.map es clock)/\Stamped es clock
section
variable {κ:Type} [BEq κ] [LawfulBEq κ] {P:Program} {k:bX} {enc:κ->aN} {jZ:κ->Prop} {w:aJ} {b:Nat} {m:List (κ×aN)}
theorem eU.entry(K:CB P k enc jZ) {t e:bX}(ht:P.underlying t=aC (.map k e)) {z:aN}(hz:∀u:aJ,(zeroValue e).run P u= .ok z u)(h:eU P k enc w b m)(hs:U2 w b)(hd:∀p∈m,jZ p.1) {q:κ}(hq:jZ q):
 ∃(st:Nat) (w1:aJ),(Fp t (.map (aC b)) (enc q)).run P w= .ok (.tuple #[(getM q m).getD z,goInt st]) w1/\w.grownBy w1 (aC b)/\w1.heap.size=w.heap.size/\
  ∀(w2:aJ) (val:aN),w2.heap[b]? =w1.heap[b]?->∃w3,(OS t (.map (aC b)) (goInt st) val).run P w2= .ok () w3/\eU P k enc w3 b (eI q val m)/\U2 w3 b/\w2.grownBy w3 (aC b):=by
 obtain⟨es,clock,hb,hm⟩:=h.blk;obtain⟨Gi,Ga,hb0,hst⟩:=hs;obtain⟨rfl,rfl⟩:es=Gi/\clock=Ga:=by grind
 obtain⟨kl,eC⟩:=K.key q hq;rcases eU.find K hm hd hq w with⟨h1,h2⟩|⟨j,v0,h1,h2,e0,h3,h4,h5⟩
 ·have hnk:∀x∈es.toList,x.key≠enc q:=by
   intro x hx e;have h6:(x.key,x.val)∈m.map λp=>(enc p.1,p.2):=by grind
   obtain⟨p,hp,e'⟩:=dV.1 h6;injection e' with e1 e2;exact h2 p hp (K.inj _ _ (e1.trans e))
  have QZ:Stamped (es.push ⟨enc q,z,clock⟩) (clock+1):=stamped_push hst hnk;refine⟨clock,setBlock w b (.map (es.push ⟨enc q,z,clock⟩) (clock+1)), ?_,⟨rfl,rfl,rfl,by simp [setBlock],λi _ hi=>heap_setBlock_other hb _ (λe=>hi (by rw [e]))⟩,by simp [setBlock], ?_⟩
  ·rw [getM_none h2];simp [Fp,run_underlying ht,B9 hb,K.keyed.check w aP eC,h1,hz,Fu _ hb,uE,setBlock]
  intro w2 val hw2;rw [heap_setBlock_same hb] at hw2;have Vn:(es.push ⟨enc q,z,clock⟩).findIdx? (λe=>(e.born:Int)==(clock:Int))=aC es.size:=by
   rw [a8L];have hl:(es.push (⟨enc q,z,clock⟩:MapEntry)).toList[es.size]? =aC ⟨enc q,z,clock⟩:=by simp
   exact a8M QZ.2.1 hl
  have aGF:(es.push (⟨enc q,z,clock⟩:MapEntry)).modify es.size (λe=> {e with val})=es.push ⟨enc q,val,clock⟩:=by grind
  refine⟨setBlock w2 b (.map (es.push ⟨enc q,val,clock⟩) (clock+1)), ?_,⟨⟨_,_,heap_setBlock_same hw2 _, ?_⟩,h.apart.put⟩,⟨_,_,heap_setBlock_same hw2 _,stamped_push hst hnk⟩,⟨rfl,rfl,rfl,by simp [setBlock],λi _ hi=>heap_setBlock_other hw2 _ (λe=>hi (by rw [e]))⟩⟩
  ·simp only [OS,a9w,B9 hw2,uE];simp [asInt,goInt,asIntOf,Vn,aGF,Fu _ hw2,setBlock]
  grind [XR]
 have uM:es.toList[j]? =aC e0:=by simpa using h3
 have hkey:∀e',es[j]? =aC e'->({e' with key:=enc q}:MapEntry).key=e'.key:=λe' MR=>by grind
 have QZ:Stamped (es.modify j (λe'=> {e' with key:=enc q})) clock:=stamped_modify hst j (λe'=> {e' with key:=enc q}) (λ_ _=>rfl) (λe' _ MR=>hkey e' MR);refine⟨e0.born,setBlock w b (.map (es.modify j (λe'=> {e' with key:=enc q})) clock), ?_,⟨rfl,rfl,rfl,by simp [setBlock],λi _ hi=>heap_setBlock_other hb _ (λe=>hi (by rw [e]))⟩,by simp [setBlock], ?_⟩
 ·rw [getM_some h.apart h2];simp [Fp,run_underlying ht,B9 hb,K.keyed.check w aP eC,h1,h3,h4,K.keyed.stays w eC,Fu _ hb,uE,setBlock]
 intro w2 val hw2;rw [heap_setBlock_same hb] at hw2;have h1e:(es.modify j (λe'=> {e' with key:=enc q})).toList[j]? =aC {e0 with key:=enc q}:=by grind
 have Vn:(es.modify j (λe'=> {e' with key:=enc q})).findIdx? (λe=>(e.born:Int)==(e0.born:Int))=aC j:=by rw [a8L];exact a8M (e0:= {e0 with key:=enc q}) QZ.2.1 h1e
 have a3t:Stamped ((es.modify j (λe'=> {e' with key:=enc q})).modify j (λe=> {e with val})) clock:=stamped_modify QZ j (λe=> {e with val}) (λ_ _=>rfl) (λ_ _ _=>rfl);refine⟨setBlock w2 b (.map ((es.modify j (λe'=> {e' with key:=enc q})).modify j (λe=> {e with val})) clock), ?_,⟨⟨_,_,heap_setBlock_same hw2 _, ?_⟩,h.apart.put⟩,⟨_,_,heap_setBlock_same hw2 _,a3t⟩,⟨rfl,rfl,rfl,by simp [setBlock],λi _ hi=>heap_setBlock_other hw2 _ (λe=>hi (by rw [e]))⟩⟩
 ·simp only [OS,a9w,B9 hw2,uE];simp [asInt,goInt,asIntOf,Vn,Fu _ hw2,setBlock]
 rw [XS val h.apart h2,YH,modify_eq_set _ _ _ _ h1e,YH,modify_eq_set _ _ _ _ uM,List.set_set,List.map_set,List.map_set,hm]
end
end
section
def gy {ι α:Type} [DecidableEq ι](f:ι->α)(i:ι)(v:α):ι->α:=λj=>if j=i then v else f j
theorem Nb {ι α:Type} [DecidableEq ι](f:ι->α)(i:ι)(v:α):gy f i v i=v:=ifP rfl
theorem AQ {ι α:Type} [DecidableEq ι](f:ι->α) {i j:ι}(v:α)(h:j≠i):gy f i v j=f j:=ifN h
structure tV {ι:Type}(w:aJ)(base:Nat)(cf:ι->aN)(f:ι->List Int):Prop where
 rows:∀i,w.ownsRow base 2 1 (cf i) (aA (f i)) ((f i).map (aG aF))
 far:∀i j,i≠j->(cf i).ownBlock=aB\/(cf i).ownBlock≠(cf j).ownBlock
section
variable {ι:Type} {w w1:aJ} {base:Nat} {cf:ι->aN} {f:ι->List Int}
theorem tV.made(w:aJ)(base:Nat):tV w base (λ_:ι=>aH aB 0 0) (λ_=> []):=⟨λ_=>gC _ _ _ _,λ_ _ _=>aS rfl⟩
theorem tV.kept(h:tV w base cf f) {row:Option Nat}(hg:w.grownBy w1 row)(hr:∀g,row=aC g->∀i,(cf i).ownBlock≠aC g):tV w1 base cf f:=by
 refine⟨λi=>(h.rows i).kept hg ?_,h.far⟩;cases Eu:row with
 |none=>grind
 |some g=>grind
theorem tV.new(h:tV w base cf f) {g:Nat}(hg:w.heap.size<=g)(i:ι):(cf i).ownBlock≠aC g:=λe=>by have:=((h.rows i).lt _ e).2;omega
theorem tV.below(h:tV w base cf f)(hb:aa w.heap.size w w1):tV w1 base cf f:=
 h.kept (row:=aB) ⟨hb.os,hb.tape,hb.output,hb.size,λk hk _=>hb.block k hk⟩ (λ_ e=>by cases e)
theorem tV.grow [DecidableEq ι](h:tV w base cf f)(i:ι)(hg:w.grownBy w1 (cf i).ownBlock) {v':aN} {ys:List Int}(hown:w1.ownsRow base 2 1 v' (aA ys) (ys.map (aG aF)))
 (hloc:v'.ownBlock=(cf i).ownBlock\/∃g,v'.ownBlock=aC g/\w.heap.size<=g):tV w1 base (gy cf i v') (gy f i ys):=by
 have apart:∀j,j≠i->(cf j).ownBlock=aB\/(cf j).ownBlock≠v'.ownBlock:=by
  intro j hj;rcases hloc with e|⟨g,e,zh⟩
  ·rw [e];exact h.far j i hj
  exact aT λe'=>h.new zh j (e'.trans e)
 refine⟨λj=> ?_,λj k hjk=> ?_⟩
 ·by_cases hj:j=i
  ·grind [Nb]
  rw [AQ _ _ hj,AQ _ _ hj];exact(h.rows j).kept hg (h.far j i hj)
 by_cases hj:j=i
 ·grind [Nb,AQ]
 rw [AQ _ _ hj];by_cases hk:k=i
 ·grind [Nb]
 rw [AQ _ _ hk];exact h.far j k hjk
end
end
section
section
variable {w0 wr w1 w':aJ} {e:bX} {s n m n' g cap:Nat} {u v:aN} {xs ys xs':List aN}
theorem none_or(x:aN):x.ownBlock=aB\/x.ownBlock≠aB:=by grind
theorem iI {wr w1:aJ} {base:Nat} {e:bX} {s n:Nat} {u:aN} {xs:List aN}(h:wr.ownsRow base e s u n xs)(hb:aa wr.heap.size wr w1):w1.ownsRow base e s u n xs:=
 h.kept ⟨hb.os,hb.tape,hb.output,hb.size,λk hk _=>hb.block k hk⟩ (none_or u)
end
end
section
open Go.Maps Go.MapKept Go.ChangeMaps
abbrev Ix:=(Int×Int×Int) ⊕ Nat
def gthF(l:List En):Ix->List Int
 | .inl q=>gq l q
 | .inr i=>if i<9 then gp l i else []
def sY(cf:Ix->aN):Array aN:= #[cf (.inr 0),cf (.inr 1),cf (.inr 2),cf (.inr 3),cf (.inr 4),cf (.inr 5),cf (.inr 6),cf (.inr 7),cf (.inr 8)]
structure lB(w:aJ)(base b ab:Nat)(cf:Ix->aN)(ov:aN)(g:Ix->List Int)(os:List (Int×Int×Int))(W:aJ):Prop where
 map:∃m,eU aM 289 zX W b m/\(∀q,(getM q m).getD (aH aB 0 0)=cf (.inl q))/\∀p∈m,FP p.1
 yc:U2 W b
 blk:W.heap[ab]? =aC (aK (sY cf) 53 (0,0))
 tA:tV W base cf g
 ord:W.ownsRow base 289 3 ov (aA os) (IE os)
 low:w.heap.size<=b/\w.heap.size<=ab/\b≠ab/\b<base/\ab<base/\base<=W.heap.size
 b:β w W
theorem Bn {w:aJ} {b1 b2:Nat} {e1 e2:bX} {s1 s2 n1 n2:Nat} {v1 v2:aN} {x1 x2:List aN}(h1:w.ownsRow b1 e1 s1 v1 n1 x1)(h2:w.ownsRow b2 e2 s2 v2 n2 x2)(he:e1≠e2):v1.ownBlock=aB\/v1.ownBlock≠v2.ownBlock:=by
 rcases h1.2 with⟨rfl,_⟩|⟨g1,c1,u1,rfl,_,hb1,_⟩
 ·exact .inl rfl
 rcases h2.2 with⟨rfl,_⟩|⟨g2,c2,u2,rfl,_,hb2,_⟩
 ·exact .inr (by simp [dx])
 refine .inr λe=> ?_
 have e':g1=g2:=by simpa [dx] using e
 subst e';rw [hb1] at hb2;injection hb2 with hb2;injection hb2 with _ hb2;exact he hb2
theorem a6D {κ:Type} [BEq κ] [LawfulBEq κ] {q:κ} {v:aN} {x:κ×aN}:∀(m:List (κ×aN)),x∈eI q v m->x=(q,v)\/x∈m
 | [],h=>by simp [eI] at h;exact .inl h
 |p::m,h=>by
  unfold eI at h;split at h
  ·rcases fC.1 h with h|h
   ·exact .inl h
   exact .inr (df _ h)
  rcases fC.1 h with h|h
  ·exact .inr (h▸oZ ..)
  exact(a6D m h).imp id (df _)
section
variable {w W w2:aJ} {base b ab:Nat} {cf:Ix->aN} {ov:aN} {g:Ix->List Int} {os:List (Int×Int×Int)}
theorem lB.below {W':aJ}(h:lB w base b ab cf ov g os W)(hb:aa W.heap.size W W'):lB w base b ab cf ov g os W':=by obtain⟨m,hm,hv,hd⟩:=h.map;obtain⟨l1,l2,l3,l4,l5,l6⟩:=h.low;have hg:W.grownBy W' aB:=⟨hb.os,hb.tape,hb.output,hb.size,λi hi _=>hb.block i hi⟩;obtain⟨es,clock,h1,h2⟩:=h.yc;exact⟨⟨m,hm.of_block (hb.block b (by omega)),hv,hd⟩,⟨es,clock,(hb.block b (by omega)).trans h1,h2⟩,(hb.block ab (by omega)).trans h.blk,h.tA.below hb,h.ord.kept hg (by cases ov.ownBlock<;>simp),⟨l1,l2,l3,l4,l5,cC l6 hb.size⟩,h.b.trans (hb.mono h.b.size)⟩
theorem lB.lo(h:lB w base b ab cf ov g os W) {i:Ix} {k:Nat}(hk:(cf i).ownBlock=aC k):base<=k:=ei (h.tA.rows i) k hk
theorem lB.aIO(h:lB w base b ab cf ov g os W) {ov':aN} {os':List (Int×Int×Int)}(hg:W.grownBy w2 ov.ownBlock)(hown:w2.ownsRow base 289 3 ov' (aA os') (IE os')):lB w base b ab cf ov' g os' w2:=by
 obtain⟨m,hm,hv,hd⟩:=h.map;obtain⟨l1,l2,l3,l4,l5,l6⟩:=h.low;obtain⟨es,clock,h1,h2⟩:=h.yc;have hb:aC b≠ov.ownBlock:=λe=>by have:=ei h.ord b e.symm;omega
 have ha:aC ab≠ov.ownBlock:=λe=>by have:=ei h.ord ab e.symm;omega
 have hs:=hg.size;refine⟨⟨m,hm.of_block (hg.block b (by omega) hb),hv,hd⟩,⟨es,clock,(hg.block b (by omega) hb).trans h1,h2⟩,(hg.block ab (by omega) ha).trans h.blk,h.tA.kept hg λk hk i e=> ?_,hown,⟨l1,l2,l3,l4,l5,by omega⟩,h.b.grown hg h.b.size (λk hk=>by have:=ei h.ord k hk;omega)⟩;rcases Bn (h.tA.rows i) h.ord (by decide) with h3|h3
 ·rw [h3] at e;cases e
 exact h3 (e.trans hk.symm)
theorem lB.entry(h:lB w base b ab cf ov g os W) {q:Int×Int×Int}(hq:FP q):
 ∃st w1,(Fp 284 (.map (aC b)) (zX q)).run aM W= .ok (bB #[cf (.inl q),goInt st]) w1/\W.grownBy w1 (aC b)/\w1.heap.size=W.heap.size/\w1.ownsRow base 2 1 (cf (.inl q)) (aA (g (.inl q))) ((g (.inl q)).map (aG aF))/\
  ∀(w2:aJ) (v':aN) (ys:List Int),w1.grownBy w2 (cf (.inl q)).ownBlock->w2.ownsRow base 2 1 v' (aA ys) (ys.map (aG aF))->(v'.ownBlock=(cf (.inl q)).ownBlock\/v'.ownBlock=aC w1.heap.size)->
   ∃w3,(OS 284 (.map (aC b)) (goInt st) v').run aM w2= .ok () w3/\lB w base b ab (gy cf (.inl q) v') ov (gy g (.inl q) ys) os w3/\
    (∀k,k<W.heap.size->k≠b->aC k≠(cf (.inl q)).ownBlock->w3.heap[k]? =W.heap[k]?)/\W.heap.size<=w3.heap.size:=by
 obtain⟨m,hm,hv,hd⟩:=h.map;obtain⟨l1,l2,l3,l4,l5,l6⟩:=h.low;obtain⟨st,w1,hr,hg1,hs1,hf⟩:=hm.entry (t:=284) (e:=53) a6w aBd (z:=aH aB 0 0) (λu=>by kernel_rfl) h.yc hd hq;rw [hv] at hr;have Gz:∀i,(cf i).ownBlock≠aC b:=λi e=>by have:=h.lo e;omega
 have Q8:∀i,(cf i).ownBlock≠aC ab:=λi e=>by have:=h.lo e;omega
 have Mf:ov.ownBlock=aB\/ov.ownBlock≠aC b:= .inr λe=>by have:=ei h.ord b e;omega
 have Ve:=h.tA.kept hg1 (λk hk i=>by injection hk with hk;subst hk;exact Gz i);refine⟨st,w1,hr,hg1,hs1,Ve.rows _,λw2 v' ys hg2 hown hloc=> ?_⟩;have hs2:=hg2.size;obtain⟨w3,hr3,BV,WT,hg3⟩:=hf w2 v' (hg2.block b (by rw [hs1];omega) (λe=>Gz _ e.symm));have hs3:=hg3.size;have Q9:=Ve.grow (.inl q) hg2 hown (hloc.imp id λe=>⟨_,e,aZ _⟩);have VY:∀i,((gy cf (.inl q) v') i).ownBlock≠aC b:=λi e=>by
  by_cases hi:i= .inl q
  ·subst hi;rw [Nb] at e;rcases hloc with h4|h4
   ·exact Gz _ (h4.symm.trans e)
   rw [h4] at e;injection e with e;omega
  rw [AQ _ _ hi] at e;exact Gz i e
 refine⟨w3,hr3,⟨⟨_,BV,λq'=> ?_,λp hp=> ?_⟩,WT, ?_,Q9.kept hg3 (λk hk i=>by injection hk with hk;subst hk;exact VY i), ?_,⟨l1,l2,l3,l4,l5,by omega⟩, ?_⟩,λk hk hkb Vu=> ?_,by omega⟩
 ·by_cases e:q'=q
  ·subst e;rw [Nb,a2w];rfl
  rw [AQ _ _ (λe'=>e (by injection e')),a2v (Ne.symm e)];exact hv q'
 ·rcases a6D _ hp with e|hp
  ·rw [e];exact hq
  exact hd p hp
 ·have h5:sY (gy cf (.inl q) v')=sY cf:=by
   unfold sY;simp [gy]
  rw [h5];refine((hg3.block ab (by omega) (by simp;omega)).trans ((hg2.block ab (by omega) (λe=>Q8 _ e.symm)).trans (hg1.block ab (by omega) (by simp;omega)))).trans h.blk
 ·have eR:=h.ord.kept hg1 Mf;have fN:=eR.kept hg2 (Bn eR (Ve.rows (.inl q)) (by decide));exact fN.kept hg3 Mf
 ·exact((h.b.grown hg1 h.b.size (λk hk=>by injection hk with hk;omega)).grown hg2 (by rw [hs1];exact h.b.size) (λk hk=>by have:=h.lo hk;omega)).grown hg3 (by have:=h.b.size;omega) (λk hk=>by injection hk with hk;omega)
 exact(hg3.block k (by omega) (by simp;omega)).trans ((hg2.block k (by omega) Vu).trans (hg1.block k hk (by simp;omega)))
theorem lB.look(h:lB w base b ab cf ov g os W) {q:Int×Int×Int}(hq:FP q):(Instr.lookup 284 (.map (aC b)) (zX q) aP).run aM W= .ok (cf (.inl q)) W:=by obtain⟨m,hm,hv,hd⟩:=h.map;have h1:=eU.look (P:=aM) aP a6w aBd (z:=aH aB 0 0) (by kernel_rfl) hm hd hq;rw [<-hv q];exact h1
theorem Ue(cf:Ix->aN) {i:Nat}(hi:i<9):(sY cf)[i]? =aC (cf (.inr i)):=by
 match i,hi with
 |0,_=>rfl
 |1,_=>rfl
 |2,_=>rfl
 |3,_=>rfl
 |4,_=>rfl
 |5,_=>rfl
 |6,_=>rfl
 |7,_=>rfl
 |8,_=>rfl
theorem aCu(cf:Ix->aN) {i:Nat}(hi:i<9)(v:aN):(sY cf).setIfInBounds i v=sY (gy cf (.inr i) v):=by
 match i,hi with
 |0,_=>simp [sY,gy]
 |1,_=>simp [sY,gy]
 |2,_=>simp [sY,gy]
 |3,_=>simp [sY,gy]
 |4,_=>simp [sY,gy]
 |5,_=>simp [sY,gy]
 |6,_=>simp [sY,gy]
 |7,_=>simp [sY,gy]
 |8,_=>simp [sY,gy]
theorem lB.a1N(h:lB w base b ab cf ov g os W) {i:Nat}(hi:i<9) {v':aN} {ys:List Int}(hg:W.grownBy w2 (cf (.inr i)).ownBlock)(hown:w2.ownsRow base 2 1 v' (aA ys) (ys.map (aG aF)))
 (hloc:v'.ownBlock=(cf (.inr i)).ownBlock\/∃k,v'.ownBlock=aC k/\W.heap.size<=k):lB w base b ab (gy cf (.inr i) v') ov (gy g (.inr i) ys) os (w2.setCell ⟨ab,i,aB⟩ v'):=by
 obtain⟨m,hm,hv,hd⟩:=h.map;obtain⟨l1,l2,l3,l4,l5,l6⟩:=h.low;obtain⟨es,clock,h1,h2⟩:=h.yc;have hb:aC b≠(cf (.inr i)).ownBlock:=λe=>by have:=h.lo e.symm;omega
 have ha:aC ab≠(cf (.inr i)).ownBlock:=λe=>by have:=h.lo e.symm;omega
 have hs:=hg.size;have Ez:∀k,k≠ab->(w2.setCell ⟨ab,i,aB⟩ v').heap[k]? =w2.heap[k]? :=λk hk=>nB _ _ _ _ hk
 have hgs:w2.grownBy (w2.setCell ⟨ab,i,aB⟩ v') (aC ab):=⟨rfl,rfl,rfl,by simp,λk _ hk=>Ez k (λe=>hk (by rw [e]))⟩;have Q9:=h.tA.grow (.inr i) hg hown hloc;have VY:∀j,((gy cf (.inr i) v') j).ownBlock≠aC ab:=λj e=>by have:=ei (Q9.rows j) ab e;omega
 have hb2:=(hg.block ab (by omega) ha).trans h.blk;refine⟨⟨m,hm.of_block ((Ez b l3).trans (hg.block b (by omega) hb)),λq=> ?_,hd⟩,⟨es,clock,(Ez b l3).trans ((hg.block b (by omega) hb).trans h1),h2⟩, ?_,Q9.kept hgs (λk hk j=>by injection hk with hk;subst hk;exact VY j), ?_,⟨l1,l2,l3,l4,l5,by simp;omega⟩,(h.b.grown hg h.b.size (λk hk=>by have:=h.lo hk;omega)).setCell (p:=⟨ab,i,aB⟩) l2 _⟩
 ·rw [AQ _ _ (by simp)];exact hv q
 ·rw [<-aCu cf hi];exact om hb2 i v'
 have ho:=h.ord.kept hg (Bn h.ord (h.tA.rows (.inr i)) (by decide));exact ho.kept hgs (.inr λe=>by have:=ei ho ab e;omega)
end
theorem a3H(pre:List En)(x:En)(i:Nat)(hi:i<9)(hx:x.a=(i:Int)):gy (gy (gthF pre) (.inl x.spot) (gq pre x.spot++ [x.n])) (.inr i) (gp pre i++ [x.n])=gthF (pre++ [x]):=by
 funext j;cases j with
 |inl q=>
  rw [AQ _ _ (by simp)];unfold gy;simp only [gthF,a1Z,Sum.inl.injEq];split
  ·rename_i e;subst e;rfl
  rfl
 |inr k=>
  unfold gy;simp only [gthF,a1W,Sum.inr.injEq,hx,Int.natCast_inj,reduceCtorEq,if_false];by_cases e:k=i
  ·subst e;simp [hi]
  simp [e,Ne.symm e]
theorem aFY:gthF []=λ_=> []:=by
 funext i;cases i with
 |inl q=>rfl
 |inr i=>unfold gthF;simp only;split<;>rfl
end
end Go.Proofs.YtdokipdchlcmeaaGreat
