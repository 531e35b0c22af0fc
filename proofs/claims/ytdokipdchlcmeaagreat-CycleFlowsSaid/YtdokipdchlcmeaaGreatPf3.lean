/-
  Several texts in one, for one claim (printed by pack.py).
-/
import Derived.Test.YtdokipdchlcmeaaGreatPf2
import Derived.Deep.RegionLaw
import Derived.Maps.OwnSet
import Derived.Maps.OwnRows
import Derived.WideShapes
import Derived.Test.YtdokipdchlcmeaaGreatRows
import Derived.ProofKit
import Derived.OpenShut
import Derived.Lib.SmallJoins
import Derived.Deep.Slices
import Derived.Deep.Fields
import Derived.Deep.DeepHandedRow
import Derived.DeepKeys4
import Derived.WideKeyEntry
import Derived.Maps.AppendAt
import Derived.OneCell
set_option linter.all false
set_option maxRecDepth 100000
set_option maxHeartbeats 12800000
open Array renaming getElem?_eq_some_iff→fY,replicate→jh,toList_modify→Yw
open Bool renaming true→aO,false→aP,and_eq_true→ji,eq_iff_iff→GC
open Go renaming World→aJ,Value→aN,Calls→aQ,Addr→ai,cell_of_row→bH,maxLen→bO,TypeId→bZ,heap_alloc_new→cQ,info_parts→dP,Ending→dX,wpList_append_own→jC,wpAnyH_take→kA,wpAnyH_ready→pZ,step_append_lies→Ad,wpAnyH_done→OE
open Go.Addr renaming block→G9
open Go.AllReadyH renaming cons→mq,nil→oZ
open Go.DataW renaming TrodAll→Z4
open Go.Ending renaming returned→aT
open Go.Instr renaming mapUpdate→Ef,mapEntry→Ge,entryStore→PA,findKey→a9r
open Go.IntKind renaming i64→aF
open Go.IntWalk renaming i64_in→sr
open Go.MapKept renaming run_getObj_map→BP,run_setObj_map→Gj
open Go.Maps.Keyed renaming of_law→a8u
open Go.Obj renaming cells→aK
open Go.Program renaming keyLits→Ub
open Go.Proofs renaming intOf→ag
open Go.Proofs.Tryz renaming prog→aM,underlying53→mX,underlying3→xF,underlying46→yU,underlying56→He,func86→ME,ntmps86→MG,underlying132→Pa,underlying185→Pb,func54→Uo,ntmps54→Uv,func106→aAe,func120→aAi,func124→aAj,func143→aAo,func157→aAp,func168→aAr,func181→aAu,func34→aBA,func60→aBF,func81→aBI,func82→aBJ,func83→aBK,func84→aBL,func96→aBN,ntmps106→aBR,ntmps120→aBV,ntmps124→aBW,ntmps143→aBb,ntmps157→aBc,ntmps168→aBe,ntmps181→aBh,ntmps34→aBv,ntmps40→aBx,ntmps60→aC1,ntmps81→aC5,ntmps82→aC6,ntmps83→aC7,ntmps84→aC8,ntmps96→aCA,underlying284→aCH
open Go.Result renaming andThen→uU
open Go.RowKit renaming Below→aa,wrap64→fV
open Go.RowKit.Below renaming refl→aX,heap_setCell→nR
open Go.Sem renaming run_bind→aAa
open Go.Value renaming int→aG,slice→aH,tuple→bC,pointer→bD,bool→bK,agg→bP,ownBlock→eF
open Go.WideElems renaming findIdx_arr→a8w,findIdx_born→a8x
open Go.World renaming ownsRow_nil→gG,cell?_of_block→gu,frozen?→iO,ownsRow→kF,cell?_alloc_lt→qp,size_alloc→DK,setCell→Em,cell?_setCell_other→Hg,frozen?_of_block→MM
open List renaming length→aA,getElem_mem→cK,length_append→cN,take_length→cU,range→dQ,map_append→dh,mem_map→di,mem_cons_of_mem→dx,mem_cons→fG,take_succ_eq_append_getElem→fH,mem_append→gN,replicate→gP,getElem?_eq_getElem→iG,mem_filter→jG,any_eq_true→kE,pairwise_cons→kp,eq_nil_of_length_eq_zero→nU,mem_range→nV,mem_cons_self→pG,length_filter_le→qo,mem_iff_getElem→tD,length_singleton→uT,flatMap_cons→xB,any_eq_false→zT,getElem?_eq_some_iff→zU,mem_of_getElem?→zV,length_replicate→BN,getElem_modify→Gg,getElem?_eq_none→M4,concat_eq_append→PE,eq_nil_or_concat→PF,findIdx_getElem→UT,length_modify→aA6,nodup_cons→aAA
open Nat renaming le_refl→aZ,zero_le→bM,le_trans→bz,lt_of_lt_of_le→cL,lt_or_ge→rZ,mul_le_mul→yT,mul_le_mul_right→Gr,add_comm→aAF,add_mul_mod_self_right→aAG,mod_eq_of_lt→aAJ
open Option renaming none→aB,some→aC
open Option.some renaming inj→pH
open Or renaming inl→aS,inr→aU
namespace Go.Proofs.YtdokipdchlcmeaaGreat
open Go.Proofs.Tryz Go.RowKit
theorem Kt:(aM.info? 59).map (λi=>(i.zero,i.size,i.bytes))=aC (aC (bP #[aG aF 0,aG aF 0,aG aF 0,aG aF 0,aG aF 0,aG aF 0]),6,48):=by kernel_rfl
theorem aIe(L:List Ob):∀u∈fN L,u.oneCell'=aO:=by intro u hu;unfold fN at hu;obtain⟨x,_,hx⟩:=List.mem_flatMap.1 hu;simp [Ob.cells] at hx;rcases hx with rfl|rfl|rfl|rfl|rfl|rfl<;>rfl
theorem aIc(L:List Ob):aA (fN L)=aA L*6:=by
 unfold fN;induction L with
 |nil=>rfl
 |cons a l ih=>rw [xB,cN,ih];simp [Ob.cells];omega
def CT(w:aJ)(L:List Ob)(e:dX)(w':aJ):Prop:=
 ∃v,e=aT v/\w'.ownsRow w.heap.size 59 6 v (aA L) (fN L)/\β w w'
theorem a5z(L:List Ob)(v:aN)(base:Nat)(w:aJ)(hown:w.ownsRow base 59 6 v (aA L) (fN L))(hl:aA L<=1000000):
 aQ aM 96 #[v] w (CT w L):=by
 obtain⟨i0,bu,hz0,hz1,hz2⟩:=dP Kt;have hq:=E9 He;rcases hown.2 with⟨rfl,h0⟩|⟨g,cap,cur,rfl,hg,hh,xX,hcm,hcs,Ik⟩
 ·have hL:L= []:=nU h0;subst hL;go_enter aBN,aCA
  go_wp2
  go_ret;exact⟨_,rfl,⟨by simp [fN],aS ⟨rfl,rfl⟩⟩,aX _ _⟩
 have aGN:=hown.cells (g:=g) rfl;have HC:=η aGN;have hlt:g<w.heap.size:=(fY.1 hh).1;have HL:=η (aIc L);go_enter aBN,aCA
 go_wp2_with (at_builtin;refine jC _ rfl _ _ 56 rfl w.heap.size 59 i0 _ 6 48 He bu hz0 hz1 hz2 rfl (by decide) _ 0 [] rfl ?c0 ⟨g,0,aB⟩ (aA L) cap (fN L) rfl HL.o ?c1 (aIe L) ?c3 ?c4 ?c5 ?_)
 case c0=>exact E5 w _ 6
 case c1=>exact λj u hu=>(qp _ _ _ (by rw [aCb];exact hlt)).trans (HC.o j u hu)
 case c3=>simp only [bO];omega
 case c4=>omega
 case c5=>simp
 intro v' w1 hown1 dK _;have cF:=η hown1;have lQ:=η dK;go_wp2
 go_ret;refine⟨_,rfl,by simpa using cF.o,σ.grown lQ.o (by simp) ?_⟩;intro k hk;simp [eF] at hk;omega
theorem aFd {α:Type}(p:α->Bool)(l:List α)(k:Nat)(h:(l.take k).any p=aP):k<=aA l->k<=l.findIdx p:=by
 intro hk;rw [zT] at h;rcases rZ (l.findIdx p) k with hlt|AB
 ·exfalso;have hl:l.findIdx p<aA l:=by omega
  have h1:=UT (xs:=l) (p:=p) (w:=hl);have:l[l.findIdx p]∈l.take k:=by rw [List.mem_take_iff_getElem];exact⟨_,by omega,rfl⟩
  exact h _ this h1
 exact AB
def uj {α:Type}(p:α->Bool)(l:List α):Int:=if l.findIdx p<(aA l) then (l.findIdx p:Int) else-1
theorem RY {α:Type}(p:α->Bool) {l:List α} {k:Nat}(hk:k<aA l)(h:(l.take k).any p=aP)(hp:p l[k]=aO):(k:Int)=uj p l:=by
 have h1:=aFd p l k h (by omega);have h2:l.findIdx p<=k:=by
  rcases rZ k (l.findIdx p) with hlt|AB
  ·have:=List.not_of_lt_findIdx hlt;simp [hp] at this
  exact AB
 have e:l.findIdx p=k:=by omega
 unfold uj;rw [e,ifP hk]
theorem RZ {α:Type}(p:α->Bool) {l:List α}(h:l.any p=aP):(-1:Int)=uj p l:=by unfold uj;rw [ifN];intro hl;have h1:=UT (xs:=l) (p:=p) (w:=hl);rw [zT] at h;exact h _ (cK hl) h1
theorem aHF(L:List Ob)(A:Option ai)(c:Nat)(c1 c2:aN)(p:Ob->Bool)(w:aJ)(hs:aW w w.heap.size A (fN L))(hl:aA L<=1000000)
 (hp:∀(x:Ob) (W:aJ),aa w.heap.size w W->aQ aM 216 #[x.val,c1,c2] W λe w'=>e=aT (bK (p x))/\aa W.heap.size W w'):
 aQ aM 168 #[aH A (aA L) c,.func (.func 216) #[] #[c1,c2]] w λe w'=>e=aT (aG aF (uj p L))/\aa w.heap.size w w':=by
 have HS:=η hs;have HP:=η hp;go_enter aAr,aBe
 go_wp2
 go_loopw [5,8] (λ_ i wr=>∃k:Nat,k<=aA L/\i=aG aF k/\Hid (aa w.heap.size w wr)/\Hid ((L.take k).any p=aP)) (λ_ i _=>aA L-(ag i).toNat)
 case atStart=>exact⟨0,bM _,rfl,aX _ _,rfl⟩
 case round=>
  obtain⟨k,hk,rfl,HB,HK⟩:=hrel;have hsz:=HB.o.size;by_cases hlt:k<aA L
  ·obtain⟨b,o,rfl,hb,d0,d1,d2,d3,d4,d5⟩:=xw (HS.o.below HB.o) hlt;have HA:=η (zb p hlt);cases hp:p L[k]
   ·go_wp2_with (go_at_call 216;refine mM (HP.o L[k] _ HB.o) λw1 aR=> ?_)
    go_roundw
    case rel=>exact⟨k+1,by omega,by go_num,HB.o.trans (aR.o.mono hsz),η (by rw [HA.o,HK.o,hp];rfl)⟩
    case measure=>simp [ag];omega
   have HF:=η (RY p hlt HK.o hp);go_wp2_with (go_at_call 216;refine mM (HP.o L[k] _ HB.o) λw1 aR=> ?_)
   go_ret;exact⟨cW HF.o,HB.o.trans (aR.o.mono hsz)⟩
  obtain rfl:k=aA L:=by omega
  have hn:=HK.o;rw [cU] at hn;have HN:=η (RZ p hn);go_wp2
  go_ret;exact⟨cW HN.o,HB.o⟩
theorem aHE(L:List Ob)(A:Option ai)(c:Nat)(c1:aN)(p:Ob->Bool)(w:aJ)(hs:aW w w.heap.size A (fN L))(hl:aA L<=1000000)
 (hp:∀(x:Ob) (W:aJ),aa w.heap.size w W->aQ aM 109 #[x.val,c1] W λe w'=>e=aT (bK (p x))/\aa W.heap.size W w'):
 aQ aM 168 #[aH A (aA L) c,.func (.func 109) #[] #[c1]] w λe w'=>e=aT (aG aF (uj p L))/\aa w.heap.size w w':=by
 have HS:=η hs;have HP:=η hp;go_enter aAr,aBe
 go_wp2
 go_loopw [5,8] (λ_ i wr=>∃k:Nat,k<=aA L/\i=aG aF k/\Hid (aa w.heap.size w wr)/\Hid ((L.take k).any p=aP)) (λ_ i _=>aA L-(ag i).toNat)
 case atStart=>exact⟨0,bM _,rfl,aX _ _,rfl⟩
 case round=>
  obtain⟨k,hk,rfl,HB,HK⟩:=hrel;have hsz:=HB.o.size;by_cases hlt:k<aA L
  ·obtain⟨b,o,rfl,hb,d0,d1,d2,d3,d4,d5⟩:=xw (HS.o.below HB.o) hlt;have HA:=η (zb p hlt);cases hp:p L[k]
   ·go_wp2_with (go_at_call 109;refine mM (HP.o L[k] _ HB.o) λw1 aR=> ?_)
    go_roundw
    case rel=>exact⟨k+1,by omega,by go_num,HB.o.trans (aR.o.mono hsz),η (by rw [HA.o,HK.o,hp];rfl)⟩
    case measure=>simp [ag];omega
   have HF:=η (RY p hlt HK.o hp);go_wp2_with (go_at_call 109;refine mM (HP.o L[k] _ HB.o) λw1 aR=> ?_)
   go_ret;exact⟨cW HF.o,HB.o.trans (aR.o.mono hsz)⟩
  obtain rfl:k=aA L:=by omega
  have hn:=HK.o;rw [cU] at hn;have HN:=η (RZ p hn);go_wp2
  go_ret;exact⟨cW HN.o,HB.o⟩
theorem aHG(L:List Lg)(A:Option ai)(c:Nat)(c1:aN)(p:Lg->Bool)(w:aJ)(hs:aW w w.heap.size A (bB L))(hl:aA L<=1000000)
 (hp:∀(x:Lg) (W:aJ),aa w.heap.size w W->aQ aM 171 #[x.val,c1] W λe w'=>e=aT (bK (p x))/\aa W.heap.size W w'):
 aQ aM 210 #[aH A (aA L) c,.func (.func 171) #[] #[c1]] w λe w'=>e=aT (aG aF (uj p L))/\aa w.heap.size w w':=by
 have HS:=η hs;have HP:=η hp;go_enter func210,ntmps210
 go_wp2
 go_loopw [5,8] (λ_ i wr=>∃k:Nat,k<=aA L/\i=aG aF k/\Hid (aa w.heap.size w wr)/\Hid ((L.take k).any p=aP)) (λ_ i _=>aA L-(ag i).toNat)
 case atStart=>exact⟨0,bM _,rfl,aX _ _,rfl⟩
 case round=>
  obtain⟨k,hk,rfl,HB,HK⟩:=hrel;have hsz:=HB.o.size;by_cases hlt:k<aA L
  ·obtain⟨b,o,rfl,hb,d0,d1,d2⟩:=oQ (HS.o.below HB.o) hlt;have HA:=η (zb p hlt);cases hp:p L[k]
   ·go_wp2_with (go_at_call 171;refine mM (HP.o L[k] _ HB.o) λw1 aR=> ?_)
    go_roundw
    case rel=>exact⟨k+1,by omega,by go_num,HB.o.trans (aR.o.mono hsz),η (by rw [HA.o,HK.o,hp];rfl)⟩
    case measure=>simp [ag];omega
   have HF:=η (RY p hlt HK.o hp);go_wp2_with (go_at_call 171;refine mM (HP.o L[k] _ HB.o) λw1 aR=> ?_)
   go_ret;exact⟨cW HF.o,HB.o.trans (aR.o.mono hsz)⟩
  obtain rfl:k=aA L:=by omega
  have hn:=HK.o;rw [cU] at hn;have HN:=η (RZ p hn);go_wp2
  go_ret;exact⟨cW HN.o,HB.o⟩
section
structure fR(w:aJ)(bs base:Nat)(v:aN)(L:List Ob):Prop where
 s:w.heap[bs]? =aC (aK #[v] 146 (0,0))
 own:w.ownsRow base 59 6 v (aA L) (fN L)
section
variable {w w':aJ} {bs base:Nat} {v:aN} {L:List Ob}
theorem fR.lt(h:fR w bs base v L):bs<w.heap.size:=(fY.1 h.s).1
theorem fR.c0(h:fR w bs base v L):w.cell? ⟨bs,0,aB⟩=aC v:=bH _ _ _ _ _ (0,0) h.s
theorem fR.f0(h:fR w bs base v L):w.frozen? ⟨bs,0,aB⟩=aP:=by simp [iO,h.s]
theorem fR.below(h:fR w bs base v L)(hb:aa w.heap.size w w'):fR w' bs base v L:=by refine⟨(hb.block _ h.lt).trans h.s, ?_⟩;have hg:w.grownBy w' aB:=⟨hb.os,hb.tape,hb.output,hb.size,λi hi _=>hb.block i hi⟩;exact h.own.kept hg (by cases v.ownBlock<;>simp)
theorem fR.ne(h:fR w bs base v L):v.ownBlock≠aC bs:=by
 rcases h.own.2 with⟨rfl,_⟩|⟨g,cap,cur,rfl,_,hh,_⟩
 ·simp [eF]
 intro e;have e':g=bs:=by simpa [eF] using e
 subst e';rw [h.s] at hh;injection hh with hh;injection hh with _ ht;exact absurd ht (by decide)
end
theorem Nk(L:List Ob)(v:aN)(bs base:Nat)(w:aJ)(h:fR w bs base v L)(hl:aA L<=1000000):
 aQ aM 43 #[bD (aC ⟨bs,0,aB⟩)] w (CT w L):=by
 have c0:=h.c0;have HO:=η h.own;go_enter func43,ntmps43
 go_wp2_with (go_at_call 96;refine(a5z L v base _ HO.o hl).mono ?_;rintro e w1 ⟨v1,rfl,eT,hb1⟩;have cF:=η eT;have aR:=η hb1)
 go_ret;exact⟨v1,rfl,cF.o,aR.o⟩
def xN(s:Int)(L:List Ob):Int:=aA (L.filter λx=>x.st==s)
theorem aEa(s:Int) {L:List Ob} {k:Nat}(hk:k<aA L):xN s (L.take (k+1))=xN s (L.take k)+(if L[k].st==s then 1 else 0):=by unfold xN;rw [fH hk,List.filter_append,cN];by_cases h:(L[k].st==s)=aO<;>simp [h]
theorem aEY(s:Int)(L:List Ob)(k:Nat):0<=xN s (L.take k)/\xN s (L.take k)<=k:=by unfold xN;have h1:=qo (λx:Ob=>x.st==s) (L.take k);have h2:=List.length_take_le k L;omega
theorem aEZ(L:List Ob):(decide (0<xN 1 L))=L.any ew:=by
 rw [GC];unfold xN;rw [decide_eq_true_eq,kE];constructor
 ·intro h;have hp:0<aA (L.filter λx=>x.st==1):=by omega
  obtain⟨x,hx⟩:=List.exists_mem_of_length_pos hp;exact⟨x,(jG.1 hx).1,(jG.1 hx).2⟩
 rintro⟨x,hx,hp⟩;have:0<aA (L.filter λx=>x.st==1):=List.length_pos_of_mem (jG.2 ⟨hx,hp⟩);omega
theorem Xh(L:List Ob)(s:Int)(v:aN)(bs base:Nat)(w:aJ)(h:fR w bs base v L)(hl:aA L<=1000000):
 aQ aM 107 #[bD (aC ⟨bs,0,aB⟩),aG aF s] w λe w'=>e=aT (aG aF (xN s L))/\aa w.heap.size w w':=by
 have HH:=η h;go_enter func107,ntmps107
 go_wp2_with fail
 refine(Nk L v bs base _ HH.o hl).mono ?_;rintro e w1 ⟨v1,rfl,eT,hb1⟩;obtain⟨A1,c1,rfl⟩:=bL eT;have HS:=η (aW.cB eT);have aR:=η hb1;go_wp2_with fail
 go_loopw [5,11] (λn i wr=>∃k:Nat,k<=aA L/\i=aG aF k/\n=aG aF (xN s (L.take k))/\Hid (aa w1.heap.size w1 wr)) (λ_ i _=>aA L-(ag i).toNat)
 case atStart=>exact⟨0,bM _,rfl,rfl,aX _ _⟩
 case round=>
  obtain⟨k,hk,rfl,rfl,HB⟩:=hrel;have hsz:=HB.o.size;obtain⟨n0,n1⟩:=aEY s L k;by_cases hlt:k<aA L
  ·obtain⟨b,o,rfl,hb,d0,d1,d2,d3,d4,d5⟩:=xw (HS.o.below HB.o) hlt;have HC:=η (aEa s hlt);cases hp:(L[k].st==s)
   ·go_wp2_with fail
    go_roundw
    case rel=>exact⟨k+1,by omega,by go_num,by rw [HC.o,hp];go_num,HB.o.alloc hsz _⟩
    case measure=>simp [ag];omega
   go_wp2_with fail
   go_roundw
   case rel=>exact⟨k+1,by omega,by go_num,by rw [HC.o,hp];go_num,HB.o.alloc hsz _⟩
   case measure=>simp [ag];omega
  obtain rfl:k=aA L:=by omega
  rw [cU];go_wp2_with fail
  go_ret;exact⟨rfl,aR.o.trans (HB.o.mono aR.o.size)⟩
theorem aFc(x:Ob)(m a:Int)(bm ba:Nat)(w:aJ)(hm:w.cell? ⟨bm,0,aB⟩=aC (aG aF m))(ha:w.cell? ⟨ba,0,aB⟩=aC (aG aF a))(h1:bm<w.heap.size)(h2:ba<w.heap.size):
 aQ aM 216 #[x.val,π bm,π ba] w λe w'=>e=aT (bK (yq m a x))/\aa w.heap.size w w':=by
 obtain⟨c,xm,xa,az,done,st⟩:=x;unfold Ob.val;go_enter func216,ntmps216
 go_wp2
 all_goals
  go_ret;refine⟨fT ?_,(aX _ _).alloc (aZ _) _⟩;rw [GC];simp_all [yq]
theorem Ks(L:List Ob)(m a:Int)(v:aN)(bs base:Nat)(w:aJ)(h:fR w bs base v L)(hl:aA L<=1000000):
 aQ aM 175 #[bD (aC ⟨bs,0,aB⟩),aG aF m,aG aF a] w λe w'=>e=aT (aG aF (uj (yq m a) L))/\aa w.heap.size w w':=by
 have hlt:=h.lt;have hb2:aa w.heap.size w ((w.alloc (aK #[aG aF m] 3)).alloc (aK #[aG aF a] 3)):=σ.alloc (by simp) _;have h':=h.below hb2;have c0:=h.c0;obtain⟨A,c,rfl⟩:=bL h'.own;have HS:=η (aW.cB h'.own)
 have hp:∀(x:Ob) (W:aJ),aa ((w.alloc (aK #[aG aF m] 3)).alloc (aK #[aG aF a] 3)).heap.size ((w.alloc (aK #[aG aF m] 3)).alloc (aK #[aG aF a] 3)) W->
  aQ aM 216 #[x.val,bD (aC ⟨w.heap.size,0,aB⟩),bD (aC ⟨w.heap.size+1,0,aB⟩)] W λe w'=>e=aT (bK (yq m a x))/\aa W.heap.size W w':=by
  intro x W hb;have hz:=hb.size;simp at hz;refine aFc x m a _ _ W ?_ ?_ (by omega) (by omega)
  ·rw [hb.cell (p:=⟨w.heap.size,0,aB⟩) (by simp;omega),BU _ _ _ (by simp),cM _ _ _ _ rfl];rfl
  rw [hb.cell (p:=⟨w.heap.size+1,0,aB⟩) (by simp),cM _ _ _ _ (by simp)];rfl
 have HP:=η hp;have aV:=η hb2;go_enter func175,ntmps175
 go_wp2_with (go_at_call 168;refine mM (aHF L A c _ _ (yq m a) _ HS.o hl HP.o) λw1 aR=> ?_)
 go_ret;exact⟨rfl,aV.o.trans (aR.o.mono (by simp;omega))⟩
end
theorem a3O {L:List Ob} {i:Nat} {f:Ob->Ob}(h:sX L)(dU:∀x,L[i]? =aC x->(f x).ok)(Wc:∀x,(f x).m=x.m/\(f x).a=x.a/\(ew (f x)=aO->ew x=aO)):sX (L.modify i f):=by
 refine⟨?_, ?_,by simpa using h.len⟩
 ·intro y hy;obtain⟨k,hk,rfl⟩:=tD.1 hy;rw [Gg];have mC:k<aA L:=by simpa using hk
  split
  ·rename_i e;subst e;exact dU _ (iG mC)
  exact h.each _ (cK mC)
 intro j k hj hk hjk oj ok' RD;have hj':j<aA L:=by simpa using hj
 have mC:k<aA L:=by simpa using hk
 rw [Gg] at oj ok' RD;rw [Gg] at RD;have fact:∀(q:Nat) (hq:q<aA L),(ew (if i=q then f L[q] else L[q])=aO->ew L[q]=aO)/\(if i=q then f L[q] else L[q]).m=L[q].m/\(if i=q then f L[q] else L[q]).a=L[q].a:=by
  intro q hq;split
  ·exact⟨(Wc _).2.2,(Wc _).1,(Wc _).2.1⟩
  exact⟨id,rfl,rfl⟩
 rw [(fact j hj').2.1,(fact j hj').2.2,(fact k mC).2.1,(fact k mC).2.2] at RD;exact h.once j k hj' mC hjk ((fact j hj').1 oj) ((fact k mC).1 ok') RD
theorem a7o(L:List Ob):PT L L:=⟨aZ _,λ_ h _=>iG h⟩
theorem a7n {L:List Ob} {i:Nat} {f:Ob->Ob}(h:∀x,L[i]? =aC x->ew x=aO):PT L (L.modify i f):=by
 refine⟨by simp,λk hk ho=> ?_⟩;rw [List.getElem?_modify];by_cases e:i=k
 ·subst e;rw [h _ (iG hk)] at ho;cases ho
 simp [e,hk]
theorem Mg {m a:Int} {L:List Ob} {x:Ob}(h:L[dV m a L]? =aC x):ew x=aO/\x.m=m/\x.a=a:=by
 obtain⟨hl,e⟩:=zU.1 h;have hp:=UT (xs:=L) (p:=yq m a) (w:=hl);have nw:yq m a x=aO:=by rw [<-e];exact hp
 simp [yq] at nw;exact⟨by simp [ew,nw.1.1],nw.1.2,nw.2⟩
theorem aFf {L:List Ob}(m a n:Int)(h:sX L):sX (kg m a n L)/\PT L (kg m a n L):=by
 unfold kg;split
 ·rename_i he;have hx:∀x,L[dV m a L]? =aC x->0<=x.az/\1<=n/\n<=x.az-x.done:=by
   intro x hx;unfold j9 at he;rw [hx] at he;simp only at he;split at he
   ·cases he
   split at he
   ·cases he
   split at he
   ·cases he
   omega
  refine⟨a3O h (λx hq=> ?_) (λx=>⟨rfl,rfl,id⟩),a7n λx hq=>(Mg hq).1⟩;obtain⟨h1,h2,h3⟩:=hx x hq;have ho:=h.each x (zV hq);have hs:x.size=x.az:=by unfold Ob.size;rw [ifN (by omega)]
  have d0:=ho.d0;refine⟨ho.lo,ho.hi,ho.ne,by simp only;omega, ?_⟩;show x.done+n<=x.size;rw [hs];omega
 exact⟨h,a7o _⟩
theorem aFg {L:List Ob}(m a n:Int)(h:sX L):sX (o7 m a n L)/\PT L (o7 m a n L):=by
 unfold o7;split
 ·rename_i he;have hx:∀x,L[dV m a L]? =aC x->1<=n/\n<=x.done:=by
   intro x hx;unfold lK at he;rw [hx] at he;simp only at he;split at he
   ·cases he
   split at he
   ·cases he
   split at he
   ·cases he
   omega
  refine⟨a3O h (λx hq=> ?_) (λx=>⟨rfl,rfl,id⟩),a7n λx hq=>(Mg hq).1⟩;obtain⟨h2,h3⟩:=hx x hq;have ho:=h.each x (zV hq);have d1:=ho.d1;refine⟨ho.lo,ho.hi,ho.ne,by simp only;omega, ?_⟩;show x.done-n<=x.size;omega
 exact⟨h,a7o _⟩
structure Only(bs:Nat)(v:aN)(w w':aJ):Prop where
 os:w'.os=w.os
 tape:w'.tape=w.tape
 output:w'.output=w.output
 size:w.heap.size<=w'.heap.size
 block:∀k,k<w.heap.size->k≠bs->aC k≠v.ownBlock->w'.heap[k]? =w.heap[k]?
theorem Only.bY {bs:Nat} {v:aN} {w w':aJ}(h:aa w.heap.size w w'):Only bs v w w':=⟨h.os,h.tape,h.output,h.size,λk hk _ _=>h.block k hk⟩
theorem Only.set {bs g i:Nat} {v:aN} {w w':aJ}(h:Only bs v w w')(hg:v.ownBlock=aC g)(u:aN):Only bs v w (w'.setCell ⟨g,i,aB⟩ u):=
 ⟨h.os,h.tape,h.output,by simpa [Em] using h.size,λk hk h1 h2=>(nR _ _ _ _ (λe=>h2 (by rw [hg,e]))).trans (h.block k hk h1 h2)⟩
theorem Only.drewN {bs:Nat} {v:aN} {w w':aJ}(h:Only bs v w w')(q:Nat):Only bs v w (w'.drewN q):=⟨h.os,h.tape,h.output,h.size,h.block⟩
theorem Only.drew' {bs:Nat} {v:aN} {w w':aJ}(h:Only bs v w w'):Only bs v w w'.drew:=⟨h.os,h.tape,h.output,h.size,h.block⟩
def From(w:aJ)(v v':aN):Prop:=∀j,v'.ownBlock=aC j->v.ownBlock=aC j\/w.heap.size<=j
theorem qz {w:aJ} {v v':aN}(h:v'.ownBlock=v.ownBlock):From w v v':=λ_ hj=>aS (h▸hj)
def Gu(bs base:Nat)(v:aN)(L':List Ob)(E:Int)(w:aJ)(e:dX)(w':aJ):Prop:=
 ∃v',e=aT (ν E)/\fR w' bs base v' L'/\Only bs v w w'/\From w v v'
theorem Vg {m a:Int} {L:List Ob}(h:dV m a L<aA L):uj (yq m a) L=(dV m a L:Int):=by unfold dV at h ⊢;unfold uj;rw [ifP h]
theorem Vh {m a:Int} {L:List Ob}(h:¬dV m a L<aA L):uj (yq m a) L= -1:=by unfold dV at h;unfold uj;rw [ifN h]
theorem L8 {w:aJ} {bs base:Nat} {v:aN} {L:List Ob}(h:fR w bs base v L) {i:Nat}(hi:i<aA L):
 ∃g cap,v=aH (aC ⟨g,0,aB⟩) (aA L) cap/\g<w.heap.size/\g≠bs/\aA L<=cap/\(∀j,w.frozen? ⟨g,j,aB⟩=aP)/\
  w.cell? ⟨g,i*6,aB⟩=aC (ν L[i].c)/\w.cell? ⟨g,i*6+1,aB⟩=aC (ν L[i].m)/\w.cell? ⟨g,i*6+2,aB⟩=aC (ν L[i].a)/\
  w.cell? ⟨g,i*6+3,aB⟩=aC (ν L[i].az)/\w.cell? ⟨g,i*6+4,aB⟩=aC (ν L[i].done)/\w.cell? ⟨g,i*6+5,aB⟩=aC (ν L[i].st):=by
 rcases h.own.2 with⟨rfl,h0⟩|⟨g,cap,cur,rfl,hg,hh,xX,hcm,hcs,Ik⟩
 ·omega
 have hlt:=(fY.1 hh).1;have hs:=aW.cB h.own;obtain⟨b,o,e,_,d⟩:=xw hs hi;injection e with e;injection e with e1 e2;subst e1 e2;simp only [Nat.zero_add] at d;refine⟨g,cap,rfl,hlt, ?_,xX, ?_,d⟩
 ·intro e;exact h.ne (by simp [eF,e])
 intro j;simp [iO,hh]
theorem a7F:∀(L:List Ob) (i:Nat) (hi:i<aA L) (f:Ob->Ob) (j:Nat) (u:aN) (_:j<6) (_:(f L[i]).cells=(L[i]).cells.set j u),fN (L.modify i f)=(fN L).set (i*6+j) u
 | [],i,hi,_,_,_,_,_=>absurd hi (by simp)
 |x::L,0,_,f,j,u,hj,hf=>by have hl:=hj;rw [List.modify_zero_cons];unfold fN;rw [xB,xB,Nat.zero_mul,Nat.zero_add,List.set_append_left _ _ hl];rw [show (f x).cells=x.cells.set j u from hf]
 |x::L,i+1,hi,f,j,u,hj,hf=>by
  rw [List.modify_succ_cons];have ih:=a7F L i (by simpa using hi) f j u hj hf;unfold fN at ih ⊢;have e:(i+1)*6+j=6+(i*6+j):=by omega
  rw [xB,xB,ih,e,List.set_append_right _ _ (by simp [Ob.cells])];simp [Ob.cells]
theorem fR.store {w:aJ} {bs base:Nat} {L:List Ob} {g cap:Nat}(h:fR w bs base (aH (aC ⟨g,0,aB⟩) (aA L) cap) L) {i j:Nat}(hi:i<aA L)(hj:j<6)(u:aN)(f:Ob->Ob)(hf:(f L[i]).cells=(L[i]).cells.set j u):
 fR (w.setCell ⟨g,i*6+j,aB⟩ u) bs base (aH (aC ⟨g,0,aB⟩) (aA (L.modify i f)) cap) (L.modify i f):=by
 have hne:=h.ne;refine⟨?_, ?_⟩
 ·rw [nR _ _ _ _ (λe=>hne (by simp only [eF];exact congrArg aC e.symm)),aA6];exact h.s
 rw [a7F L i hi f j u hj hf,aA6];exact(h.own.stored (i*6+j) u).1
theorem fR.drewN {w:aJ} {bs base:Nat} {v:aN} {L:List Ob}(h:fR w bs base v L)(q:Nat):fR (w.drewN q) bs base v L:=⟨h.s,h.own⟩
def KC(m a n:Int)(L:List Ob):Int:=if debtE m a n L=0 then (dV m a L:Int) else 0
theorem Ro(L:List Ob)(m a n:Int)(v:aN)(bs base:Nat)(w:aJ)(h:fR w bs base v L)(hl:aA L<=1000000):
 aQ aM 120 #[bD (aC ⟨bs,0,aB⟩),aG aF m,aG aF a,aG aF n] w λe w'=>
  e=aT (bC #[aG aF (KC m a n L),aG aF (debtE m a n L)])/\aa w.heap.size w w':=by
 have HH:=η h;have hlt:=h.lt;by_cases hi:dV m a L<aA L
 ·have HI:=η (Vg hi);have hx:L[dV m a L]? =aC L[dV m a L]:=iG hi;have hE:debtE m a n L=if L[dV m a L].az<0 then 8 else if n<1 then 1 else 0:=by unfold debtE;rw [hx]
  have HE:=η hE;have hJ:KC m a n L=if debtE m a n L=0 then (dV m a L:Int) else 0:=rfl
  have HJ:=η hJ;generalize dV m a L=i at*;go_enter aAi,aBV
  go_wp2_with fail
  refine(Ks L m a v bs base _ HH.o hl).mono ?_;rintro e w1 ⟨rfl,hb1⟩;obtain⟨g,cap,rfl,hg,_,FH,_,d0,d1,d2,d3,d4,d5⟩:=L8 (HH.o.below hb1) hi;have c0:=(HH.o.below hb1).c0;have aR:=η hb1;rw [HI.o];by_cases KZ:L[i].az<0
  ·go_wp2_with fail
   go_ret2;refine⟨?_,aR.o⟩;have hv:debtE m a n L=8:=by rw [HE.o,ifP KZ]
   rw [HJ.o,hv];rfl
  by_cases kM:n<1
  ·go_wp2_with fail
   go_ret2;refine⟨?_,aR.o⟩;have hv:debtE m a n L=1:=by rw [HE.o,ifN (by omega),ifP kM]
   rw [HJ.o,hv];rfl
  go_wp2_with fail
  go_ret2;refine⟨?_,aR.o⟩;have hv:debtE m a n L=0:=by rw [HE.o,ifN (by omega),ifN (by omega)]
  rw [HJ.o,hv];rfl
 have HI:=η (Vh hi);have hx:L[dV m a L]? =aB:=M4 (by omega);have hE:debtE m a n L=8:=by unfold debtE;rw [hx]
 have HE:=η hE;go_enter aAi,aBV
 go_wp2_with fail
 refine(Ks L m a v bs base _ HH.o hl).mono ?_;rintro e w1 ⟨rfl,hb1⟩;have aR:=η hb1;rw [HI.o];go_wp2_with fail
 go_ret2;refine⟨?_,aR.o⟩;rw [KC,HE.o];rfl
theorem a6U {m a n:Int} {L:List Ob}(h:debtE m a n L≠0):j9 m a n L=debtE m a n L/\lK m a n L=debtE m a n L:=by
 unfold j9 lK debtE at*;cases hq:L[dV m a L]? with
 |none=>exact⟨rfl,rfl⟩
 |some x=>
  rw [hq] at h;simp only at h ⊢;split
  ·exact⟨rfl,rfl⟩
  split
  ·exact⟨rfl,rfl⟩
  rename_i h1 h2;rw [ifN h1,ifN h2] at h;exact absurd rfl h
theorem a2j {m a n:Int} {L:List Ob}(h:debtE m a n L=0):∃hi:dV m a L<aA L,0<=L[dV m a L].az/\1<=n/\KC m a n L=(dV m a L:Int)/\
 j9 m a n L=(if L[dV m a L].az-L[dV m a L].done<n then 12 else 0)/\lK m a n L=(if L[dV m a L].done<n then 12 else 0):=by
 have hj:KC m a n L=(dV m a L:Int):=by unfold KC;rw [ifP h]
 unfold debtE j9 lK at*;by_cases hi:dV m a L<aA L
 ·rw [iG hi] at h ⊢;simp only at h ⊢;split at h
  ·cases h
  rename_i h1;split at h
  ·cases h
  rename_i h2;rw [ifN h1,ifN h2,ifN h1,ifN h2];exact⟨hi,by omega,by omega,hj,rfl,rfl⟩
 rw [M4 (by omega)] at h;cases h
theorem aIg(L:List Ob)(m a n:Int)(v:aN)(bs base:Nat)(w:aJ)(h:fR w bs base v L)(hL:sX L)(hn:n<=9223372036854775807):
 aQ aM 60 #[bD (aC ⟨bs,0,aB⟩),aG aF m,aG aF a,aG aF n] w (Gu bs base v (kg m a n L) (j9 m a n L) w):=by
 have hl:aA L<=1000000:=by have:=hL.len;omega
 have HH:=η h;by_cases hd:debtE m a n L=0
 ·obtain⟨hi,mE,kM,hJ,hP,_⟩:=a2j hd;have dU:=hL.each _ (cK hi);obtain⟨o1,o2,o3,o4,o5⟩:=dU;have hsz:L[dV m a L].size=L[dV m a L].az:=by unfold Ob.size;rw [ifN (by omega)]
  rw [hsz] at o5;have hpl:kg m a n L=if j9 m a n L=0 then L.modify (dV m a L) (λx=> {x with done:=x.done+n}) else L:=rfl
  have HD:=η hd;have HJ:=η hJ;have HP:=η hP;have eR:=η hpl;generalize dV m a L=i at*;clear hd hJ hP hpl h hsz o1 o3;go_enter aBF,aC1
  go_wp2_with fail
  refine(Ro L m a n v bs base _ HH.o hl).mono ?_;rintro e w1 ⟨rfl,hb1⟩;rw [HJ.o,HD.o];obtain⟨g,cap,rfl,hg,hgb,FH,pO,d0,d1,d2,d3,d4,d5⟩:=L8 (HH.o.below hb1) hi;have c0:=(HH.o.below hb1).c0;have cj:=η (HH.o.below hb1);have aR:=η hb1;clear hb1;have hkb:(i:Int)<(aA L:Int):=by omega
  have ej:(0:Int)<=(i:Int):=by omega
  have yj:aF.wrap (L[i].az-L[i].done)=L[i].az-L[i].done:=sr _ (by omega);have yO:=η yj;by_cases hm:L[i].az-L[i].done<n
  ·go_wp2_with fail
   go_quiet (fail)
   clear yj;go_wp2_with fail
   go_ret;have hE:j9 m a n L=12:=by rw [HP.o,ifP hm]
   refine⟨aH (aC ⟨g,0,aB⟩) (aA L) cap,cW hE.symm, ?_,Only.bY (below_drewN aR.o _),qz rfl⟩;rw [eR.o,hE];exact cj.o.drewN _
  go_wp2_with fail
  go_quiet (fail)
  clear yj;have hf4:=pO (i*6+4);clear pO;go_wp2_with fail
  go_ret;have hE:j9 m a n L=0:=by rw [HP.o,ifN (by omega)]
  refine⟨aH (aC ⟨g,0,aB⟩) (aA (L.modify i (λx=> {x with done:=x.done+n}))) cap,cW hE.symm, ?_,((Only.bY aR.o).drewN _).set rfl _,qz rfl⟩;rw [eR.o,hE];exact(cj.o.drewN _).store hi (by decide) _ (λx=> {x with done:=x.done+n}) rfl
 have hP:=(a6U hd).1;have hpl:kg m a n L=L:=by unfold kg;rw [ifN (by rw [hP];exact hd)]
 have HP:=η hP;have eR:=η hpl;have Bg:(debtE m a n L !=0)=aO:=by simpa using hd
 clear hP hpl h hd;go_enter aBF,aC1
 go_wp2_with fail
 refine(Ro L m a n v bs base _ HH.o hl).mono ?_;rintro e w1 ⟨rfl,hb1⟩;have aR:=η hb1;clear hb1;go_wp2_with fail
 go_ret;refine⟨v,cW HP.o.symm, ?_,Only.bY aR.o,qz rfl⟩;rw [eR.o];exact HH.o.below aR.o
theorem aIh(L:List Ob)(m a n:Int)(v:aN)(bs base:Nat)(w:aJ)(h:fR w bs base v L)(hL:sX L)(hn:n<=9223372036854775807):
 aQ aM 84 #[bD (aC ⟨bs,0,aB⟩),aG aF m,aG aF a,aG aF n] w (Gu bs base v (o7 m a n L) (lK m a n L) w):=by
 have hl:aA L<=1000000:=by have:=hL.len;omega
 have HH:=η h;by_cases hd:debtE m a n L=0
 ·obtain⟨hi,mE,kM,hJ,_,hP⟩:=a2j hd;have dU:=hL.each _ (cK hi);obtain⟨o1,o2,o3,o4,o5⟩:=dU;have hsz:L[dV m a L].size=L[dV m a L].az:=by unfold Ob.size;rw [ifN (by omega)]
  rw [hsz] at o5;have hpl:o7 m a n L=if lK m a n L=0 then L.modify (dV m a L) (λx=> {x with done:=x.done-n}) else L:=rfl
  have HD:=η hd;have HJ:=η hJ;have HP:=η hP;have eR:=η hpl;generalize dV m a L=i at*;clear hd hJ hP hpl h hsz o1 o3;go_enter aBL,aC8
  go_wp2_with fail
  refine(Ro L m a n v bs base _ HH.o hl).mono ?_;rintro e w1 ⟨rfl,hb1⟩;rw [HJ.o,HD.o];obtain⟨g,cap,rfl,hg,hgb,FH,pO,d0,d1,d2,d3,d4,d5⟩:=L8 (HH.o.below hb1) hi;have c0:=(HH.o.below hb1).c0;have cj:=η (HH.o.below hb1);have aR:=η hb1;clear hb1;have hkb:(i:Int)<(aA L:Int):=by omega
  have ej:(0:Int)<=(i:Int):=by omega
  by_cases hm:L[i].done<n
  ·go_wp2_with fail
   go_ret;have hE:lK m a n L=12:=by rw [HP.o,ifP hm]
   refine⟨aH (aC ⟨g,0,aB⟩) (aA L) cap,cW hE.symm, ?_,Only.bY (aR.o),qz rfl⟩;rw [eR.o,hE];exact cj.o
  have hf4:=pO (i*6+4);clear pO;go_wp2_with fail
  go_ret;have hE:lK m a n L=0:=by rw [HP.o,ifN (by omega)]
  refine⟨aH (aC ⟨g,0,aB⟩) (aA (L.modify i (λx=> {x with done:=x.done-n}))) cap,cW hE.symm, ?_,(Only.bY aR.o).set rfl _,qz rfl⟩;rw [eR.o,hE];exact cj.o.store hi (by decide) _ (λx=> {x with done:=x.done-n}) rfl
 have hP:=(a6U hd).2;have hpl:o7 m a n L=L:=by unfold o7;rw [ifN (by rw [hP];exact hd)]
 have HP:=η hP;have eR:=η hpl;have Bg:(debtE m a n L !=0)=aO:=by simpa using hd
 clear hP hpl h hd;go_enter aBL,aC8
 go_wp2_with fail
 refine(Ro L m a n v bs base _ HH.o hl).mono ?_;rintro e w1 ⟨rfl,hb1⟩;have aR:=η hb1;clear hb1;go_wp2_with fail
 go_ret;refine⟨v,cW HP.o.symm, ?_,Only.bY aR.o,qz rfl⟩;rw [eR.o];exact HH.o.below aR.o
theorem aKj(x:Ob):max x.az (-x.az)=x.size:=by unfold Ob.size;split<;>omega
theorem a6B(x:Ob)(w:aJ)(h0:gA<x.az)(h1:x.az<=9223372036854775807):
 aQ aM 176 #[x.val] w λe w'=>e=aT (aG aF x.size)/\aa w.heap.size w w':=by
 have HM:=η (aKj x);unfold gA at h0;obtain⟨c,m,a,az,done,st⟩:=x;simp only at h0 h1;unfold Ob.val;go_enter func176,ntmps176
 go_wp2
 all_goals
  go_ret;refine⟨cW ?_,(aX _ _).alloc (aZ _) _⟩;rw [<-HM.o];try omega
theorem aId(w:aJ):aQ aM 33 #[] w λe w'=>e=aT (bD (aC ⟨w.heap.size,0,aB⟩))/\w.alloc (aK #[aH aB 0 0] 146)=w':=by
 go_enter func33,ntmps33
 go_wp2
 go_ret;exact⟨rfl,rfl⟩
def Ko(s n z:Int):Bool:=decide (s<2)||decide (5<s)||decide (n<0)||decide (z<n)||(s==2&&n !=z)
theorem aHy {m a s n:Int} {L:List Ob}(hi:dV m a L<aA L):wF m a s n L=if Ko s n L[dV m a L].size then 1 else 0:=by
 unfold wF;rw [iG hi];simp only;by_cases h:s<2\/5<s\/n<0\/L[dV m a L].size<n\/(s=2/\n≠L[dV m a L].size)
 ·rw [ifP h,ifP];unfold Ko;simp only [Bool.or_eq_true,decide_eq_true_eq,ji,beq_iff_eq,bne_iff_ne];omega
 rw [ifN h,ifN];unfold Ko;simp only [Bool.or_eq_true,decide_eq_true_eq,ji,beq_iff_eq,bne_iff_ne];omega
theorem a5r(L:List Ob)(i:Nat)(s n:Int):(L.modify i (λx=> {x with st:=s})).modify i (λx=> {x with done:=n})=L.modify i (λx=> {x with st:=s,done:=n}):=by rw [List.modify_modify_eq];rfl
theorem Nl(L:List Ob)(m a s n:Int)(v:aN)(bs base:Nat)(w:aJ)(h:fR w bs base v L)(hL:sX L):
 aQ aM 124 #[bD (aC ⟨bs,0,aB⟩),aG aF m,aG aF a,aG aF s,aG aF n] w (Gu bs base v (lY m a s n L) (wF m a s n L) w):=by
 have hl:aA L<=1000000:=by have:=hL.len;omega
 have HH:=η h;by_cases hi:dV m a L<aA L
 ·have HI:=η (Vg hi);have hP:=aHy (s:=s) (n:=n) hi;have hpl:lY m a s n L=if wF m a s n L=0 then L.modify (dV m a L) (λx=> {x with st:=s,done:=n}) else L:=rfl
  obtain⟨o1,o2,o3,o4,o5⟩:=hL.each _ (cK hi);have HP:=η hP;have eR:=η hpl;generalize dV m a L=i at*;have cF:=η o1;clear hP hpl h o1 o3;go_enter aAj,aBW
  go_wp2_with fail
  refine(Ks L m a v bs base _ HH.o hl).mono ?_;rintro e w1 ⟨rfl,hb1⟩;rw [HI.o];obtain⟨g,cap,rfl,hg,hgb,FH,pO,d0,d1,d2,d3,d4,d5⟩:=L8 (HH.o.below hb1) hi;have c0:=(HH.o.below hb1).c0;have aR:=η hb1;have hz1:=hb1.size;clear hb1;go_wp2_with fail
  refine(a6B L[i] _ cF.o o2).mono ?_;rintro e w2 ⟨rfl,hb2⟩;clear d0 d1 d2 d3 d4 d5 c0 pO;have Mx:aa w.heap.size w w2:=aR.o.trans (hb2.mono hz1);obtain⟨g',cap',ev,Di,hgb',aMm,pO,d0,d1,d2,d3,d4,d5⟩:=L8 (HH.o.below Mx) hi;injection ev with Md _ ev2;injection Md with Md;injection Md with Md _;subst Md ev2;have c0:=(HH.o.below Mx).c0;have cO:=η (HH.o.below Mx);have aV:=η Mx;clear hb2 Mx;have hkb:(i:Int)<(aA L:Int):=by omega
  have ej:(0:Int)<=(i:Int):=by omega
  have hf4:=pO (i*6+4);have Df:=pO (i*6+5);clear pO;generalize hz:L[i].size=z at*;have HZ:=η hz;clear hz;cases vu:Ko s n z
  ·have hE:wF m a s n L=0:=by rw [HP.o,vu];rfl
   have HE:=η hE;unfold Ko at vu;simp only [Bool.or_eq_false_iff,decide_eq_false_iff_not] at vu;obtain⟨⟨⟨⟨m1,m2⟩,m3⟩,m4⟩,m5⟩:=vu;have Om:=η m5;clear m5 hE;cases hs2:(s==2)
   ·go_wp2_with fail
    go_region
    go_wp2_with fail
    go_ret;refine⟨aH (aC ⟨g,0,aB⟩) (aA ((L.modify i (λx=> {x with st:=s})).modify i (λx=> {x with done:=n}))) cap,cW HE.o.symm, ?_,(((Only.bY aV.o).drew').set rfl _).set rfl _,qz rfl⟩;rw [eR.o,HE.o];have h1:=(cO.o.drewN 1).store (i:=i) (j:=5) hi (by decide) (aG aF s) (λx=> {x with st:=s}) rfl;have h2:=h1.store (i:=i) (j:=4) (by simpa using hi) (by decide) (aG aF n) (λx=> {x with done:=n}) (by simp [Ob.cells]);rw [a5r] at h2 ⊢;exact h2
   have hnz:(n !=z)=aP:=by have:=Om.o;rw [hs2] at this;simpa using this
   go_wp2_with fail
   go_region
   go_wp2_with fail
   go_ret;refine⟨aH (aC ⟨g,0,aB⟩) (aA ((L.modify i (λx=> {x with st:=s})).modify i (λx=> {x with done:=n}))) cap,cW HE.o.symm, ?_,(((Only.bY aV.o).drew').set rfl _).set rfl _,qz rfl⟩;rw [eR.o,HE.o];have h1:=(cO.o.drewN 1).store (i:=i) (j:=5) hi (by decide) (aG aF s) (λx=> {x with st:=s}) rfl;have h2:=h1.store (i:=i) (j:=4) (by simpa using hi) (by decide) (aG aF n) (λx=> {x with done:=n}) (by simp [Ob.cells]);rw [a5r] at h2 ⊢;exact h2
  have hE:wF m a s n L=1:=by rw [HP.o,vu];rfl
  have HE:=η hE;have Ms:lY m a s n L=L:=by rw [eR.o,hE];rfl
  have wY:=η Ms;clear hE Ms;unfold Ko at vu;by_cases m1:s<2
  ·go_wp2_with fail
   go_ret;exact⟨_,cW HE.o.symm,by rw [wY.o];exact cO.o,Only.bY aV.o,qz rfl⟩
  by_cases m2:5<s
  ·go_wp2_with fail
   go_ret;exact⟨_,cW HE.o.symm,by rw [wY.o];exact cO.o,Only.bY aV.o,qz rfl⟩
  by_cases m3:n<0
  ·go_wp2_with fail
   go_ret;exact⟨_,cW HE.o.symm,by rw [wY.o];exact cO.o,Only.bY aV.o,qz rfl⟩
  by_cases m4:z<n
  ·go_wp2_with fail
   go_ret;exact⟨_,cW HE.o.symm,by rw [wY.o];exact cO.o,Only.bY aV.o,qz rfl⟩
  rw [decide_eq_false m1,decide_eq_false m2,decide_eq_false m3,decide_eq_false m4] at vu;simp only [Bool.false_or,ji] at vu;obtain⟨hs2,hnz⟩:=vu;go_wp2_with fail
  go_ret;exact⟨_,cW HE.o.symm,by rw [wY.o];exact cO.o,Only.bY aV.o,qz rfl⟩
 have HI:=η (Vh hi);have hE:wF m a s n L=8:=by unfold wF;rw [M4 (by omega)]
 have Ms:lY m a s n L=L:=by unfold lY;rw [hE];rfl
 have HE:=η hE;have wY:=η Ms;clear hE Ms h;go_enter aAj,aBW
 go_wp2_with fail
 refine(Ks L m a v bs base _ HH.o hl).mono ?_;rintro e w1 ⟨rfl,hb1⟩;rw [HI.o];have aR:=η hb1;clear hb1;go_wp2_with fail
 go_ret;exact⟨v,cW HE.o.symm,by rw [wY.o];exact HH.o.below aR.o,Only.bY aR.o,qz rfl⟩
theorem a2a(x:Ob)(cy:Int)(bc:Nat)(w:aJ)(hc:w.cell? ⟨bc,0,aB⟩=aC (aG aF cy))(h1:bc<w.heap.size):
 aQ aM 109 #[x.val,π bc] w λe w'=>e=aT (bK (decide (cy<=x.c)))/\aa w.heap.size w w':=by
 obtain⟨c,xm,xa,az,done,st⟩:=x;unfold Ob.val;go_enter func109,ntmps109
 go_wp2
 go_ret;exact⟨rfl,(aX _ _).alloc (aZ _) _⟩
theorem XO {α:Type}(p:α->Bool)(l:List α):decide (0<=uj p l)=l.any p:=by
 rw [GC,decide_eq_true_eq,kE];unfold uj;constructor
 ·intro h;split at h
  ·rename_i hl;exact⟨_,cK hl,UT (w:=hl)⟩
  omega
 rintro⟨x,hx,hp⟩;rw [ifP (List.findIdx_lt_length_of_exists ⟨x,hx,hp⟩)];omega
theorem a4B(L:List Ob)(A:Option ai)(c:Nat)(c1:aN)(p:Ob->Bool)(w:aJ)(hs:aW w w.heap.size A (fN L))(hl:aA L<=1000000)
 (hp:∀(x:Ob) (W:aJ),aa w.heap.size w W->aQ aM 109 #[x.val,c1] W λe w'=>e=aT (bK (p x))/\aa W.heap.size W w'):
 aQ aM 108 #[aH A (aA L) c,.func (.func 109) #[] #[c1]] w λe w'=>e=aT (bK (L.any p))/\aa w.heap.size w w':=by
 have HI:=η (aHE L A c c1 p w hs hl hp);have HA:=η (XO p L);go_enter func108,ntmps108
 go_wp2_with (go_at_call 168;refine mM HI.o λw1 aR=> ?_)
 go_ret;exact⟨fT HA.o,aR.o⟩
theorem aGI(L:List Lg)(A:Option ai)(c:Nat)(c1:aN)(p:Lg->Bool)(w:aJ)(hs:aW w w.heap.size A (bB L))(hl:aA L<=1000000)
 (hp:∀(x:Lg) (W:aJ),aa w.heap.size w W->aQ aM 171 #[x.val,c1] W λe w'=>e=aT (bK (p x))/\aa W.heap.size W w'):
 aQ aM 170 #[aH A (aA L) c,.func (.func 171) #[] #[c1]] w λe w'=>e=aT (bK (L.any p))/\aa w.heap.size w w':=by
 have HI:=η (aHG L A c c1 p w hs hl hp);have HA:=η (XO p L);go_enter func170,ntmps170
 go_wp2_with (go_at_call 210;refine mM HI.o λw1 aR=> ?_)
 go_ret;exact⟨fT HA.o,aR.o⟩
theorem aHm(x y:Lg)(Py:Nat)(w:aJ)(h0:w.cell? ⟨Py,0,aB⟩=aC (aG aF y.m))(h1:w.cell? ⟨Py,1,aB⟩=aC (aG aF y.a))(hb:Py<w.heap.size):
 aQ aM 171 #[x.val,π Py] w λe w'=>e=aT (bK (Kn y x))/\aa w.heap.size w w':=by
 obtain⟨xm,xa,xn⟩:=x;unfold Lg.val;go_enter func171,ntmps171
 go_wp2
 all_goals
  go_ret;refine⟨fT ?_,(aX _ _).alloc (aZ _) _⟩;rw [GC];simp_all [Kn]
theorem aCl(n:Int)(h:aL n):(dR (-n) !=0)=(n==gA):=by
 rw [GC];unfold dR gA;unfold aL at h;by_cases hI:aL (-n)
 ·rw [ifP hI];unfold aL at hI;simp;omega
 rw [ifN hI];unfold aL at hI;simp;omega
theorem aW.left {w:aJ} {B:Nat} {A:Option ai} {xs ys:List aN}(h:aW w B A (xs++ys)):aW w B A xs:=λj u hu=>
 h j u (by rw [List.getElem?_append_left (zU.1 hu).1];exact hu)
theorem aHl(bE:List Lg)(i:Nat):bB bE=bB (bE.take i)++bB (bE.drop i):=by unfold bB;rw [<-List.flatMap_append,List.take_append_drop]
theorem a6C(bE:List Lg)(A:Option ai)(c i:Nat)(w:aJ)(hs:aW w w.heap.size A (bB bE))(hi:i<aA bE)(hl:aA bE<=1000000)(hc:aA bE<=c)(hI:aL bE[i].n):
 aQ aM 110 #[aH A (aA bE) c,aG aF i] w λe w'=>e=aT (bK (yz bE i hi))/\aa w.heap.size w w':=by
 have HS:=η hs;have HI:=η hI;have HE:=η (aCl _ hI);obtain⟨b,o,rfl,hb,d0,d1,d2⟩:=oQ hs hi;clear hs hI;have hl2:aA (bE.take i)=i:=List.length_take_of_le (by omega);have a4L:aQ aM 170 #[aH (aC ⟨b,o,aB⟩) i c,.func (.func 171) #[] #[bD (aC ⟨w.heap.size,0,aB⟩)]] (w.alloc (aK #[aG aF bE[i].m,aG aF bE[i].a,aG aF bE[i].n] 76)) λe w'=>e=aT (bK ((bE.take i).any (Kn bE[i])))/\aa (w.heap.size+1) (w.alloc (aK #[aG aF bE[i].m,aG aF bE[i].a,aG aF bE[i].n] 76)) w':=by
  have Kg:aW (w.alloc (aK #[aG aF bE[i].m,aG aF bE[i].a,aG aF bE[i].n] 76)) (w.alloc (aK #[aG aF bE[i].m,aG aF bE[i].a,aG aF bE[i].n] 76)).heap.size (aC ⟨b,o,aB⟩) (bB (bE.take i)):=by have h1:=HS.o;rw [aHl bE i] at h1;exact(h1.left.below σ).mono (by simp)
  have h:=aGI (bE.take i) (aC ⟨b,o,aB⟩) c (bD (aC ⟨w.heap.size,0,aB⟩)) (Kn bE[i]) (w.alloc (aK #[aG aF bE[i].m,aG aF bE[i].a,aG aF bE[i].n] 76)) Kg (by omega) (λx W oN=>by
   have hz:=oN.size;simp at hz;have hcell:=λj=>(oN.cell (p:=⟨w.heap.size,j,aB⟩) (by simp)).trans (cM _ _ _ j rfl)
   exact aHm x bE[i] _ W (hcell 0) (hcell 1) (by omega))
  rw [hl2] at h;exact h.mono λe w' ⟨h1,h2⟩=>⟨h1,h2.mono (by simp)⟩
 have HC:=η a4L;have hW0:aa w.heap.size w (w.alloc (aK #[aG aF bE[i].m,aG aF bE[i].a,aG aF bE[i].n] 76)):=(aX _ _).alloc (aZ _) _;have mU:=η hW0;clear a4L hl2 hW0;go_enter func110,ntmps110
 go_wp2_with fail
 refine(Rm bE[i].n _ HI.o).mono ?_;rintro e w1 ⟨rfl,rfl⟩;cases hz:(bE[i].n==0)
 ·cases hm:(bE[i].n==gA)
  ·have hE:(dR (-bE[i].n) !=0)=aP:=HE.o.trans hm;have hT:(bE.take i).any (Kn bE[i])=yz bE i hi:=by unfold yz Su;rw [hz,hm];rfl
   have HT:=η hT;clear hT;go_wp2_with (go_at_call 170;refine HC.o.mono ?_;rintro e w2 ⟨rfl,hb2⟩;have aV:=η hb2;clear hb2)
   go_ret;exact⟨fT HT.o,mU.o.trans (aV.o.mono (by omega))⟩
  have hE:(dR (-bE[i].n) !=0)=aO:=HE.o.trans hm;have hT:aO=yz bE i hi:=by unfold yz Su;rw [hz,hm];rfl
  have HT:=η hT;clear hT;go_wp2_with fail
  go_ret;exact⟨fT HT.o,mU.o⟩
 have hT:aO=yz bE i hi:=by unfold yz Su;rw [hz];rfl
 have HT:=η hT;clear hT;go_wp2_with fail
 go_ret;exact⟨fT HT.o,mU.o⟩
theorem gS {w:aJ} {base:Nat} {e t:bZ} {size n g:Nat} {v:aN} {xs:List aN} {cs:Array aN}(h:w.ownsRow base e size v n xs)(hg:w.heap[g]? =aC (aK cs t (0,0)))(hne:t≠e):v.ownBlock≠aC g:=by
 rcases h.2 with⟨rfl,_⟩|⟨g',cap,cur,rfl,_,hh,_⟩
 ·simp [eF]
 intro e';have e2:g'=g:=by simpa [eF] using e'
 subst e2;rw [hg] at hh;injection hh with hh;injection hh with _ ht;exact hne ht
theorem aD4 {bE:List Lg} {i:Nat} {hi:i<aA bE}(h:yz bE i hi=aO):Ep bE=aO:=by unfold Ep;rw [kE];exact⟨i,nV.2 hi,by rw [dif_pos hi];exact h⟩
theorem aD3 {bE:List Lg}(h:∀i (hi:i<aA bE),yz bE i hi=aP):Ep bE=aP:=by unfold Ep;rw [zT];intro i hi;rw [dif_pos (nV.1 hi),h];simp
theorem Nj(L:List Ob)(x:Ob):fN (L++ [x])=fN L++x.cells:=by unfold fN;simp
theorem aHx {α β:Type}(f:α->β) {l:List α} {k:Nat}(hk:k<aA l):(l.take (k+1)).map f=(l.take k).map f++ [f l[k]]:=by rw [fH hk,dh];rfl
theorem aW.only {w w':aJ} {bs:Nat} {v:aN} {A:Option ai} {xs:List aN}(h:aW w w.heap.size A xs)(hA:xs≠ []->∀p,A=aC p->p.block≠bs/\aC p.block≠v.ownBlock)(ho:Only bs v w w'):aW w' w.heap.size A xs:=λj u hu=>by obtain⟨b,o,e,hb,hc⟩:=h j u hu;obtain⟨h1,h2⟩:=hA (λe=>by rw [e] at hu;simp at hu) _ e;exact⟨b,o,e,hb,(gu (w:=w) (a:=⟨b,o+j,aB⟩) (ho.block b hb h1 h2)).trans hc⟩
theorem Ml {wr w3:aJ} {o1 o2:Obj} {row:Option Nat}(hg:((wr.alloc o1).alloc o2).drew.grownBy w3 row) {k:Nat}(hk:k<wr.heap.size)(hne:aC k≠row):w3.heap[k]? =wr.heap[k]? :=by have h1:=hg.block k (by show k<((wr.alloc o1).alloc o2).heap.size;simp;omega) hne;rw [h1];show ((wr.alloc o1).alloc o2).heap[k]? =_;rw [fL _ _ (by simp;omega),fL _ _ hk]
theorem a3l {wr w3:aJ} {o1 o2:Obj} {row:Option Nat}(hg:((wr.alloc o1).alloc o2).drew.grownBy w3 row)(hne:aC wr.heap.size≠row):w3.heap[wr.heap.size]? =aC o1:=by have h1:=hg.block wr.heap.size (by show wr.heap.size<((wr.alloc o1).alloc o2).heap.size;simp;omega) hne;rw [h1];show ((wr.alloc o1).alloc o2).heap[wr.heap.size]? =_;rw [fL _ _ (by simp)];exact cQ wr o1
theorem a6K {L:List Ob} {cy:Int} {bE:List Lg} {k:Nat} {eK:k<aA bE} {bs base g cap:Nat} {v v1:aN} {w wr w3:aJ} {o1 o2:Obj}
 (ND:Only bs v w wr) (hb3:w3.heap[bs]? =aC (aK #[v1] 146 (0,0))) (hr3:w3.heap[w.heap.size]? =aC (aK #[ν cy] 3 (0,0)))
 (j7:w3.ownsRow base 59 6 (aH (aC ⟨g,0,aB⟩) (aA (L++(bE.take k).map (gB cy))+1) cap) (aA (L++(bE.take k).map (gB cy))+1) (fN (L++(bE.take k).map (gB cy))++(gB cy bE[k]).cells))
 (hg3:((wr.alloc o1).alloc o2).drew.grownBy w3 v1.ownBlock) (Dg:From w v v1) (hat:v1.ownBlock=aC g\/g=wr.heap.size+1+1) (Qu:(bE.take (k+1)).map (gB cy)=(bE.take k).map (gB cy)++ [gB cy bE[k]]) (FE:bs≠w.heap.size):
 (∃v',fR (w3.setCell ⟨bs,0,aB⟩ (aH (aC ⟨g,0,aB⟩) (aA (L++(bE.take k).map (gB cy))+1) cap)) bs base v' (L++(bE.take (k+1)).map (gB cy))/\From w v v')/\
  Only bs v w (w3.setCell ⟨bs,0,aB⟩ (aH (aC ⟨g,0,aB⟩) (aA (L++(bE.take k).map (gB cy))+1) cap))/\
  (w3.setCell ⟨bs,0,aB⟩ (aH (aC ⟨g,0,aB⟩) (aA (L++(bE.take k).map (gB cy))+1) cap)).heap[w.heap.size]? =aC (aK #[ν cy] 3 (0,0)):=by
 have hrow:fN (L++(bE.take (k+1)).map (gB cy))=fN (L++(bE.take k).map (gB cy))++(gB cy bE[k]).cells:=by rw [Qu,<-List.append_assoc,Nj]
 have aGm:aA (L++(bE.take (k+1)).map (gB cy))=aA (L++(bE.take k).map (gB cy))+1:=by rw [Qu,<-List.append_assoc,cN,uT]
 have aGt:=gS j7 hb3 (by decide);have hz2:=ND.size;refine⟨⟨aH (aC ⟨g,0,aB⟩) (aA (L++(bE.take k).map (gB cy))+1) cap,⟨?_, ?_⟩, ?_⟩,⟨hg3.os.trans ND.os,hg3.tape.trans ND.tape,hg3.output.trans ND.output, ?_, ?_⟩, ?_⟩
 ·rw [lz hb3];rfl
 ·rw [hrow,aGm];exact kP j7 aGt _
 ·intro j hj;have e:g=j:=by simpa [eF] using hj
  subst e;rcases hat with h|h
  ·exact Dg g h
  right;omega
 ·have h2:=hg3.size;have h4:((wr.alloc o1).alloc o2).drew.heap.size=wr.heap.size+2:=by show ((wr.alloc o1).alloc o2).heap.size=_;simp
  simp only [Em,Array.size_modify];omega
 ·intro j hj hjb hjo;rw [nR _ _ _ _ hjb,Ml hg3 (by omega) (λe=> ?_)]
  ·exact ND.block j hj hjb hjo
  rcases Dg j e.symm with h|h
  ·exact hjo h.symm
  omega
 rw [nR _ _ _ _ (λe=>FE e.symm)];exact hr3
theorem aIf(L:List Ob)(cy:Int)(bE:List Lg)(A:Option ai)(c:Nat)(v:aN)(bs base:Nat)(w:aJ)(h:fR w bs base v L)(hL:sX L)(hs:aW w w.heap.size A (bB bE))(hA:bE≠ []->∀p,A=aC p->p.block≠bs/\aC p.block≠v.ownBlock)(hbase:base<=w.heap.size)
 (hn:aA bE<=100000) (hc:aA bE<=c) (hI:∀y∈bE,aL y.n):
 aQ aM 54 #[bD (aC ⟨bs,0,aB⟩),aG aF cy,aH A (aA bE) c] w (Gu bs base v (nz cy bE L) (rF cy bE L) w):=by
 have aMu:=hL.len;have hl:aA L<=1000000:=by omega
 have hlt:=h.lt;have hW0:aa w.heap.size w (w.alloc (aK #[aG aF cy] 3)):=(aX _ _).alloc (aZ _) _;have HH:=η (h.below hW0);have mU:=η hW0;have HS:=η hs;have HI:=η hI;have HA:=η hA;have c0:=(h.below hW0).c0;obtain⟨A0,k0,hv⟩:=bL h.own;have a3p:rF cy bE L=if 1024-(aA L:Int)<(aA bE) then 6 else if L.any ew then 17 else if L.any (λx=>decide (cy<=x.c)) then 7 else if Ep bE then 1 else 0:=rfl
 have HE:=η a3p;have a3u:nz cy bE L=if rF cy bE L=0 then L++bE.map (gB cy) else L:=rfl
 have HL:=η a3u;have CW:=η (aEZ L);subst hv;clear h hs hI hA hW0 a3p a3u;by_cases h6:1024-(aA L:Int)<aA bE
 ·have hE:rF cy bE L=6:=by rw [HE.o,ifP h6]
  have hO:nz cy bE L=L:=by rw [HL.o,hE];rfl
  have CY:=η hE;have lx:=η hO;clear hE hO;go_enter Uo,Uv
  go_wp2_with fail
  go_ret;exact⟨_,cW CY.o.symm,by rw [lx.o];exact HH.o,Only.bY mU.o,qz rfl⟩
 cases Da:L.any ew
 ·cases h7:L.any (λx=>decide (cy<=x.c))
  ·have a3n:decide (0<xN 1 L)=aP:=CW.o.trans Da;have Mr:rF cy bE L=if Ep bE then 1 else 0:=by rw [HE.o,ifN h6,Da,h7];rfl
   have ZQ:=η Mr;have H7:=η h7;clear Mr Da h7;obtain⟨i0,bu,hz0,fw,hz2⟩:=dP Kt;go_enter Uo,Uv
   go_wp2_with fail
   refine(Xh L 1 _ bs base _ HH.o hl).mono ?_;rintro e w1 ⟨rfl,hb1⟩;have yH:=η (HH.o.below hb1);have c1:=(HH.o.below hb1).c0;have aR:=η hb1;have hz1:=hb1.size;simp at hz1;clear hb1;go_wp2_with fail
   refine(a4B L A0 k0 _ (λx=>decide (cy<=x.c)) _ (aW.cB yH.o.own) hl ?_).mono ?_
   ·intro x W oN;have hzW:=oN.size;refine a2a x cy _ W ?_ (by omega);rw [oN.cell (p:=⟨w.heap.size,0,aB⟩) (by simp;omega),aR.o.cell (p:=⟨w.heap.size,0,aB⟩) (by simp),cM _ _ _ _ rfl];rfl
   rintro e w2 ⟨rfl,hb2⟩;have aV:=η hb2;have xe:=hb2.size;clear hb2;rw [H7.o];have gF:Hid (aa w.heap.size w w2):=mU.o.trans ((aR.o.mono (by simp)).trans (aV.o.mono (by omega)));have JX:=η (yH.o.below aV.o);have bU:w2.heap[w.heap.size]? =aC (aK #[aG aF cy] 3 (0,0)):=by rw [aV.o.block _ (by omega),aR.o.block _ (by simp)];exact cQ w _
   have dJ:=η bU;have cO:Hid (aW w2 w2.heap.size A (bB bE)):=(HS.o.below gF.o).mono (by omega);clear bU c1 c0;go_wp2_with fail
   go_loopw [7,36] (λ_ i wr=>∃k:Nat,k<=aA bE/\i=aG aF k/\Hid (aa w2.heap.size w2 wr)/\Hid (∀j (hj:j<aA bE),j<k->yz bE j hj=aP)) (λ_ i _=>aA bE-(ag i).toNat)
   case atStart=>exact⟨0,bM _,rfl,aX _ _,λ_ _ h=>absurd h (by omega)⟩
   case round=>
    obtain⟨k,hk,rfl,HB,HK⟩:=hrel;have hsz:=HB.o.size;by_cases eK:k<aA bE
    ·have Oc:=η (HI.o bE[k] (cK eK));cases ht:yz bE k eK
     ·go_wp2_with (go_at_call 110;refine(a6C bE A c k _ ((cO.o.below HB.o).mono hsz) eK (by omega) hc Oc.o).mono ?_;rintro e w3 ⟨rfl,hb3⟩;have af:=η hb3;clear hb3)
      go_roundw
      case rel=>exact⟨k+1,by omega,by go_num,HB.o.trans (af.o.mono hsz),η (λj hj hjk=>by
       rcases rZ j k with h1|h1
       ·exact HK.o j hj h1
       obtain rfl:j=k:=by omega
       exact ht)⟩
      case measure=>simp [ag];omega
     have hE:rF cy bE L=1:=by rw [ZQ.o,aD4 ht];rfl
     have hO:nz cy bE L=L:=by rw [HL.o,hE];rfl
     have CY:=η hE;have lx:=η hO;clear hE hO;go_wp2_with (go_at_call 110;refine(a6C bE A c k _ ((cO.o.below HB.o).mono hsz) eK (by omega) hc Oc.o).mono ?_;rintro e w3 ⟨rfl,hb3⟩;have af:=η hb3;clear hb3)
     go_ret;have j6:aa w2.heap.size w2 w3:=HB.o.trans (af.o.mono hsz);exact⟨_,cW CY.o.symm,by rw [lx.o];exact JX.o.below j6,Only.bY (gF.o.trans (j6.mono (by omega))),qz rfl⟩
    obtain rfl:k=aA bE:=by omega
    have hE:rF cy bE L=0:=by rw [ZQ.o,aD3 (λj hj=>HK.o j hj hj)];rfl
    have hO:nz cy bE L=L++bE.map (gB cy):=by rw [HL.o,hE];rfl
    have CY:=η hE;have lx:=η hO;clear hE hO;obtain⟨wo,rfl⟩:∃wo:aJ,wo=wr:=⟨_,rfl⟩;have HHo:=η (JX.o.below HB.o);have a9N:Hid (wo.heap[w.heap.size]? =aC (aK #[aG aF cy] 3 (0,0))):=(HB.o.block _ (by omega)).trans dJ.o;have HWo:Hid (aa w.heap.size w wo):=gF.o.trans (HB.o.mono (by omega));go_wp2_with fail
    go_loopw [9,45] (λ_ i wr=>∃k:Nat,k<=aA bE/\i=aG aF k/\Hid (∃v',fR wr bs base v' (L++(bE.take k).map (gB cy))/\From w (aH A0 (aA L) k0) v')/\Hid (Only bs (aH A0 (aA L) k0) w wr)/\Hid (wr.heap[w.heap.size]? =aC (aK #[aG aF cy] 3 (0,0)))) (λ_ i _=>aA bE-(ag i).toNat)
    case atStart=>exact⟨0,bM _,rfl,⟨aH A0 (aA L) k0,by simpa using HHo.o,λj hj=>aS hj⟩,Only.bY HWo.o,a9N.o⟩
    case round=>
     obtain⟨k,hk,rfl,HSh,Lk,JP⟩:=hrel;obtain⟨v1,sG,Dg⟩:=HSh.o;have wW:=η Dg;clear Dg;by_cases eK:k<aA bE
     ·have a3o:=HS.o.only (λhx=>HA.o λe=>hx (by rw [e];rfl)) Lk.o;have aNB:=Lk.o.size;have hlen:aA (L++(bE.take k).map (gB cy))=aA L+k:=by simp;omega
      have Jb:=η hlen;obtain⟨b,o,rfl,hb,n0,n1,n2⟩:=oQ a3o eK;have a4D:wr.cell? ⟨w.heap.size,0,aB⟩=aC (aG aF cy):=ρ JP.o;have a4G:w.heap.size<wr.heap.size:=(fY.1 JP.o).1;have s0:=sG.c0;have sf:=sG.f0;have SH:=sG.lt;have Qd:bs≠w.heap.size:=by omega
      have yL:=η sG;have Jd:=η (aHx (gB cy) eK);have aMe:b≠bs:=(HA.o (λe=>by rw [e] at eK;simp at eK) _ rfl).1;have hbr:bs≠wr.heap.size:=by omega
      have aMh:wr.heap.size≠bs:=by omega
      have aMi:w.heap.size≠bs:=by omega
      have Qk:∀o,(wr.alloc o).frozen? ⟨bs,0,aB⟩=aP:=λo=>(MM (w:=wr) (fL _ _ SH)).trans sf
      have IM:∀o o',((wr.alloc o).alloc o').frozen? ⟨bs,0,aB⟩=aP:=λo o'=>(MM (w:=wr) ((fL _ _ (by simp;omega)).trans (fL _ _ SH))).trans sf
      clear sG a3o hlen;go_wp2_with fail
      refine wp_region_held_drew (S:=(λw'=>w'.cell? ⟨w.heap.size,0,aB⟩=aC (aG aF cy)/\w'.cell? ⟨wr.heap.size,0,aB⟩=aC (aG aF bE[k].m)/\w'.cell? ⟨wr.heap.size,1,aB⟩=aC (aG aF bE[k].a)/\w'.cell? ⟨wr.heap.size,2,aB⟩=aC (aG aF bE[k].n))) (by kernel_rfl) (by go_keep) (λhHeld=> ?_);refine kA (i:=0) (v:=bD (aC ⟨bs,0,aB⟩)) rfl (by kernel_rfl) (by kernel_rfl) (by kernel_rfl) (λ_ _ _ h=>h) (aS ⟨by rfl,λw' hSw=>by dsimp only at hSw;go_simp⟩) hHeld ?_;refine kA (i:=1) (v:=bD (aC ⟨bs,0,aB⟩)) rfl (by kernel_rfl) (by kernel_rfl) (by kernel_rfl) (λ_ _ _ h=>h) (aS ⟨by rfl,λw' hSw=>by dsimp only at hSw;go_simp⟩) hHeld ?_;refine kA (i:=2) (v:=bD (aC ⟨bs,0,aB⟩)) rfl (by kernel_rfl) (by kernel_rfl) (by kernel_rfl) (λ_ _ _ h=>h) (aS ⟨by rfl,λw' hSw=>by dsimp only at hSw;go_simp⟩) hHeld ?_;refine kA (i:=3) (v:=bD (aC ⟨bs,0,aB⟩)) rfl (by kernel_rfl) (by kernel_rfl) (by kernel_rfl) (λ_ _ _ h=>h) (aS ⟨by rfl,λw' hSw=>by dsimp only at hSw;go_simp⟩) hHeld ?_;refine kA (i:=5) (v:=aG aF cy) rfl (by kernel_rfl) (by kernel_rfl) (by kernel_rfl) (λ_ _ _ h=>h) (aS ⟨by rfl,λw' hSw=>by dsimp only at hSw;go_simp⟩) hHeld ?_;refine kA (i:=6) (v:=bD (aC ⟨wr.heap.size,0,aB⟩)) rfl (by kernel_rfl) (by kernel_rfl) (by kernel_rfl) (λ_ _ _ h=>h) (aS ⟨by rfl,λw' hSw=>by dsimp only at hSw;go_simp⟩) hHeld ?_;refine kA (i:=7) (v:=aG aF bE[k].m) rfl (by kernel_rfl) (by kernel_rfl) (by kernel_rfl) (λ_ _ _ h=>h) (aS ⟨by rfl,λw' hSw=>by dsimp only at hSw;go_simp⟩) hHeld ?_;refine kA (i:=8) (v:=bD (aC ⟨wr.heap.size,1,aB⟩)) rfl (by kernel_rfl) (by kernel_rfl) (by kernel_rfl) (λ_ _ _ h=>h) (aS ⟨by rfl,λw' hSw=>by dsimp only at hSw;go_simp⟩) hHeld ?_;refine kA (i:=9) (v:=aG aF bE[k].a) rfl (by kernel_rfl) (by kernel_rfl) (by kernel_rfl) (λ_ _ _ h=>h) (aS ⟨by rfl,λw' hSw=>by dsimp only at hSw;go_simp⟩) hHeld ?_;refine kA (i:=10) (v:=bD (aC ⟨wr.heap.size,2,aB⟩)) rfl (by kernel_rfl) (by kernel_rfl) (by kernel_rfl) (λ_ _ _ h=>h) (aS ⟨by rfl,λw' hSw=>by dsimp only at hSw;go_simp⟩) hHeld ?_;refine kA (i:=11) (v:=aG aF bE[k].n) rfl (by kernel_rfl) (by kernel_rfl) (by kernel_rfl) (λ_ _ _ h=>h) (aS ⟨by rfl,λw' hSw=>by dsimp only at hSw;go_simp⟩) hHeld ?_;refine kA (i:=12) (v:=bP #[aG aF cy,aG aF bE[k].m,aG aF bE[k].a,aG aF bE[k].n,aG aF 0,aG aF 1]) rfl (by kernel_rfl) (by kernel_rfl) (by kernel_rfl) (λ_ _ _ h=>h) (aS ⟨by rfl,λw' hSw=>by dsimp only at hSw;go_simp⟩) hHeld ?_;refine pZ (rs:= [4,13]) (by kernel_rfl) (by simp) ?_;refine mq rfl (λK hK=> ?_) (mq rfl (λK hK=> ?_) oZ)
      ·go_simp
       refine hK.o _ _ hHeld (λhHeld=> ?_);clear hK K;refine pZ (rs:= [13]) (by kernel_rfl) (by simp) ?_;refine mq rfl (λK hK=> ?_) oZ;go_simp
       refine hK.o _ _ (by go_keep) (λhHeld=> ?_);clear hK K;refine pZ (rs:= [14]) (by kernel_rfl) (by simp) ?_;refine mq rfl (λK hK=> ?_) oZ;refine Ad _ rfl (.tmp 53) (.tmp 62) 56 rfl base 59 i0 _ 6 48 He bu hz0 fw hz2 rfl (by decide) v1 _ _ rfl ((yL.o.own.alloc _).alloc _) ⟨wr.heap.size+1,0,aB⟩ 1 1 (gB cy bE[k]).cells rfl rfl (dS _ _ #[_,_,_,_,_,_] (by simp)) (by intro u hu;simp [Ob.cells] at hu;rcases hu with rfl|rfl|rfl|rfl|rfl|rfl<;>rfl) (by decide) (by rw [Jb.o];simp only [bO];omega) (by rw [Jb.o];omega) (by simp;omega) (wr.heap.size+1+1) (by simp) ?_;intro g cap w3 ma gQ FC _;have b3:=(Ml gQ SH (λe=>yL.o.ne e.symm)).trans yL.o.s;have q3:=a3l gQ (λe=>by have:=(yL.o.own.lt _ e.symm).2;omega);have r3:=(Ml gQ a4G (λe=>gS yL.o.own JP.o (by decide) e.symm)).trans JP.o;have s3:w3.cell? ⟨bs,0,aB⟩=aC v1:=ρ b3;have f3:w3.frozen? ⟨bs,0,aB⟩=aP:=by simp [iO,b3]
       have x3:w3.cell? ⟨w.heap.size,0,aB⟩=aC (aG aF cy):=ρ r3;have m3:w3.cell? ⟨wr.heap.size,0,aB⟩=aC (aG aF bE[k].m):=ρ q3;have a3:w3.cell? ⟨wr.heap.size,1,aB⟩=aC (aG aF bE[k].a):=ρ q3;have n3:w3.cell? ⟨wr.heap.size,2,aB⟩=aC (aG aF bE[k].n):=ρ q3;have cD:=η ma;have uJ:=η gQ;have lN:=η FC;have af:=η b3;have U1:=η r3;clear ma gQ FC b3 q3 r3;refine hK.o _ _ ⟨x3,m3,a3,n3⟩ (λhHeld=> ?_);clear hK K;refine kA (i:=15) (v:=bD (aC ⟨bs,0,aB⟩)) rfl (by kernel_rfl) (by kernel_rfl) (by kernel_rfl) (λ_ _ _ h=>h) (aS ⟨by rfl,λw' hSw=>by dsimp only at hSw;go_simp⟩) hHeld ?_;refine kA (i:=16) (v:=bD (aC ⟨bs,0,aB⟩)) rfl (by kernel_rfl) (by kernel_rfl) (by kernel_rfl) (λ_ _ _ h=>h) (aS ⟨by rfl,λw' hSw=>by dsimp only at hSw;go_simp⟩) hHeld ?_;refine pZ (rs:= [17]) (by kernel_rfl) (by simp) ?_;refine mq rfl (λK hK=> ?_) oZ;go_simp
       refine hK.o _ _ ⟨(Hg _ _ _ _ (λe=>Qd (congrArg G9 e))).trans x3,(Hg _ _ _ _ (λe=>hbr (congrArg G9 e))).trans m3,(Hg _ _ _ _ (λe=>hbr (congrArg G9 e))).trans a3,(Hg _ _ _ _ (λe=>hbr (congrArg G9 e))).trans n3⟩ (λhHeld=> ?_);clear hK K hHeld;refine OE (by kernel_rfl) ?_ _;have Ih:=a6K Lk.o af.o U1.o cD.o uJ.o wW.o lN.o Jd.o Qd;rw [Jb.o] at Ih;have GV:=η Ih;clear Ih;clear s3 f3 x3 m3 a3 n3 s0 sf Qk IM a4D n0 n1 n2;go_wp2_with fail
       go_roundw
       case rel=>exact⟨k+1,by omega,by go_num,GV.o.1,GV.o.2.1,GV.o.2.2⟩
       case measure=>simp [ag];omega
      go_simp
      refine hK.o _ _ (by go_keep) (λhHeld=> ?_);clear hK K;refine pZ (rs:= [4]) (by kernel_rfl) (by simp) ?_;refine mq rfl (λK hK=> ?_) oZ;go_simp
      refine hK.o _ _ hHeld (λhHeld=> ?_);clear hK K;refine pZ (rs:= [14]) (by kernel_rfl) (by simp) ?_;refine mq rfl (λK hK=> ?_) oZ;refine Ad _ rfl (.tmp 53) (.tmp 62) 56 rfl base 59 i0 _ 6 48 He bu hz0 fw hz2 rfl (by decide) v1 _ _ rfl ((yL.o.own.alloc _).alloc _) ⟨wr.heap.size+1,0,aB⟩ 1 1 (gB cy bE[k]).cells rfl rfl (dS _ _ #[_,_,_,_,_,_] (by simp)) (by intro u hu;simp [Ob.cells] at hu;rcases hu with rfl|rfl|rfl|rfl|rfl|rfl<;>rfl) (by decide) (by rw [Jb.o];simp only [bO];omega) (by rw [Jb.o];omega) (by simp;omega) (wr.heap.size+1+1) (by simp) ?_;intro g cap w3 ma gQ FC _;have b3:=(Ml gQ SH (λe=>yL.o.ne e.symm)).trans yL.o.s;have q3:=a3l gQ (λe=>by have:=(yL.o.own.lt _ e.symm).2;omega);have r3:=(Ml gQ a4G (λe=>gS yL.o.own JP.o (by decide) e.symm)).trans JP.o;have s3:w3.cell? ⟨bs,0,aB⟩=aC v1:=ρ b3;have f3:w3.frozen? ⟨bs,0,aB⟩=aP:=by simp [iO,b3]
      have x3:w3.cell? ⟨w.heap.size,0,aB⟩=aC (aG aF cy):=ρ r3;have m3:w3.cell? ⟨wr.heap.size,0,aB⟩=aC (aG aF bE[k].m):=ρ q3;have a3:w3.cell? ⟨wr.heap.size,1,aB⟩=aC (aG aF bE[k].a):=ρ q3;have n3:w3.cell? ⟨wr.heap.size,2,aB⟩=aC (aG aF bE[k].n):=ρ q3;have cD:=η ma;have uJ:=η gQ;have lN:=η FC;have af:=η b3;have U1:=η r3;clear ma gQ FC b3 q3 r3;refine hK.o _ _ ⟨x3,m3,a3,n3⟩ (λhHeld=> ?_);clear hK K;refine kA (i:=15) (v:=bD (aC ⟨bs,0,aB⟩)) rfl (by kernel_rfl) (by kernel_rfl) (by kernel_rfl) (λ_ _ _ h=>h) (aS ⟨by rfl,λw' hSw=>by dsimp only at hSw;go_simp⟩) hHeld ?_;refine kA (i:=16) (v:=bD (aC ⟨bs,0,aB⟩)) rfl (by kernel_rfl) (by kernel_rfl) (by kernel_rfl) (λ_ _ _ h=>h) (aS ⟨by rfl,λw' hSw=>by dsimp only at hSw;go_simp⟩) hHeld ?_;refine pZ (rs:= [17]) (by kernel_rfl) (by simp) ?_;refine mq rfl (λK hK=> ?_) oZ;go_simp
      refine hK.o _ _ ⟨(Hg _ _ _ _ (λe=>Qd (congrArg G9 e))).trans x3,(Hg _ _ _ _ (λe=>hbr (congrArg G9 e))).trans m3,(Hg _ _ _ _ (λe=>hbr (congrArg G9 e))).trans a3,(Hg _ _ _ _ (λe=>hbr (congrArg G9 e))).trans n3⟩ (λhHeld=> ?_);clear hK K hHeld;refine OE (by kernel_rfl) ?_ _;have Ih:=a6K Lk.o af.o U1.o cD.o uJ.o wW.o lN.o Jd.o Qd;rw [Jb.o] at Ih;have GV:=η Ih;clear Ih;clear s3 f3 x3 m3 a3 n3 s0 sf Qk IM a4D n0 n1 n2;go_wp2_with fail
      go_roundw
      case rel=>exact⟨k+1,by omega,by go_num,GV.o.1,GV.o.2.1,GV.o.2.2⟩
      case measure=>simp [ag];omega
     obtain rfl:k=aA bE:=by omega
     have yL:=η sG;clear sG;go_wp2_with fail
     go_ret;refine⟨v1,cW CY.o.symm, ?_,Lk.o,wW.o⟩;rw [lx.o];have:=yL.o;rw [cU] at this;exact this
  have hE:rF cy bE L=7:=by rw [HE.o,ifN h6,Da,h7];rfl
  have hO:nz cy bE L=L:=by rw [HL.o,hE];rfl
  have CY:=η hE;have lx:=η hO;have a3n:decide (0<xN 1 L)=aP:=CW.o.trans Da;have H7:=η h7;clear hE hO Da h7;go_enter Uo,Uv
  go_wp2_with fail
  refine(Xh L 1 _ bs base _ HH.o hl).mono ?_;rintro e w1 ⟨rfl,hb1⟩;have yH:=η (HH.o.below hb1);have c1:=(HH.o.below hb1).c0;have aR:=η hb1;have hz1:=hb1.size;simp at hz1;clear hb1;go_wp2_with fail
  refine(a4B L A0 k0 _ (λx=>decide (cy<=x.c)) _ (aW.cB yH.o.own) hl ?_).mono ?_
  ·intro x W oN;have hzW:=oN.size;refine a2a x cy _ W ?_ (by omega);rw [oN.cell (p:=⟨w.heap.size,0,aB⟩) (by simp;omega),aR.o.cell (p:=⟨w.heap.size,0,aB⟩) (by simp),cM _ _ _ _ rfl];rfl
  rintro e w2 ⟨rfl,hb2⟩;have aV:=η hb2;clear hb2;rw [H7.o];go_wp2_with fail
  go_ret;exact⟨_,cW CY.o.symm,by rw [lx.o];exact yH.o.below aV.o,Only.bY (mU.o.trans ((aR.o.mono (by simp)).trans (aV.o.mono (by omega)))),qz rfl⟩
 have hE:rF cy bE L=17:=by rw [HE.o,ifN h6,Da];rfl
 have hO:nz cy bE L=L:=by rw [HL.o,hE];rfl
 have CY:=η hE;have lx:=η hO;have a3n:decide (0<xN 1 L)=aO:=CW.o.trans Da;clear hE hO Da;go_enter Uo,Uv
 go_wp2_with fail
 refine(Xh L 1 _ bs base _ HH.o hl).mono ?_;rintro e w1 ⟨rfl,hb1⟩;have aR:=η hb1;clear hb1;go_wp2_with fail
 go_ret;exact⟨_,cW CY.o.symm,by rw [lx.o];exact HH.o.below aR.o,Only.bY (mU.o.trans (aR.o.mono (by simp))),qz rfl⟩
theorem aEx(x:Ob)(w:aJ):
 aQ aM 174 #[x.val] w λe w'=>e=aT (bK (decide (0<x.az)))/\β w w':=by
 obtain⟨c,m,a,az,done,st⟩:=x;unfold Ob.val;go_enter func174,ntmps174
 go_wp2
 go_ret;exact⟨rfl,(aX _ _).alloc (aZ _) _⟩
theorem aDw(x:Ob)(w:aJ):
 aQ aM 144 #[x.val] w λe w'=>e=aT (bK (decide (x.az<0)))/\β w w':=by
 obtain⟨c,m,a,az,done,st⟩:=x;unfold Ob.val;go_enter func144,ntmps144
 go_wp2
 go_ret;exact⟨rfl,(aX _ _).alloc (aZ _) _⟩
theorem aIy(L:List Ob)(p:Ob->Bool)(v:aN)(bs base:Nat)(w:aJ)(h:fR w bs base v L)(hl:aA L<=1000000)
 (hp:∀(x:Ob) (W:aJ),aQ aM 174 #[x.val] W λe w'=>e=aT (bK (p x))/\aa W.heap.size W w'):
 aQ aM 143 #[bD (aC ⟨bs,0,aB⟩),.func (.func 174) #[] #[]] w (CT w (L.filter λx=>x.st==1&&p x)):=by
 have HH:=η h;have HP:=η hp;obtain⟨i0,bu,hz0,fw,hz2⟩:=dP Kt;go_enter aAo,aBb
 go_wp2_with fail
 refine(Nk L v bs base _ HH.o hl).mono ?_;rintro e w1 ⟨v1,rfl,eT,hb1⟩;obtain⟨A1,c1,rfl⟩:=bL eT;have HS:=η (aW.cB eT);have aR:=η hb1;have hz1:=hb1.size;go_wp2_with fail
 go_loopw [5,7,11] (λu _ i wr=>∃k:Nat,k<=aA L/\i=aG aF k/\Hid (wr.ownsRow w1.heap.size 59 6 u (aA ((L.take k).filter λx=>x.st==1&&p x)) (fN ((L.take k).filter λx=>x.st==1&&p x)))/\Hid (aa w1.heap.size w1 wr)) (λ_ _ i _=>aA L-(ag i).toNat)
 case atStart=>exact⟨0,bM _,rfl,⟨by simp [fN],aS ⟨rfl,rfl⟩⟩,aX _ _⟩
 case round=>
  obtain⟨k,hk,rfl,HO,HB⟩:=hrel;have hsz:=HB.o.size;have gZ:=QF (λx:Ob=>x.st==1&&p x) L k;by_cases hlt:k<aA L
  ·obtain⟨b,o,rfl,hb,d0,d1,d2,d3,d4,d5⟩:=xw (HS.o.below HB.o) hlt;have HF:=η (QG (λx:Ob=>x.st==1&&p x) hlt);cases h1:(L[k].st==1)
   ·have hF:(L.take (k+1)).filter (λx=>x.st==1&&p x)=(L.take k).filter (λx=>x.st==1&&p x):=by rw [HF.o,h1];simp
    have jq:=HO.o;rw [<-hF] at jq;have cF:=η jq;go_wp2_with fail
    go_roundw
    case rel=>exact⟨k+1,by omega,by go_num,cF.o.alloc _,HB.o.alloc hsz _⟩
    case measure=>simp [ag];omega
   cases h2:p L[k]
   ·have hF:(L.take (k+1)).filter (λx=>x.st==1&&p x)=(L.take k).filter (λx=>x.st==1&&p x):=by rw [HF.o,h1,h2];simp
    have jq:=HO.o;rw [<-hF] at jq;have cF:=η jq;have uP:Hid (∀W:aJ,aQ aM 174 #[L[k].val] W λe w'=>e=aT (bK aP)/\aa W.heap.size W w'):=λW=>by have:=HP.o L[k] W;rw [h2] at this;exact this
    go_wp2_with fail
    refine(uP.o _).mono ?_;rintro e w3 ⟨rfl,hb3⟩;have af:Hid (aa w1.heap.size w1 w3):=(HB.o.alloc hsz _).trans (hb3.mono (by simp;omega));have hg3:wr.grownBy w3 aB:=⟨hb3.os,hb3.tape,hb3.output,by have:=hb3.size;simp at this;omega,λi hi _=>(hb3.block i (by simp;omega)).trans (fL _ _ hi)⟩;have cD:=η (cF.o.kept hg3 (by cases (eF _)<;>simp));go_wp2_with fail
    go_roundw
    case rel=>exact⟨k+1,by omega,by go_num,cD,af⟩
    case measure=>simp [ag];omega
   have hF:(L.take (k+1)).filter (λx=>x.st==1&&p x)=(L.take k).filter (λx=>x.st==1&&p x)++ [L[k]]:=by rw [HF.o,h1,h2];simp
   have jR:=η hF;have uP:Hid (∀W:aJ,aQ aM 174 #[L[k].val] W λe w'=>e=aT (bK aO)/\aa W.heap.size W w'):=λW=>by have:=HP.o L[k] W;rw [h2] at this;exact this
   generalize (L.take k).filter (λx=>x.st==1&&p x)=ys at*;go_wp2_with fail
   refine(uP.o _).mono ?_;rintro e w3 ⟨rfl,hb3⟩;have af:Hid (aa w1.heap.size w1 w3):=(HB.o.alloc hsz _).trans (hb3.mono (by simp;omega));have hz3:=hb3.size;simp at hz3;have hg3:wr.grownBy w3 aB:=⟨hb3.os,hb3.tape,hb3.output,by omega,λi hi _=>(hb3.block i (by simp;omega)).trans (fL _ _ hi)⟩;have cD:=η (HO.o.kept hg3 (by cases (eF _)<;>simp));have hc:=λj=>(hb3.cell (p:=⟨wr.heap.size,j,aB⟩) (by simp)).trans (cM _ _ _ j rfl)
   have e0:=hc 0;have e1:=hc 1;have e2:=hc 2;have e3:=hc 3;have e4:=hc 4;have e5:=hc 5;simp at e0 e1 e2 e3 e4 e5;go_wp2_with (at_builtin;refine jC _ rfl _ _ 56 rfl w1.heap.size 59 i0 _ 6 48 He bu hz0 fw hz2 rfl (by decide) _ (aA ys) (fN ys) rfl (cD.o.alloc _) ⟨w3.heap.size,0,aB⟩ 1 1 L[k].cells rfl rfl ?c1 ?c2 ?c3 ?c4 ?c5 ?_)
   case c1=>exact dS _ _ #[_,_,_,_,_,_] rfl
   case c2=>intro u hu;simp [Ob.cells] at hu;rcases hu with rfl|rfl|rfl|rfl|rfl|rfl<;>rfl
   case c3=>simp only [bO];omega
   case c4=>omega
   case c5=>simp;omega
   intro v' w4 hown1 dK _;have dY:Hid (w4.ownsRow w1.heap.size 59 6 v' (aA ((L.take (k+1)).filter λx=>x.st==1&&p x)) (fN ((L.take (k+1)).filter λx=>x.st==1&&p x))):=by show kF _ _ _ _ _ _ _;rw [jR.o,Nj,cN,uT];exact hown1
   have py:Hid (aa w1.heap.size w1 w4):=(af.o.alloc (by omega) _).grown dK (by simp;omega) (λj hj=>eU cD.o j hj);go_wp2_with fail
   go_roundw
   case rel=>exact⟨k+1,by omega,by go_num,dY,py⟩
   case measure=>simp [ag];omega
  obtain rfl:k=aA L:=by omega
  have hO:=HO.o;rw [cU] at hO;have dG:=η hO;go_wp2_with fail
  go_ret;refine⟨_,rfl, ?_,aR.o.trans (HB.o.mono hz1)⟩;exact iD dG.o hz1
theorem aIx(L:List Ob)(p:Ob->Bool)(v:aN)(bs base:Nat)(w:aJ)(h:fR w bs base v L)(hl:aA L<=1000000)
 (hp:∀(x:Ob) (W:aJ),aQ aM 144 #[x.val] W λe w'=>e=aT (bK (p x))/\aa W.heap.size W w'):
 aQ aM 143 #[bD (aC ⟨bs,0,aB⟩),.func (.func 144) #[] #[]] w (CT w (L.filter λx=>x.st==1&&p x)):=by
 have HH:=η h;have HP:=η hp;obtain⟨i0,bu,hz0,fw,hz2⟩:=dP Kt;go_enter aAo,aBb
 go_wp2_with fail
 refine(Nk L v bs base _ HH.o hl).mono ?_;rintro e w1 ⟨v1,rfl,eT,hb1⟩;obtain⟨A1,c1,rfl⟩:=bL eT;have HS:=η (aW.cB eT);have aR:=η hb1;have hz1:=hb1.size;go_wp2_with fail
 go_loopw [5,7,11] (λu _ i wr=>∃k:Nat,k<=aA L/\i=aG aF k/\Hid (wr.ownsRow w1.heap.size 59 6 u (aA ((L.take k).filter λx=>x.st==1&&p x)) (fN ((L.take k).filter λx=>x.st==1&&p x)))/\Hid (aa w1.heap.size w1 wr)) (λ_ _ i _=>aA L-(ag i).toNat)
 case atStart=>exact⟨0,bM _,rfl,⟨by simp [fN],aS ⟨rfl,rfl⟩⟩,aX _ _⟩
 case round=>
  obtain⟨k,hk,rfl,HO,HB⟩:=hrel;have hsz:=HB.o.size;have gZ:=QF (λx:Ob=>x.st==1&&p x) L k;by_cases hlt:k<aA L
  ·obtain⟨b,o,rfl,hb,d0,d1,d2,d3,d4,d5⟩:=xw (HS.o.below HB.o) hlt;have HF:=η (QG (λx:Ob=>x.st==1&&p x) hlt);cases h1:(L[k].st==1)
   ·have hF:(L.take (k+1)).filter (λx=>x.st==1&&p x)=(L.take k).filter (λx=>x.st==1&&p x):=by rw [HF.o,h1];simp
    have jq:=HO.o;rw [<-hF] at jq;have cF:=η jq;go_wp2_with fail
    go_roundw
    case rel=>exact⟨k+1,by omega,by go_num,cF.o.alloc _,HB.o.alloc hsz _⟩
    case measure=>simp [ag];omega
   cases h2:p L[k]
   ·have hF:(L.take (k+1)).filter (λx=>x.st==1&&p x)=(L.take k).filter (λx=>x.st==1&&p x):=by rw [HF.o,h1,h2];simp
    have jq:=HO.o;rw [<-hF] at jq;have cF:=η jq;have uP:Hid (∀W:aJ,aQ aM 144 #[L[k].val] W λe w'=>e=aT (bK aP)/\aa W.heap.size W w'):=λW=>by have:=HP.o L[k] W;rw [h2] at this;exact this
    go_wp2_with fail
    refine(uP.o _).mono ?_;rintro e w3 ⟨rfl,hb3⟩;have af:Hid (aa w1.heap.size w1 w3):=(HB.o.alloc hsz _).trans (hb3.mono (by simp;omega));have hg3:wr.grownBy w3 aB:=⟨hb3.os,hb3.tape,hb3.output,by have:=hb3.size;simp at this;omega,λi hi _=>(hb3.block i (by simp;omega)).trans (fL _ _ hi)⟩;have cD:=η (cF.o.kept hg3 (by cases (eF _)<;>simp));go_wp2_with fail
    go_roundw
    case rel=>exact⟨k+1,by omega,by go_num,cD,af⟩
    case measure=>simp [ag];omega
   have hF:(L.take (k+1)).filter (λx=>x.st==1&&p x)=(L.take k).filter (λx=>x.st==1&&p x)++ [L[k]]:=by rw [HF.o,h1,h2];simp
   have jR:=η hF;have uP:Hid (∀W:aJ,aQ aM 144 #[L[k].val] W λe w'=>e=aT (bK aO)/\aa W.heap.size W w'):=λW=>by have:=HP.o L[k] W;rw [h2] at this;exact this
   generalize (L.take k).filter (λx=>x.st==1&&p x)=ys at*;go_wp2_with fail
   refine(uP.o _).mono ?_;rintro e w3 ⟨rfl,hb3⟩;have af:Hid (aa w1.heap.size w1 w3):=(HB.o.alloc hsz _).trans (hb3.mono (by simp;omega));have hz3:=hb3.size;simp at hz3;have hg3:wr.grownBy w3 aB:=⟨hb3.os,hb3.tape,hb3.output,by omega,λi hi _=>(hb3.block i (by simp;omega)).trans (fL _ _ hi)⟩;have cD:=η (HO.o.kept hg3 (by cases (eF _)<;>simp));have hc:=λj=>(hb3.cell (p:=⟨wr.heap.size,j,aB⟩) (by simp)).trans (cM _ _ _ j rfl)
   have e0:=hc 0;have e1:=hc 1;have e2:=hc 2;have e3:=hc 3;have e4:=hc 4;have e5:=hc 5;simp at e0 e1 e2 e3 e4 e5;go_wp2_with (at_builtin;refine jC _ rfl _ _ 56 rfl w1.heap.size 59 i0 _ 6 48 He bu hz0 fw hz2 rfl (by decide) _ (aA ys) (fN ys) rfl (cD.o.alloc _) ⟨w3.heap.size,0,aB⟩ 1 1 L[k].cells rfl rfl ?c1 ?c2 ?c3 ?c4 ?c5 ?_)
   case c1=>exact dS _ _ #[_,_,_,_,_,_] rfl
   case c2=>intro u hu;simp [Ob.cells] at hu;rcases hu with rfl|rfl|rfl|rfl|rfl|rfl<;>rfl
   case c3=>simp only [bO];omega
   case c4=>omega
   case c5=>simp;omega
   intro v' w4 hown1 dK _;have dY:Hid (w4.ownsRow w1.heap.size 59 6 v' (aA ((L.take (k+1)).filter λx=>x.st==1&&p x)) (fN ((L.take (k+1)).filter λx=>x.st==1&&p x))):=by show kF _ _ _ _ _ _ _;rw [jR.o,Nj,cN,uT];exact hown1
   have py:Hid (aa w1.heap.size w1 w4):=(af.o.alloc (by omega) _).grown dK (by simp;omega) (λj hj=>eU cD.o j hj);go_wp2_with fail
   go_roundw
   case rel=>exact⟨k+1,by omega,by go_num,dY,py⟩
   case measure=>simp [ag];omega
  obtain rfl:k=aA L:=by omega
  have hO:=HO.o;rw [cU] at hO;have dG:=η hO;go_wp2_with fail
  go_ret;refine⟨_,rfl, ?_,aR.o.trans (HB.o.mono hz1)⟩;exact iD dG.o hz1
theorem aIb(L:List Ob)(v:aN)(bs base:Nat)(w:aJ)(h:fR w bs base v L)(hl:aA L<=1000000):
 aQ aM 116 #[bD (aC ⟨bs,0,aB⟩)] w (CT w (L.filter λx=>x.st==1&&(λx=>decide (0<x.az)) x)):=by
 have HC:=η (aIy L (λx=>decide (0<x.az)) v bs base w h hl aEx);go_enter func116,ntmps116
 go_wp2_with fail
 refine HC.o.mono ?_;rintro e w1 ⟨v1,rfl,eT,hb1⟩;have cF:=η eT;have aR:=η hb1;go_wp2_with fail
 go_ret;exact⟨v1,rfl,cF.o,aR.o⟩
theorem aIZ(L:List Ob)(v:aN)(bs base:Nat)(w:aJ)(h:fR w bs base v L)(hl:aA L<=1000000):
 aQ aM 73 #[bD (aC ⟨bs,0,aB⟩)] w (CT w (L.filter λx=>x.st==1&&(λx=>decide (x.az<0)) x)):=by
 have HC:=η (aIx L (λx=>decide (x.az<0)) v bs base w h hl aDw);go_enter func73,ntmps73
 go_wp2_with fail
 refine HC.o.mono ?_;rintro e w1 ⟨v1,rfl,eT,hb1⟩;have cF:=η eT;have aR:=η hb1;go_wp2_with fail
 go_ret;exact⟨v1,rfl,cF.o,aR.o⟩
def a9I(w:aJ)(L:List Ob)(e:dX)(w':aJ):Prop:=∃bc v,e=aT (bD (aC ⟨bc,0,aB⟩))/\fR w' bc w.heap.size v L/\w.heap.size<=bc/\aa w.heap.size w w'
theorem aIa(L:List Ob)(v:aN)(bs base:Nat)(w:aJ)(h:fR w bs base v L)(hl:aA L<=1000000):
 aQ aM 94 #[bD (aC ⟨bs,0,aB⟩)] w (a9I w L):=by
 have c0:=h.c0;have HO:=η h.own;go_enter func94,ntmps94
 go_wp2_with fail
 refine(a5z L v base _ HO.o hl).mono ?_;rintro e w1 ⟨v1,rfl,eT,hb1⟩;have cF:=η eT;have aR:=η hb1;have hz:=hb1.size;obtain⟨A1,c1,rfl⟩:=bL eT;go_wp2_with fail
 go_ret;exact⟨w1.heap.size,_,rfl,⟨cQ _ _,cF.o.alloc _⟩,hz,aR.o.alloc hz _⟩
theorem DL(b off j:Nat):(⟨b,off,aB⟩:ai).add j=⟨b,off+j,aB⟩:=by grind [Addr.add]
theorem yu {w:aJ} {base:Nat} {e:bZ} {size n c:Nat} {A:Option ai} {xs:List aN}(h:w.ownsRow base e size (aH A n c) n xs):A=aB->n=0:=by
 rintro rfl;rcases h.2 with⟨_,h0⟩|⟨g,cap,cur,hv,_⟩
 ·exact h0
 grind
def pg(E:bZ)(k n:Nat)(xs:List aN)(w:aJ)(e:dX)(w':aJ):Prop:=∃v',e=aT v'/\w'.ownsRow w.heap.size E k v' n xs/\aa w.heap.size w w'
theorem Na:(aM.info? 2).map (λi=>(i.zero,i.size,i.bytes))=aC (aC (aG aF 0),1,8):=by kernel_rfl
theorem aE8(n:Nat)(xs:List aN)(A:Option ai)(c:Nat)(w:aJ)(hs:aW w w.heap.size A xs)(nK:aA xs=n*1)(hnil:A=aB->n=0)(h1:∀u∈xs,u.oneCell'=aO)(hl:n<=100000):
 aQ aM 158 #[aH A n c] w (pg 2 1 n xs w):=by
 obtain⟨i0,bu,hz0,hz1,hz2⟩:=dP Na;have hq:=E9 mX;cases A with
 |none=>
  obtain rfl:=hnil rfl;obtain rfl:xs= []:=nU (by omega);go_enter func158,ntmps158
  go_wp2
  go_ret;exact⟨_,rfl,gG _ _ _ _,aX _ _⟩
 |some p=>
  have HC:Hid (∀j u,xs[j]? =aC u->∀o:Obj,(w.alloc o).cell? (p.add j)=aC u):=η (λj u hu o=>by obtain⟨b,off,e,hb,hc⟩:=hs j u hu;obtain rfl:=pH e;rw [DL];exact(qp _ _ _ hb).trans hc);have HL:=η nK;have H1:=η h1;go_enter func158,ntmps158
  go_wp2_with (at_builtin;refine jC _ rfl _ _ 53 rfl w.heap.size 2 i0 _ 1 8 mX bu hz0 hz1 hz2 rfl (by decide) _ 0 [] rfl ?c0i64 p n c xs rfl HL ?c1i64 H1 ?c3i64 ?c4i64 ?c5i64 ?_)
  case c0i64=>exact E5 w _ 1
  case c1i64=>exact λj u hu=>HC j u hu _
  case c3i64=>simp only [bO];omega
  case c4i64=>omega
  case c5i64=>simp
  intro v' w1 hown1 dK _;have cF:=η hown1;have lQ:=η dK;go_wp2
  go_ret;refine⟨_,rfl,by simpa using cF.o,σ.grown lQ.o (by simp) ?_⟩;grind [eF]
theorem aE4(n:Nat)(xs:List aN)(v:aN)(base:Nat)(w:aJ)(hown:w.ownsRow base 2 1 v n xs)(h1:∀u∈xs,u.oneCell'=aO)(hl:n<=100000):
 aQ aM 158 #[v] w (pg 2 1 n xs w):=by
 obtain⟨A,c,hv⟩:=bL hown;subst hv;exact aE8 n xs A c w (aW.cB hown) hown.1 (yu hown) h1 hl
theorem aHK:(aM.info? 3).map (λi=>(i.zero,i.size,i.bytes))=aC (aC (aG aF 0),1,8):=by kernel_rfl
theorem aE9(n:Nat)(xs:List aN)(A:Option ai)(c:Nat)(w:aJ)(hs:aW w w.heap.size A xs)(nK:aA xs=n*1)(hnil:A=aB->n=0)(h1:∀u∈xs,u.oneCell'=aO)(hl:n<=100000):
 aQ aM 40 #[aH A n c] w (pg 3 1 n xs w):=by
 obtain⟨i0,bu,hz0,hz1,hz2⟩:=dP aHK;have hq:=E9 yU;cases A with
 |none=>
  obtain rfl:=hnil rfl;obtain rfl:xs= []:=nU (by omega);go_enter func40,aBx
  go_wp2
  go_ret;exact⟨_,rfl,gG _ _ _ _,aX _ _⟩
 |some p=>
  have HC:Hid (∀j u,xs[j]? =aC u->∀o:Obj,(w.alloc o).cell? (p.add j)=aC u):=η (λj u hu o=>by obtain⟨b,off,e,hb,hc⟩:=hs j u hu;obtain rfl:=pH e;rw [DL];exact(qp _ _ _ hb).trans hc);have HL:=η nK;have H1:=η h1;go_enter func40,aBx
  go_wp2_with (at_builtin;refine jC _ rfl _ _ 46 rfl w.heap.size 3 i0 _ 1 8 yU bu hz0 hz1 hz2 rfl (by decide) _ 0 [] rfl ?c0int p n c xs rfl HL ?c1int H1 ?c3int ?c4int ?c5int ?_)
  case c0int=>exact E5 w _ 1
  case c1int=>exact λj u hu=>HC j u hu _
  case c3int=>simp only [bO];omega
  case c4int=>omega
  case c5int=>simp
  intro v' w1 hown1 dK _;have cF:=η hown1;have lQ:=η dK;go_wp2
  go_ret;refine⟨_,rfl,by simpa using cF.o,σ.grown lQ.o (by simp) ?_⟩;grind [eF]
theorem aHI:(aM.info? 45).map (λi=>(i.zero,i.size,i.bytes))=aC (aC (bP #[aG aF 0,aG aF 0,aG aF 0,aG aF 0,aG aF 0]),5,40):=by kernel_rfl
theorem a2S(n:Nat)(xs:List aN)(A:Option ai)(c:Nat)(w:aJ)(hs:aW w w.heap.size A xs)(nK:aA xs=n*5)(hnil:A=aB->n=0)(h1:∀u∈xs,u.oneCell'=aO)(hl:n<=100000):
 aQ aM 34 #[aH A n c] w (pg 45 5 n xs w):=by
 obtain⟨i0,bu,hz0,hz1,hz2⟩:=dP aHI;have hq:=E9 underlying35;cases A with
 |none=>
  obtain rfl:=hnil rfl;obtain rfl:xs= []:=nU (by omega);go_enter aBA,aBv
  go_wp2
  go_ret;exact⟨_,rfl,gG _ _ _ _,aX _ _⟩
 |some p=>
  have HC:Hid (∀j u,xs[j]? =aC u->∀o:Obj,(w.alloc o).cell? (p.add j)=aC u):=η (λj u hu o=>by obtain⟨b,off,e,hb,hc⟩:=hs j u hu;obtain rfl:=pH e;rw [DL];exact(qp _ _ _ hb).trans hc);have HL:=η nK;have H1:=η h1;go_enter aBA,aBv
  go_wp2_with (at_builtin;refine jC _ rfl _ _ 35 rfl w.heap.size 45 i0 _ 5 40 underlying35 bu hz0 hz1 hz2 rfl (by decide) _ 0 [] rfl ?c0ev p n c xs rfl HL ?c1ev H1 ?c3ev ?c4ev ?c5ev ?_)
  case c0ev=>exact E5 w _ 5
  case c1ev=>exact λj u hu=>HC j u hu _
  case c3ev=>simp only [bO];omega
  case c4ev=>omega
  case c5ev=>simp
  intro v' w1 hown1 dK _;have cF:=η hown1;have lQ:=η dK;go_wp2
  go_ret;refine⟨_,rfl,by simpa using cF.o,σ.grown lQ.o (by simp) ?_⟩;grind [eF]
theorem aE3(n:Nat)(xs:List aN)(v:aN)(base:Nat)(w:aJ)(hown:w.ownsRow base 45 5 v n xs)(h1:∀u∈xs,u.oneCell'=aO)(hl:n<=100000):
 aQ aM 34 #[v] w (pg 45 5 n xs w):=by
 obtain⟨A,c,hv⟩:=bL hown;subst hv;exact a2S n xs A c w (aW.cB hown) hown.1 (yu hown) h1 hl
theorem XP:(aM.info? 41).map (λi=>(i.zero,i.size,i.bytes))=aC (aC (bP #[aG aF 0,aG aF 0,aG aF 0,aG aF 0,aG aF 0]),5,40):=by kernel_rfl
theorem aE5(n:Nat)(xs:List aN)(A:Option ai)(c:Nat)(w:aJ)(hs:aW w w.heap.size A xs)(nK:aA xs=n*5)(hnil:A=aB->n=0)(h1:∀u∈xs,u.oneCell'=aO)(hl:n<=100000):
 aQ aM 157 #[aH A n c] w (pg 41 5 n xs w):=by
 obtain⟨i0,bu,hz0,hz1,hz2⟩:=dP XP;have hq:=E9 Pa;cases A with
 |none=>
  obtain rfl:=hnil rfl;obtain rfl:xs= []:=nU (by omega);go_enter aAp,aBc
  go_wp2
  go_ret;exact⟨_,rfl,gG _ _ _ _,aX _ _⟩
 |some p=>
  have HC:Hid (∀j u,xs[j]? =aC u->∀o:Obj,(w.alloc o).cell? (p.add j)=aC u):=η (λj u hu o=>by obtain⟨b,off,e,hb,hc⟩:=hs j u hu;obtain rfl:=pH e;rw [DL];exact(qp _ _ _ hb).trans hc);have HL:=η nK;have H1:=η h1;go_enter aAp,aBc
  go_wp2_with (at_builtin;refine jC _ rfl _ _ 132 rfl w.heap.size 41 i0 _ 5 40 Pa bu hz0 hz1 hz2 rfl (by decide) _ 0 [] rfl ?c0bid p n c xs rfl HL ?c1bid H1 ?c3bid ?c4bid ?c5bid ?_)
  case c0bid=>exact E5 w _ 5
  case c1bid=>exact λj u hu=>HC j u hu _
  case c3bid=>simp only [bO];omega
  case c4bid=>omega
  case c5bid=>simp
  intro v' w1 hown1 dK _;have cF:=η hown1;have lQ:=η dK;go_wp2
  go_ret;refine⟨_,rfl,by simpa using cF.o,σ.grown lQ.o (by simp) ?_⟩;grind [eF]
theorem a2Q(n:Nat)(xs:List aN)(v:aN)(base:Nat)(w:aJ)(hown:w.ownsRow base 41 5 v n xs)(h1:∀u∈xs,u.oneCell'=aO)(hl:n<=100000):
 aQ aM 157 #[v] w (pg 41 5 n xs w):=by
 obtain⟨A,c,hv⟩:=bL hown;subst hv;exact aE5 n xs A c w (aW.cB hown) hown.1 (yu hown) h1 hl
theorem XQ:(aM.info? 188).map (λi=>(i.zero,i.size,i.bytes))=aC (aC (bP #[aG aF 0,aG aF 0,aG aF 0,aG aF 0,aG aF 0]),5,40):=by kernel_rfl
theorem aE7(n:Nat)(xs:List aN)(A:Option ai)(c:Nat)(w:aJ)(hs:aW w w.heap.size A xs)(nK:aA xs=n*5)(hnil:A=aB->n=0)(h1:∀u∈xs,u.oneCell'=aO)(hl:n<=100000):
 aQ aM 181 #[aH A n c] w (pg 188 5 n xs w):=by
 obtain⟨i0,bu,hz0,hz1,hz2⟩:=dP XQ;have hq:=E9 Pb;cases A with
 |none=>
  obtain rfl:=hnil rfl;obtain rfl:xs= []:=nU (by omega);go_enter aAu,aBh
  go_wp2
  go_ret;exact⟨_,rfl,gG _ _ _ _,aX _ _⟩
 |some p=>
  have HC:Hid (∀j u,xs[j]? =aC u->∀o:Obj,(w.alloc o).cell? (p.add j)=aC u):=η (λj u hu o=>by obtain⟨b,off,e,hb,hc⟩:=hs j u hu;obtain rfl:=pH e;rw [DL];exact(qp _ _ _ hb).trans hc);have HL:=η nK;have H1:=η h1;go_enter aAu,aBh
  go_wp2_with (at_builtin;refine jC _ rfl _ _ 185 rfl w.heap.size 188 i0 _ 5 40 Pb bu hz0 hz1 hz2 rfl (by decide) _ 0 [] rfl ?c0hrow p n c xs rfl HL ?c1hrow H1 ?c3hrow ?c4hrow ?c5hrow ?_)
  case c0hrow=>exact E5 w _ 5
  case c1hrow=>exact λj u hu=>HC j u hu _
  case c3hrow=>simp only [bO];omega
  case c4hrow=>omega
  case c5hrow=>simp
  intro v' w1 hown1 dK _;have cF:=η hown1;have lQ:=η dK;go_wp2
  go_ret;refine⟨_,rfl,by simpa using cF.o,σ.grown lQ.o (by simp) ?_⟩;grind [eF]
theorem a2R(n:Nat)(xs:List aN)(v:aN)(base:Nat)(w:aJ)(hown:w.ownsRow base 188 5 v n xs)(h1:∀u∈xs,u.oneCell'=aO)(hl:n<=100000):
 aQ aM 181 #[v] w (pg 188 5 n xs w):=by
 obtain⟨A,c,hv⟩:=bL hown;subst hv;exact aE7 n xs A c w (aW.cB hown) hown.1 (yu hown) h1 hl
theorem aHL:(aM.info? 67).map (λi=>(i.zero,i.size,i.bytes))=aC (aC (bP #[aG aF 0,aG aF 0]),2,16):=by kernel_rfl
theorem aEA(n:Nat)(xs:List aN)(A:Option ai)(c:Nat)(w:aJ)(hs:aW w w.heap.size A xs)(nK:aA xs=n*2)(hnil:A=aB->n=0)(h1:∀u∈xs,u.oneCell'=aO)(hl:n<=100000):
 aQ aM 81 #[aH A n c] w (pg 67 2 n xs w):=by
 obtain⟨i0,bu,hz0,hz1,hz2⟩:=dP aHL;have hq:=E9 underlying22;cases A with
 |none=>
  obtain rfl:=hnil rfl;obtain rfl:xs= []:=nU (by omega);go_enter aBI,aC5
  go_wp2
  go_ret;exact⟨_,rfl,gG _ _ _ _,aX _ _⟩
 |some p=>
  have HC:Hid (∀j u,xs[j]? =aC u->∀o:Obj,(w.alloc o).cell? (p.add j)=aC u):=η (λj u hu o=>by obtain⟨b,off,e,hb,hc⟩:=hs j u hu;obtain rfl:=pH e;rw [DL];exact(qp _ _ _ hb).trans hc);have HL:=η nK;have H1:=η h1;go_enter aBI,aC5
  go_wp2_with (at_builtin;refine jC _ rfl _ _ 22 rfl w.heap.size 67 i0 _ 2 16 underlying22 bu hz0 hz1 hz2 rfl (by decide) _ 0 [] rfl ?c0mem p n c xs rfl HL ?c1mem H1 ?c3mem ?c4mem ?c5mem ?_)
  case c0mem=>exact E5 w _ 2
  case c1mem=>exact λj u hu=>HC j u hu _
  case c3mem=>simp only [bO];omega
  case c4mem=>omega
  case c5mem=>simp
  intro v' w1 hown1 dK _;have cF:=η hown1;have lQ:=η dK;go_wp2
  go_ret;refine⟨_,rfl,by simpa using cF.o,σ.grown lQ.o (by simp) ?_⟩;grind [eF]
theorem aHM:(aM.info? 69).map (λi=>(i.zero,i.size,i.bytes))=aC (aC (bP #[aG aF 0,aG aF 0]),2,16):=by kernel_rfl
theorem aEB(n:Nat)(xs:List aN)(A:Option ai)(c:Nat)(w:aJ)(hs:aW w w.heap.size A xs)(nK:aA xs=n*2)(hnil:A=aB->n=0)(h1:∀u∈xs,u.oneCell'=aO)(hl:n<=100000):
 aQ aM 82 #[aH A n c] w (pg 69 2 n xs w):=by
 obtain⟨i0,bu,hz0,hz1,hz2⟩:=dP aHM;have hq:=E9 underlying23;cases A with
 |none=>
  obtain rfl:=hnil rfl;obtain rfl:xs= []:=nU (by omega);go_enter aBJ,aC6
  go_wp2
  go_ret;exact⟨_,rfl,gG _ _ _ _,aX _ _⟩
 |some p=>
  have HC:Hid (∀j u,xs[j]? =aC u->∀o:Obj,(w.alloc o).cell? (p.add j)=aC u):=η (λj u hu o=>by obtain⟨b,off,e,hb,hc⟩:=hs j u hu;obtain rfl:=pH e;rw [DL];exact(qp _ _ _ hb).trans hc);have HL:=η nK;have H1:=η h1;go_enter aBJ,aC6
  go_wp2_with (at_builtin;refine jC _ rfl _ _ 23 rfl w.heap.size 69 i0 _ 2 16 underlying23 bu hz0 hz1 hz2 rfl (by decide) _ 0 [] rfl ?c0sec p n c xs rfl HL ?c1sec H1 ?c3sec ?c4sec ?c5sec ?_)
  case c0sec=>exact E5 w _ 2
  case c1sec=>exact λj u hu=>HC j u hu _
  case c3sec=>simp only [bO];omega
  case c4sec=>omega
  case c5sec=>simp
  intro v' w1 hown1 dK _;have cF:=η hown1;have lQ:=η dK;go_wp2
  go_ret;refine⟨_,rfl,by simpa using cF.o,σ.grown lQ.o (by simp) ?_⟩;grind [eF]
theorem aHH:(aM.info? 71).map (λi=>(i.zero,i.size,i.bytes))=aC (aC (bP #[aG aF 0,aG aF 0,aG aF 0,aG aF 0]),4,32):=by kernel_rfl
theorem aE6(n:Nat)(xs:List aN)(A:Option ai)(c:Nat)(w:aJ)(hs:aW w w.heap.size A xs)(nK:aA xs=n*4)(hnil:A=aB->n=0)(h1:∀u∈xs,u.oneCell'=aO)(hl:n<=100000):
 aQ aM 83 #[aH A n c] w (pg 71 4 n xs w):=by
 obtain⟨i0,bu,hz0,hz1,hz2⟩:=dP aHH;have hq:=E9 underlying24;cases A with
 |none=>
  obtain rfl:=hnil rfl;obtain rfl:xs= []:=nU (by omega);go_enter aBK,aC7
  go_wp2
  go_ret;exact⟨_,rfl,gG _ _ _ _,aX _ _⟩
 |some p=>
  have HC:Hid (∀j u,xs[j]? =aC u->∀o:Obj,(w.alloc o).cell? (p.add j)=aC u):=η (λj u hu o=>by obtain⟨b,off,e,hb,hc⟩:=hs j u hu;obtain rfl:=pH e;rw [DL];exact(qp _ _ _ hb).trans hc);have HL:=η nK;have H1:=η h1;go_enter aBK,aC7
  go_wp2_with (at_builtin;refine jC _ rfl _ _ 24 rfl w.heap.size 71 i0 _ 4 32 underlying24 bu hz0 hz1 hz2 rfl (by decide) _ 0 [] rfl ?c0cyc p n c xs rfl HL ?c1cyc H1 ?c3cyc ?c4cyc ?c5cyc ?_)
  case c0cyc=>exact E5 w _ 4
  case c1cyc=>exact λj u hu=>HC j u hu _
  case c3cyc=>simp only [bO];omega
  case c4cyc=>omega
  case c5cyc=>simp
  intro v' w1 hown1 dK _;have cF:=η hown1;have lQ:=η dK;go_wp2
  go_ret;refine⟨_,rfl,by simpa using cF.o,σ.grown lQ.o (by simp) ?_⟩;grind [eF]
def aAO(M A:Nat)(l:List Int)(po:Int)(w:aJ)(e:dX)(w':aJ):Prop:=
 ∃nb v,e=aT (π nb)/\fK w' nb M A v l po/\w.heap.size<=nb/\(∀k,v.ownBlock=aC k->w.heap.size<=k)/\β w w'
theorem a1s(M A:Nat)(v:aN)(l:List Int)(po:Int)(bb:Nat)(w:aJ)(h:fK w bb M A v l po):
 aQ aM 98 #[π bb] w (aAO M A l po w):=by
 have hM:=h.hM;have hA:=h.hA;have nH:=h.len;have hl:aA l<=100000:=by rw [nH];exact bz (yT hA (show 6+3*M<=54 by omega)) (by omega)
 have c0:=h.c0;have c1:=h.c1;have c2:=h.c2;have c3:=h.c3;have aY:Hid (β w (w.alloc (aK #[ν (M:Int),ν (A:Int),v,ν po] 216))):=η σ;have HC:=η (aE4 (aA l) _ v 0 _ (h.below aY.o).own (λu hu=>by obtain⟨y,_,rfl⟩:=di.1 hu;rfl) (by omega));have c2':=(h.below aY.o).c2;have aGn:=η nH;obtain⟨Av,cv,hv⟩:=bL h.own;subst hv;clear h nH;have b0:(w.alloc (aK #[ν (M:Int),ν (A:Int),aH Av (aA l) cv,ν po] 216)).heap[w.heap.size]? =aC (aK #[ν (M:Int),ν (A:Int),aH Av (aA l) cv,ν po] 216 (0,0)):=cQ w _;go_enter func98,ntmps98
 go_wp2_with (go_at_call 158;refine HC.o.mono ?_)
 rintro e w2 ⟨v2,rfl,eY,hb2⟩;have hb:w2.heap[w.heap.size]? =aC (aK #[ν (M:Int),ν (A:Int),aH Av (aA l) cv,ν po] 216 (0,0)):=(hb2.block _ (by simp)).trans b0;have tV:∀k,v2.ownBlock=aC k->w.heap.size+1<=k:=λk hk=>by have:=eU eY k hk;simpa using this
 have aV:Hid (β w w2):=τ aY hb2;have dG:=η eY;have ZJ:=η tV;have z2:w2.cell? ⟨w.heap.size,2,aB⟩=aC (aH Av (aA l) cv):=ρ hb;have f2:w2.frozen? ⟨w.heap.size,2,aB⟩=aP:=by grind [iO]
 have HB:=η hb;obtain⟨A2,Ht,hv2⟩:=bL eY;subst hv2;go_wp2
 go_ret;refine⟨w.heap.size,aH A2 (aA l) Ht,rfl,⟨?_, ?_,aGn.o,hM,hA⟩,aZ _,λk hk=>by have:=ZJ.o k hk;omega,aV.o.setCell (p:=⟨w.heap.size,2,aB⟩) (aZ _) _⟩
 ·exact(lz HB.o 2 _).trans rfl
 exact iD (kP dG.o (λe=>by have:=ZJ.o _ e;simp at this;omega) _) (bM _)
def E7(M:Nat)(l:List Int)(x:Nat):List Int:=(l.drop (x*(6+3*M))).take (6+3*M)
theorem aDJ(M A:Nat)(hM:M<=16)(Mm:1<=A)(hA:A<=9)(w:aJ):
 aQ aM 79 #[ν (M:Int),ν (A:Int)] w λe w'=>∃nb v,e=aT (bC #[π nb,ν 0])/\fK w' nb M A v (gP (A*(6+3*M)) 0) 0/\w.heap.size<=nb/\(∀k,v.ownBlock=aC k->w.heap.size<=k)/\β w w':=by
 have CW:=η (λW=>a2E M hM W);obtain⟨u,hu⟩:∃u:Nat,u=6+3*M:=⟨_,rfl⟩;have vy:u<=54:=by omega
 obtain⟨q,hq⟩:∃q:Nat,q=A*u:=⟨_,rfl⟩;have Kd:q<=9*54:=by rw [hq];exact yT hA vy
 have tX:(A:Int)*(u:Int)=(q:Int):=by omega
 have HLEN:Hid ((gP (A*(6+3*M)) (0:Int))=gP q 0):=η (by rw [<-hu,<-hq]);have HQL:Hid (q=A*(6+3*M)):=η (by rw [hq,hu]);rw [<-hu] at CW;rw [HLEN.o];have AL:=Rh q (by omega) w;have hM0:(M:Int)<=16:=by omega
 have hA0:¬(A:Int)<1:=by omega
 have hmap:(gP q (0:Int)).map (aG aF)=gP q (aG aF 0):=List.map_replicate;clear hu hq;go_enter func79,ntmps79
 go_wp2_with (go_at_call 146;refine(CW.o _).mono ?_;rintro e w3 ⟨rfl,rfl⟩)
 go_ret2;have rz:(w.alloc (aK (jh q (aG aF 0)) 2)).heap[w.heap.size]? =aC (aK (jh q (aG aF 0)) 2 (0,0)):=cQ w _;refine⟨w.heap.size+1,aH (aC ⟨w.heap.size,0,aB⟩) q q,rfl,⟨?_, ?_,by rw [BN];exact HQL.o,hM,hA⟩,by omega,λk hk=>by grind [eF],σ.alloc (by simp) _⟩
 ·have:=cQ (w.alloc (aK (jh q (aG aF 0)) 2)) (aK #[ν (M:Int),ν (A:Int),aH (aC ⟨w.heap.size,0,aB⟩) q q,ν 0] 216);grind [DK]
 rw [BN,hmap];refine⟨by simp,aU ⟨w.heap.size,q,jh q (aG aF 0),rfl,bM _, ?_,aZ _,by simp only [bO];omega,by simp,by simp⟩⟩;grind [fL]
def Xa:Int:=9223372036854775807
def pV(a b:Int):Int:=if a<=b then 0 else if aL (a-b) then a-b else Xa
theorem VO(a b:Int)(ha:aL a)(hb:aL b)(w:aJ):aQ aM 86 #[aG aF a,aG aF b] w λe w'=>e=aT (aG aF (pV a b))/\aa w.heap.size w w':=by
 have HS:=η (λW=>SP a b W ha hb);by_cases hab:a<=b
 ·have e:pV a b=0:=by grind [pV]
  rw [e];go_enter ME,MG
  go_wp2_with fail
  go_ret;exact⟨rfl,aX _ _⟩
 by_cases hd:aL (a-b)
 ·have e:pV a b=a-b:=by grind [pV]
  obtain⟨h1,h2⟩:=eH hd;rw [h1,h2] at HS;rw [e];obtain⟨d,hdd⟩:∃d,d=a-b:=⟨_,rfl⟩;rw [<-hdd] at HS ⊢;clear e hd h1 h2 hdd;go_enter ME,MG
  go_wp2_with (go_at_call 148;refine(HS.o _).mono ?_;rintro e w1 ⟨rfl,hb1⟩;have HB:=η hb1;clear hb1)
  go_ret;exact⟨rfl,by rw [<-HB.o];exact aX _ _⟩
 have e:pV a b=Xa:=by grind [pV]
 obtain⟨h1,h2⟩:=gw hd;rw [h1,h2] at HS;rw [e];clear e hd h1 h2;go_enter ME,MG
 go_wp2_with (go_at_call 148;refine(HS.o _).mono ?_;rintro e w1 ⟨rfl,hb1⟩;have HB:=η hb1;clear hb1)
 go_ret;exact⟨rfl,by rw [<-HB.o];exact aX _ _⟩
theorem xM(w:aJ):aQ aM 61 #[] w λe w'=>e=aT (bP #[aG aF 1,aG aF 0])/\aa w.heap.size w w':=by
 go_enter func61,ntmps61
 go_wp2
 refine bodyPost_ret (by simp [results,results61,go_sem];try rfl) rfl ?_;exact⟨rfl,(aX _ _).alloc (aZ _) _⟩
theorem Et(m:Int)(w:aJ):aQ aM 49 #[aG aF m] w λe w'=>e=aT (bP #[aG aF 7,aG aF m])/\aa w.heap.size w w':=by
 go_enter func49,ntmps49
 go_wp2
 refine bodyPost_ret (by simp [results,results49,go_sem];try rfl) rfl ?_;exact⟨rfl,(aX _ _).alloc (aZ _) _⟩
theorem zj(m:Int)(w:aJ):aQ aM 47 #[aG aF m] w λe w'=>e=aT (bP #[aG aF 8,aG aF m])/\aa w.heap.size w w':=by
 go_enter func47,ntmps47
 go_wp2
 refine bodyPost_ret (by simp [results,results47,go_sem];try rfl) rfl ?_;exact⟨rfl,(aX _ _).alloc (aZ _) _⟩
def kf(a:Int):Int:=if a=0 then 288230376151711744 else 274877906944
theorem aEE(a:Int)(w:aJ):aQ aM 106 #[aG aF a] w λe w'=>e=aT (aG aF (kf a))/\w=w':=by
 by_cases h:a=0
 ·subst h;go_enter aAe,aBR
  go_wp2
  go_ret;exact⟨rfl,rfl⟩
 have e:kf a=274877906944:=by grind [kf]
 have hb:(a==0)=aP:=by simpa using h
 rw [e];go_enter aAe,aBR
 go_wp2
 go_ret;exact⟨rfl,rfl⟩
structure Bd where
 s:Int
 m:Int
 c:Int
 q:Int
 p:Int
structure Fi where
 b:Bd
 q:Int
 c:Int
def Bd.cells(x:Bd):List aN:= [aG aF x.s,aG aF x.m,aG aF x.c,aG aF x.q,aG aF x.p]
def Fi.cells(x:Fi):List aN:= [aG aF x.b.s,aG aF x.b.m,aG aF x.b.c,aG aF x.b.q,aG aF x.b.p,aG aF x.q,aG aF x.c]
def nX(l:List Bd):List aN:=l.flatMap Bd.cells
def Ba(l:List Fi):List aN:=l.flatMap Fi.cells
theorem a3M {w:aJ} {B:Nat} {A:Option ai} {l:List Fi}(h:aW w B A (Ba l)) {k:Nat}(hk:k<aA l):
 ∃b o,A=aC ⟨b,o,aB⟩/\b<B/\w.cell? ⟨b,o+k*7,aB⟩=aC (ν l[k].b.s)/\w.cell? ⟨b,o+k*7+1,aB⟩=aC (ν l[k].b.m)/\w.cell? ⟨b,o+k*7+2,aB⟩=aC (ν l[k].b.c)/\w.cell? ⟨b,o+k*7+3,aB⟩=aC (ν l[k].b.q)/\w.cell? ⟨b,o+k*7+4,aB⟩=aC (ν l[k].b.p)/\w.cell? ⟨b,o+k*7+5,aB⟩=aC (ν l[k].q)/\w.cell? ⟨b,o+k*7+6,aB⟩=aC (ν l[k].c):=by
 obtain⟨b,o,e,hb,hc⟩:=h.run (i:=k*7) (y:=ν l[k].b.s) (t:= [ν l[k].b.m,ν l[k].b.c,ν l[k].b.q,ν l[k].b.p,ν l[k].q,ν l[k].c]) (λj u hu=>tT Fi.cells 7 (λ_=>rfl) l k hk j u hu);exact⟨b,o,e,hb,hc 0 _ rfl,hc 1 _ rfl,hc 2 _ rfl,hc 3 _ rfl,hc 4 _ rfl,hc 5 _ rfl,hc 6 _ rfl⟩
def rj(l:List Fi):Int:=l.foldl (λn x=>fV (n+x.c)) 0
theorem aEV(l:List Fi)(x:Fi):rj (l++ [x])=fV (rj l+x.c):=by simp [rj]
theorem aEW(l:List Fi)(A:Option ai)(c:Nat)(w:aJ)(hs:aW w w.heap.size A (Ba l))(hl:aA l<=100000):aQ aM 136 #[aH A (aA l) c] w λe w'=>e=aT (aG aF (rj l))/\aa w.heap.size w w':=by
 have HS:=η hs;have HT:Hid (rj l=rj (l.take (aA l))):=η (by rw [cU]);generalize rj l=R at HT ⊢;go_enter func136,ntmps136
 go_wp2
 go_loopw [3,5,8] (λn _ i wr=>∃k:Nat,k<=aA l/\i=ν (k:Int)/\n=ν (rj (l.take k))/\Hid (β w wr)) (λ_ _ i _=>aA l-(ag i).toNat)
 ·exact⟨0,bM _,rfl,rfl,aX _ _⟩
 ·
  obtain⟨k,hk,rfl,rfl,HB⟩:=hrel;have hsz:=HB.o.size;by_cases hlt:k<aA l
  ·obtain⟨b,o,rfl,hb,e0,e1,e2,e3,e4,e5,e6⟩:=a3M ((HS.o.below HB).mono hsz) hlt;have cG:Hid (rj (l.take (k+1))=fV (rj (l.take k)+l[k].c)):=η (by grind [fH,aEV]);have hkb:(k:Int)<(aA l:Int):=by omega
   generalize l[k]=x at*;generalize rj (l.take k)=n at*;go_wp2
   go_roundw
   ·exact⟨k+1,by omega,by go_num,by rw [cG.o],HB.o.alloc hsz _⟩
   simp [ag];omega
  obtain rfl:k=aA l:=by omega
  go_wp2
  go_ret;exact⟨by rw [HT.o];rfl,HB⟩
section
structure jD(w:aJ)(xb:Nat)(x:ak)(v:aN)(L:List Bd):Prop where
 blk:w.heap[xb]? =aC (aK #[aH x.Am (aA x.ms) x.cm,aH x.As (aA x.ss) x.cs,aH x.Ac (aA x.cy) x.cc,ν x.line,ν x.bW,ν x.lead,ν x.tr,ν x.bT,v] 134 (0,0))
 own:w.ownsRow 0 41 5 v (aA L) (nX L)
section
variable {w w':aJ} {xb:Nat} {x:ak} {v:aN} {L:List Bd}
theorem jD.lt(h:jD w xb x v L):xb<w.heap.size:=(fY.1 h.blk).1
theorem jD.below(h:jD w xb x v L)(hb:aa w.heap.size w w'):jD w' xb x v L:=by have hg:w.grownBy w' aB:=⟨hb.os,hb.tape,hb.output,hb.size,λi hi _=>hb.block i hi⟩;exact⟨(hb.block _ h.lt).trans h.blk,h.own.kept hg (by grind)⟩
theorem jD.c8(h:jD w xb x v L):w.cell? ⟨xb,8,aB⟩=aC v:=bH _ _ _ _ _ (0,0) h.blk
theorem jD.ne(h:jD w xb x v L):v.ownBlock≠aC xb:=by
 rcases h.own.2 with⟨rfl,_⟩|⟨g,cap,cur,rfl,_,hh,_⟩
 ·simp [eF]
 intro e;have e':g=xb:=by grind [eF]
 subst e';rw [h.blk] at hh;grind
end
theorem a1t(L:List Bd):∀u∈nX L,u.oneCell'=aO:=by intro u hu;unfold nX at hu;obtain⟨x,_,hx⟩:=List.mem_flatMap.1 hu;simp [Bd.cells] at hx;rcases hx with rfl|rfl|rfl|rfl|rfl<;>rfl
theorem aMC(x:ak)(v:aN)(L:List Bd)(xb:Nat)(w:aJ)(h:jD w xb x v L)(hl:aA L<=100000):
 aQ aM 193 #[π xb] w (pg 41 5 (aA L) (nX L) w):=by
 have c8:=h.c8;have HC:=η (a2Q (aA L) (nX L) v 0 w h.own (a1t L) hl);obtain⟨A,c,hv⟩:=bL h.own;subst hv;go_enter func193,ntmps193
 go_wp2_with (go_at_call 157;refine HC.o.mono ?_)
 rintro e w2 ⟨v2,rfl,eY,hb2⟩;have HO:=η eY;have HB:=η hb2;go_wp2
 go_ret;exact⟨v2,rfl,HO,HB⟩
theorem aMD(x:ak)(v:aN)(L:List Bd)(xb:Nat)(w:aJ)(h:jD w xb x v L):
 aQ aM 77 #[π xb] w λe w'=>e=aT (ν (aA L:Int))/\w'=w.setCell ⟨xb,8,aB⟩ (aH aB 0 0)/\jD w' xb x (aH aB 0 0) []:=by
 have c8:=h.c8;have f8:w.frozen? ⟨xb,8,aB⟩=aP:=by simp [iO,h.blk]
 have H:=η h;obtain⟨A,c,hv⟩:=bL h.own;subst hv;go_enter func77,ntmps77
 go_wp2
 go_ret;exact⟨rfl,rfl,(lz H.o.blk 8 _).trans rfl,gG _ _ _ _⟩
def aAQ(x:ak)(L:List Bd)(w:aJ)(e:dX)(w':aJ):Prop:=
 ∃nb v,e=aT (π nb)/\jD w' nb x v L/\w.heap.size<=nb/\(∀k,v.ownBlock=aC k->w.heap.size<=k)/\β w w'
theorem aME(x:ak)(v:aN)(L:List Bd)(xb:Nat)(w:aJ)(h:jD w xb x v L)(hl:aA L<=100000):
 aQ aM 95 #[π xb] w (aAQ x L w):=by
 have HC:=η (λW hW=>a2Q (aA L) (nX L) v 0 W (h.below hW).own (a1t L) hl);obtain⟨A,c,hv⟩:=bL h.own;subst hv;have bJ:Hid (∀W,β w W->W.cell? ⟨xb,0,aB⟩=aC (aH x.Am (aA x.ms) x.cm)/\W.cell? ⟨xb,1,aB⟩=aC (aH x.As (aA x.ss) x.cs)/\W.cell? ⟨xb,2,aB⟩=aC (aH x.Ac (aA x.cy) x.cc)/\W.cell? ⟨xb,3,aB⟩=aC (ν x.line)/\W.cell? ⟨xb,4,aB⟩=aC (ν x.bW)/\W.cell? ⟨xb,5,aB⟩=aC (ν x.lead)/\W.cell? ⟨xb,6,aB⟩=aC (ν x.tr)/\W.cell? ⟨xb,7,aB⟩=aC (ν x.bT)/\W.cell? ⟨xb,8,aB⟩=aC (aH A (aA L) c)):=η (by intro W hW;have hb:=(h.below hW).blk;exact⟨ρ hb,ρ hb,ρ hb,ρ hb,ρ hb,ρ hb,ρ hb,ρ hb,ρ hb⟩);go_enter func95,ntmps95
 go_wp2
 have bQ:β w w.drew:=(aX _ _).drew;go_region_held3 (λW=>W.cell? ⟨xb,0,aB⟩=aC (aH x.Am (aA x.ms) x.cm)/\W.cell? ⟨xb,1,aB⟩=aC (aH x.As (aA x.ss) x.cs)/\W.cell? ⟨xb,2,aB⟩=aC (aH x.Ac (aA x.cy) x.cc)/\W.cell? ⟨xb,3,aB⟩=aC (ν x.line)/\W.cell? ⟨xb,4,aB⟩=aC (ν x.bW)/\W.cell? ⟨xb,5,aB⟩=aC (ν x.lead)/\W.cell? ⟨xb,6,aB⟩=aC (ν x.tr)/\W.cell? ⟨xb,7,aB⟩=aC (ν x.bT)/\W.cell? ⟨xb,8,aB⟩=aC (aH A (aA L) c)) (first|(with_reducible exact bJ.o _ bQ)|(with_reducible exact bJ.o _ hb2)|(with_reducible exact bJ.o _ hb3)) ((go_at_call 157;refine(HC.o _ bQ).mono ?_;rintro e w2 ⟨v2,rfl,eY,vh⟩;have hb2:β w w2:=bQ.trans (vh.mono bQ.size);obtain⟨A2,c2,hv2⟩:=bL eY;subst hv2;have hb3:=hb2.alloc hb2.size (aK #[aH x.Am (aA x.ms) x.cm,aH x.As (aA x.ss) x.cs,aH x.Ac (aA x.cy) x.cc,ν x.line,ν x.bW,ν x.lead,ν x.tr,ν x.bT,aH A2 (aA L) c2] 134)))
 have HO:=η eY;have HB:=η hb2;have af:=η hb3;go_wp2
 go_ret;refine⟨w2.heap.size,aH A2 (aA L) c2,rfl,⟨cQ w2 _,iD (HO.o.alloc _) (bM _)⟩,HB.o.size,λk hk=>eU HO.o k hk,af.o⟩
end
section
structure Hr where
 i:Int
 s:Int
 m:Int
 a:Int
 n:Int
def Hr.cells(x:Hr):List aN:= [aG aF x.i,aG aF x.s,aG aF x.m,aG aF x.a,aG aF x.n]
def sF(l:List Hr):List aN:=l.flatMap Hr.cells
theorem X4(L:List Hr):∀u∈sF L,u.oneCell'=aO:=by intro u hu;unfold sF at hu;obtain⟨x,_,hx⟩:=List.mem_flatMap.1 hu;simp [Hr.cells] at hx;rcases hx with rfl|rfl|rfl|rfl|rfl<;>rfl
structure jH(w:aJ)(tb:Nat)(room:Int)(v:aN)(L:List Hr):Prop where
 blk:w.heap[tb]? =aC (aK #[ν room,v] 218 (0,0))
 own:w.ownsRow 0 188 5 v (aA L) (sF L)
section
variable {w w':aJ} {tb:Nat} {room:Int} {v:aN} {L:List Hr}
theorem jH.lt(h:jH w tb room v L):tb<w.heap.size:=(fY.1 h.blk).1
theorem jH.below(h:jH w tb room v L)(hb:aa w.heap.size w w'):jH w' tb room v L:=by have hg:w.grownBy w' aB:=⟨hb.os,hb.tape,hb.output,hb.size,λi hi _=>hb.block i hi⟩;exact⟨(hb.block _ h.lt).trans h.blk,h.own.kept hg (by grind)⟩
theorem jH.c0(h:jH w tb room v L):w.cell? ⟨tb,0,aB⟩=aC (aG aF room):=bH _ _ _ _ _ (0,0) h.blk
theorem jH.c1(h:jH w tb room v L):w.cell? ⟨tb,1,aB⟩=aC v:=bH _ _ _ _ _ (0,0) h.blk
end
theorem aLU(room:Int)(v:aN)(L:List Hr)(tb:Nat)(w:aJ)(h:jH w tb room v L)(hr:0<=room/\room<=1000000000)(hl:aA L<=100000):
 aQ aM 114 #[π tb] w λe w'=>e=aT (ν (room-aA L))/\β w w':=by
 have c0:=h.c0;have c1:=h.c1;obtain⟨A,c,hv⟩:=bL h.own;subst hv;have hw:fV (room-aA L)=room-aA L:=by unfold fV;omega
 go_enter func114,ntmps114
 go_wp2
 go_quiet (fail)
 go_wp2
 go_ret;exact⟨rfl,below_drewN (aX _ _) nq⟩
theorem a8P(room:Int)(v:aN)(L:List Hr)(tb:Nat)(w:aJ)(h:jH w tb room v L)(hl:aA L<=100000):
 aQ aM 125 #[π tb] w (pg 188 5 (aA L) (sF L) w):=by
 have c1:=h.c1;have HC:=η (a2R (aA L) (sF L) v 0 w h.own (X4 L) hl);obtain⟨A,c,hv⟩:=bL h.own;subst hv;go_enter func125,ntmps125
 go_wp2_with (go_at_call 181;refine HC.o.mono ?_)
 rintro e w2 ⟨v2,rfl,eY,hb2⟩;have HO:=η eY;have HB:=η hb2;go_wp2
 go_ret;exact⟨v2,rfl,HO,HB⟩
def a0Q(room:Int)(L:List Hr)(w:aJ)(e:dX)(w':aJ):Prop:=
 ∃nb v,e=aT (π nb)/\jH w' nb room v L/\w.heap.size<=nb/\(∀k,v.ownBlock=aC k->w.heap.size<=k)/\β w w'
theorem aLV(room:Int)(w:aJ)(hr:0<=room):
 aQ aM 80 #[ν room] w (a0Q room [] w):=by
 have hm:max room 0=room:=by omega
 go_enter func80,ntmps80
 go_wp2
 go_ret;refine⟨w.heap.size,aH aB 0 0,rfl,⟨?_,gG _ _ _ _⟩,aZ _,λk hk=>by grind [eF],(aX _ _).alloc (aZ _) _⟩;rw [cQ]
theorem aLN(room:Int)(v:aN)(L:List Hr)(tb:Nat)(w:aJ)(h:jH w tb room v L)(hl:aA L<=100000):
 aQ aM 156 #[π tb] w (a0Q room L w):=by
 have HC:=η (λW hW=>a2R (aA L) (sF L) v 0 W (h.below hW).own (X4 L) hl);obtain⟨A,c,hv⟩:=bL h.own;subst hv;have bJ:Hid (∀W,β w W->W.cell? ⟨tb,0,aB⟩=aC (ν room)/\W.cell? ⟨tb,1,aB⟩=aC (aH A (aA L) c)):=η (by intro W hW;exact⟨(h.below hW).c0,(h.below hW).c1⟩);go_enter func156,ntmps156
 go_wp2
 have bQ:β w w.drew:=(aX _ _).drew;go_region_held3 (λW=>W.cell? ⟨tb,0,aB⟩=aC (ν room)/\W.cell? ⟨tb,1,aB⟩=aC (aH A (aA L) c)) (first|(with_reducible exact bJ.o _ bQ)|(with_reducible exact bJ.o _ hb2)|(with_reducible exact bJ.o _ hb3)) ((go_at_call 181;refine(HC.o _ bQ).mono ?_;rintro e w2 ⟨v2,rfl,eY,vh⟩;have hb2:β w w2:=bQ.trans (vh.mono bQ.size);obtain⟨A2,c2,hv2⟩:=bL eY;subst hv2;have hb3:=hb2.alloc hb2.size (aK #[ν room,aH A2 (aA L) c2] 218)))
 have HO:=η eY;have HB:=η hb2;have af:=η hb3;go_wp2
 go_ret;refine⟨w2.heap.size,aH A2 (aA L) c2,rfl,⟨cQ w2 _,iD (HO.o.alloc _) (bM _)⟩,HB.o.size,λk hk=>eU HO.o k hk,af.o⟩
end
def lF(M A:Nat)(q:Int×Int×Int):Option Nat:=plcA M A q.1 q.2.1 q.2.2
def ku(M A:Nat)(l:List Int)(q:Int×Int×Int):Int:=balA M A l q.1 q.2.1 q.2.2
def fE(es:List En)(q:Int×Int×Int):Int:=sumI (gz es q)
structure Ch where
 p:Int
 f:Bool
 b:Int
 n:Int
def Ch.cells(x:Ch):List aN:= [aG aF x.p,bK x.f,aG aF x.b,aG aF x.n]
def BV(l:List Ch):List aN:=l.flatMap Ch.cells
theorem aDX(l:List Ch)(x:Ch):BV (l++ [x])=BV l++x.cells:=by simp [BV]
theorem a2H {w:aJ} {B:Nat} {A:Option ai} {l:List Ch}(h:aW w B A (BV l)) {k:Nat}(hk:k<aA l):
 ∃b o,A=aC ⟨b,o,aB⟩/\b<B/\w.cell? ⟨b,o+k*4,aB⟩=aC (ν l[k].p)/\w.cell? ⟨b,o+k*4+1,aB⟩=aC (bK l[k].f)/\w.cell? ⟨b,o+k*4+2,aB⟩=aC (ν l[k].b)/\w.cell? ⟨b,o+k*4+3,aB⟩=aC (ν l[k].n):=by
 obtain⟨b,o,e,hb,hc⟩:=h.run (i:=k*4) (y:=ν l[k].p) (t:= [bK l[k].f,ν l[k].b,ν l[k].n]) (λj u hu=>tT Ch.cells 4 (λ_=>rfl) l k hk j u hu);exact⟨b,o,e,hb,hc 0 _ rfl,hc 1 _ rfl,hc 2 _ rfl,hc 3 _ rfl⟩
def kG(M A:Nat)(l:List Int)(es:List En)(q:Int×Int×Int):Ch:=⟨((lF M A q).getD 0:Nat),tU q.1,fE es q,ku M A l q+fE es q⟩
def yt(M A:Nat)(l:List Int)(es:List En)(q:Int×Int×Int):Bool:=dR (fE es q) !=0||dR (ku M A l q+fE es q) !=0
def jY(M A:Nat)(l:List Int)(es:List En):Int:=
 if 1024<(aA es) then 6 else if es.any (λx=>(lF M A x.spot).isNone)=aO then 8 else if (dQ 9).any (λi=>sumI (gy es i) !=0)=aO then 17
 else if (dE es).any (yt M A l es)=aO then 2 else 0
def rr(x:Ch):Bool:= !x.f&&decide (x.b<0)&&decide (x.n<0)
def ky(M A:Nat)(l:List Int)(es:List En):List Ch:=(dE es).map (kG M A l es)
def lG(l:List Int)(c:List Ch):List Int:=c.foldl (λl x=>l.set x.p.toNat x.n) l
def kN(M A:Nat)(l:List Int)(es:List En):List Int:=lG l (ky M A l es)
def nZ(M A:Nat)(l:List Int)(es:List En):Int:=if jY M A l es≠0 then jY M A l es else if (ky M A l es).any rr=aO then 13 else 0
theorem a6k(l:List Int)(c:List Ch):aA (lG l c)=aA l:=by
 unfold lG;induction c generalizing l with
 |nil=>rfl
 |cons x c ih=>grind
theorem aJp(l:List Int)(c:List Ch)(x:Ch):lG l (c++ [x])=(lG l c).set x.p.toNat x.n:=by simp [lG]
theorem aIR(M A:Nat)(l:List Int)(es:List En):aA (kN M A l es)=aA l:=a6k _ _
def iR(h:List Hr)(k m a:Int):Int:=h.foldl (λn r=>if r.s==k&&r.m==m&&r.a==a then fV (n+r.n) else n) 0
theorem aGX(h:List Hr)(r:Hr)(k m a:Int):iR (h++ [r]) k m a=if r.s==k&&r.m==m&&r.a==a then fV (iR h k m a+r.n) else iR h k m a:=by simp [iR]
def sN(M A:Nat)(l l':List Int)(h:List Hr)(x:En):Bool:= !tU x.k&&decide (ku M A l' x.spot<ku M A l x.spot)&&decide (ku M A l' x.spot<iR h x.k x.m x.a)
def lf(M A:Nat)(l:List Int)(h:List Hr)(es:List En):Int:=if nZ M A l es≠0 then nZ M A l es else if es.any (sN M A l (kN M A l es) h)=aO then 13 else 0
theorem aIX {M:Nat} {k m k' m':Int} {n:Nat}(h:jw M k m=aC n)(h':jw M k' m'=aC n):k=k'/\m=m':=by grind [jw]
theorem Xw {M A:Nat} {k m a:Int} {n:Nat}(h:plcA M A k m a=aC n):∃j,jw M k m=aC j/\j<6+3*M/\0<=a/\a<(A:Int)/\n=a.toNat*(6+3*M)+j:=by grind [plcA,jw]
theorem a2o {S a b i j:Nat}(hi:i<S)(hj:j<S)(h:a*S+i=b*S+j):a=b/\i=j:=by
 have h1:(a*S+i) % S=(b*S+j) % S:=by rw [h]
 rw [aAF,aAG,aAF (b*S),aAG,aAJ hi,aAJ hj] at h1;subst h1;have h2:a*S=b*S:=by omega
 exact⟨Nat.eq_of_mul_eq_mul_right (by omega) h2,rfl⟩
theorem aJa {M A:Nat} {k m a k' m' a':Int} {n:Nat}(h:plcA M A k m a=aC n)(h':plcA M A k' m' a'=aC n):k=k'/\m=m'/\a=a':=by obtain⟨j,h1,h2,h3,h4,h5⟩:=Xw h;obtain⟨j',ub,ud,IB,h4',h5'⟩:=Xw h';obtain⟨e1,rfl⟩:=a2o h2 ud (h5.symm.trans h5');grind [aIX]
theorem a6d {M A:Nat} {q q':Int×Int×Int} {n:Nat}(h:lF M A q=aC n)(h':lF M A q'=aC n):q=q':=by obtain⟨k,m,a⟩:=q;obtain⟨k',m',a'⟩:=q';obtain⟨rfl,rfl,rfl⟩:=aJa h h';rfl
theorem Kq {es:List En} {q:Int×Int×Int}:q∈dE es↔∃x∈es,x.spot=q:=by
 suffices h:∀n (es:List En),aA es=n->(q∈dE es↔∃x∈es,x.spot=q) from h _ es rfl
 intro n;induction n with
 |zero=>
  grind [dE,ordF]
 |succ n ih=>
  intro es h;rcases PF es with rfl|⟨l,x,rfl⟩
  ·cases h
  rw [PE] at h ⊢;rw [Rt,gN,ih l (by simpa using h)];constructor
  ·grind
  rintro⟨y,hy,e⟩;rcases gN.1 hy with hy|hy
  ·grind
  obtain rfl:=List.mem_singleton.1 hy;by_cases hx:(gz l y.spot).isEmpty=aO
  ·grind
  left;have mf:gz l y.spot≠ []:=by grind
  obtain⟨u,hu⟩:=List.exists_mem_of_ne_nil _ mf;grind [gz]
theorem a6M(es:List En):(dE es).Nodup:=by
 suffices h:∀n (es:List En),aA es=n->(dE es).Nodup from h _ es rfl
 intro n;induction n with
 |zero=>
  grind [dE,ordF]
 |succ n ih=>
  intro es h;rcases PF es with rfl|⟨l,x,rfl⟩
  ·cases h
  rw [PE] at h ⊢;rw [Rt];by_cases hx:(gz l x.spot).isEmpty=aO
  ·rw [ifP hx,List.nodup_append];refine⟨ih l (by simpa using h),by simp, ?_⟩;intro a ha b hb e;obtain rfl:=List.mem_singleton.1 hb;subst e;obtain⟨y,hy,e⟩:=Kq.1 ha;have:y.n∈gz l x.spot:=by
    grind [gz]
   grind
  grind
theorem aDS {es:List En} {q:Int×Int×Int}(h:q∉dE es):gz es q= []:=by grind [gz,List.filter_eq_nil_iff,Kq]
theorem Ya {es:List En} {q:Int×Int×Int}(h:q∉dE es):fE es q=0:=by unfold fE;rw [aDS h];rfl
theorem aNL(l:List Int)(i j:Nat)(v:Int)(hi:i<aA l):(l.set i v).getD j 0=if i=j then v else l.getD j 0:=by grind
theorem a6j(M A:Nat)(l:List Int)(es:List En)(q':Int×Int×Int)(n':Nat)(hq':lF M A q'=aC n'):∀(qs:List (Int×Int×Int)) (acc:List Int),aA acc=A*(6+3*M)->(∀q∈qs,∃n,lF M A q=aC n)->(lG acc (qs.map (kG M A l es))).getD n' 0=if q'∈qs then ku M A l q'+fE es q' else acc.getD n' 0
 | [],acc,_,_=>by simp [lG]
 |q::qs,acc,hlen,hp=>by
  obtain⟨n,hn⟩:=hp q (by simp);have hlt:n<aA acc:=by rw [hlen];exact Nx hn
  have hch:(kG M A l es q).p.toNat=n:=by simp [kG,hn]
  have ih:=a6j M A l es q' n' hq' qs (acc.set n (kG M A l es q).n) (by grind) (λq hq=>hp q (dx _ hq));grind [lG,kG,a6d]
structure y9(M A:Nat)(l:List Int)(es:List En):Prop where
 len:aA es<=1024
 Nw:∀x∈es,∃n,lF M A x.spot=aC n
 zero:∀i,i<9->sumI (gy es i)=0
 ovr:∀q∈dE es,aL (fE es q)/\aL (ku M A l q+fE es q)
theorem aDn {M A:Nat} {l:List Int} {es:List En}(h:jY M A l es=0):y9 M A l es:=by
 unfold jY at h;split at h
 ·cases h
 rename_i h1;split at h
 ·cases h
 rename_i h2;split at h
 ·cases h
 rename_i h3;split at h
 ·cases h
 rename_i h4;refine⟨by omega, ?_, ?_, ?_⟩
 ·intro x hx;cases hp:lF M A x.spot with
  |some n=>exact⟨n,rfl⟩
  |none=>grind
 ·grind
 grind [yt,dR]
theorem a2J {M A:Nat} {l:List Int} {es:List En}(h:y9 M A l es):jY M A l es=0:=by
 unfold jY;rw [ifN (by have:=h.len;omega),ifN,ifN,ifN]
 ·intro ha;obtain⟨q,hq,hb⟩:=kE.1 ha;obtain⟨h1,h2⟩:=h.ovr q hq;unfold yt at hb;rw [(eH h1).2,(eH h2).2] at hb;grind
 ·intro ha;obtain⟨i,hi,hb⟩:=kE.1 ha;rw [h.zero i (nV.1 hi)] at hb;grind
 intro ha;obtain⟨x,hx,hb⟩:=kE.1 ha;obtain⟨n,hn⟩:=h.Nw x hx;rw [hn] at hb;cases hb
theorem y9.spot {M A:Nat} {l:List Int} {es:List En}(h:y9 M A l es):∀q∈dE es,∃n,lF M A q=aC n:=by intro q hq;obtain⟨x,hx,rfl⟩:=Kq.1 hq;exact h.Nw x hx
theorem aD5 {M A:Nat} {l:List Int} {q:Int×Int×Int} {n:Nat}(h:lF M A q=aC n):ku M A l q=l.getD n 0:=by obtain⟨k,m,a⟩:=q;have h':plcA M A k m a=aC n:=h;grind [ku,balA]
theorem Kr {M A:Nat} {l:List Int} {es:List En}(hl:aA l=A*(6+3*M))(h:y9 M A l es) {q:Int×Int×Int} {n:Nat}(hn:lF M A q=aC n):ku M A (kN M A l es) q=ku M A l q+fE es q:=by have:=a6j M A l es q n hn (dE es) l hl h.spot;grind [aD5,kN,ky,Ya]
theorem a7s:∀(l:List Int) (i:Nat) (v:Int),i<aA l->sumI (l.set i v)=sumI l+(v-l.getD i 0)
 | [],i,_,h=>by simp at h
 |a::l,0,v,_=>by simp [sumI];omega
 |a::l,i+1,v,h=>by have:=a7s l i v (by simpa using h);grind [sumI]
theorem aKJ {M A:Nat}(l:List Int)(a j x:Nat)(v:Int)(hl:aA l=A*(6+3*M))(ha:a<A)(hj:j<6+3*M):sumI (E7 M (l.set (a*(6+3*M)+j) v) x)=sumI (E7 M l x)+if a=x then v-l.getD (a*(6+3*M)+j) 0 else 0:=by
 have hlt:(a+1)*(6+3*M)<=A*(6+3*M):=Gr _ ha;rw [Nat.succ_mul] at hlt;unfold E7;by_cases h:a=x
 ·grind [List.drop_set,List.take_set,a7s]
 rw [ifN h,Int.add_zero];congr 1;apply List.ext_getElem?;intro i;simp only [List.getElem?_take,List.getElem?_drop,List.getElem?_set];by_cases hi:i<6+3*M
 ·rw [ifP hi,ifP hi,ifN];intro e;obtain⟨e1,_⟩:=a2o hj hi e;exact h e1
 grind
def wN(es:List En)(qs:List (Int×Int×Int))(a:Nat):Int:=sumI ((qs.filter λq=>q.2.2==(a:Int)).map (fE es))
theorem YZ(es:List En)(q:Int×Int×Int)(qs:List (Int×Int×Int))(a:Nat):wN es (q::qs) a=(if q.2.2=(a:Int) then fE es q else 0)+wN es qs a:=by
 unfold wN;rw [List.filter_cons];by_cases h:q.2.2=(a:Int)
 ·rw [ifP h,ifP (by simpa using h)];rfl
 grind
theorem a6l(M A:Nat)(l:List Int)(es:List En)(x:Nat):∀(qs:List (Int×Int×Int)) (acc:List Int),aA acc=A*(6+3*M)->qs.Nodup->(∀q∈qs,∃n,lF M A q=aC n/\acc.getD n 0=ku M A l q)->sumI (E7 M (lG acc (qs.map (kG M A l es))) x)=sumI (E7 M acc x)+wN es qs x
 | [],acc,_,_,_=>by grind [lG,wN,sumI]
 |q::qs,acc,hlen,vw,hp=>by
  obtain⟨n,hn,hv⟩:=hp q (by simp);have hch:(kG M A l es q).p.toNat=n:=by simp [kG,hn]
  have hlt:n<aA acc:=by rw [hlen];exact Nx hn
  obtain⟨sD,vx⟩:=aAA.1 vw;have e:lG acc ((q::qs).map (kG M A l es))=lG (acc.set n (kG M A l es q).n) (qs.map (kG M A l es)):=by grind [lG]
  have ih:=a6l M A l es x qs (acc.set n (kG M A l es q).n) (by grind) vx (λq2 h2=>by grind [a6d]);obtain⟨j,h1,h2,h3,h4,h5⟩:=Xw hn;rw [e,ih,YZ];have hr:=aKJ acc q.2.2.toNat j x (kG M A l es q).n hlen (by omega) h2;grind [kG]
theorem JB(l:List En)(x:En)(q:Int×Int×Int):fE (l++ [x]) q=fE l q+if q=x.spot then x.n else 0:=by
 unfold fE;rw [a2C];by_cases h:q=x.spot
 ·rw [ifP h,ifP h,O8];simp [sumI]
 grind
theorem a8A(l:List En)(x:En)(a:Nat):∀qs:List (Int×Int×Int),qs.Nodup->wN (l++ [x]) qs a=wN l qs a+if x.spot∈qs/\x.a=(a:Int) then x.n else 0
 | [],_=>by simp [wN,sumI]
 |q::qs,vw=>by
  obtain⟨h1,h2⟩:=aAA.1 vw;rw [YZ,YZ,a8A l x a qs h2,JB];by_cases hq:q=x.spot
  ·subst hq;have e:x.spot.2.2=x.a:=rfl;grind
  grind
theorem aL9(es:List En)(a:Nat):wN es (dE es) a=sumI (gy es a):=by
 suffices h:∀n (es:List En),aA es=n->wN es (dE es) a=sumI (gy es a) from h _ es rfl
 intro n;induction n with
 |zero=>
  grind [dE,ordF,wN,gy]
 |succ n ih=>
  intro es h;rcases PF es with rfl|⟨l,x,rfl⟩
  ·cases h
  rw [PE] at h ⊢;rw [a8A _ _ _ _ (a6M _)];have hi:=ih l (by simpa using h);have hs:sumI (gy (l++ [x]) a)=sumI (gy l a)+if x.a=(a:Int) then x.n else 0:=by
   rw [a1z];by_cases hx:x.a=(a:Int)
   ·rw [ifP hx,ifP hx,O8];simp [sumI]
   grind
  have hm:x.spot∈dE (l++ [x]):=Kq.2 ⟨x,by simp,rfl⟩;have hq:wN l (dE (l++ [x])) a=wN l (dE l) a:=by
   rw [Rt];by_cases hx:(gz l x.spot).isEmpty=aO
   ·rw [ifP hx];unfold wN;rw [List.filter_append,dh,O8,List.filter_cons];grind [fE,sumI]
   grind
  grind
theorem aIS {M A:Nat} {l:List Int} {es:List En}(hl:aA l=A*(6+3*M))(h:y9 M A l es) {a:Nat}(ha:a<9):sumI (E7 M (kN M A l es) a)=sumI (E7 M l a):=by have h1:=a6l M A l es a (dE es) l hl (a6M _) (λq hq=>by obtain⟨n,hn⟩:=h.spot q hq;refine⟨n,hn, ?_⟩;obtain⟨k,m,b⟩:=q;have KY:plcA M A k m b=aC n:=hn;grind [ku,balA]);unfold kN ky;rw [h1,aL9,h.zero a ha,Int.add_zero]
section
open Go.Maps Go.MapKept Go.ChangeMaps
section
variable {κ:Type} [BEq κ]
def getM(q:κ):List (κ×aN)->Option aN
 | []=>aB
 |p::m=>if p.1==q then aC p.2 else getM q m
def eV(q:κ)(v:aN):List (κ×aN)->List (κ×aN)
 | []=> [(q,v)]
 |p::m=>if p.1==q then (q,v)::m else p::eV q v m
def wO(m:List (κ×aN)):Prop:=m.Pairwise λp q=>p.1≠q.1
theorem a6o {q:κ} {v:aN} {x:κ×aN}:∀ {m:List (κ×aN)},x∈eV q v m->x=(q,v)\/x∈m
 | [],h=>by grind [eV]
 |p::m,h=>by
  unfold eV at h;split at h
  ·grind
  rcases fG.1 h with h|h
  ·grind
  exact(a6o h).imp id λh=>dx _ h
variable [LawfulBEq κ]
theorem getM_none {q:κ}:∀ {m:List (κ×aN)},(∀p∈m,p.1≠q)->getM q m=aB
 | [],_=>rfl
 |p::m,h=>by unfold getM;rw [ifN (by grind)];exact getM_none λx hx=>h x (dx _ hx)
theorem Y2 {q:κ}(v:aN):∀ {m:List (κ×aN)},(∀p∈m,p.1≠q)->eV q v m=m++ [(q,v)]
 | [],_=>rfl
 |p::m,h=>by unfold eV;rw [ifN (by grind),Y2 v λx hx=>h x (dx _ hx)];rfl
theorem getM_some {q:κ} {v0:aN}:∀ {m:List (κ×aN)} {j:Nat},wO m->m[j]? =aC (q,v0)->getM q m=aC v0
 | [],_,_,h=>by simp at h
 |p::m,0,_,h=>by grind [getM]
 |p::m,j+1,ha,h=>by obtain⟨h1,h2⟩:=kp.1 ha;have hm:=zV (by simpa using h);unfold getM;rw [ifN (by simpa using h1 _ hm)];exact getM_some h2 (by simpa using h)
theorem Y3 {q:κ} {v0:aN}(v:aN):∀ {m:List (κ×aN)} {j:Nat},wO m->m[j]? =aC (q,v0)->eV q v m=m.set j (q,v)
 | [],_,_,h=>by simp at h
 |p::m,0,_,h=>by grind [eV]
 |p::m,j+1,ha,h=>by obtain⟨h1,h2⟩:=kp.1 ha;have hm:=zV (by simpa using h);unfold eV;rw [ifN (by simpa using h1 _ hm),Y3 v h2 (by simpa using h)];rfl
theorem wO.put {q:κ} {v:aN}:∀ {m:List (κ×aN)},wO m->wO (eV q v m)
 | [],_=>by simp [eV,wO]
 |p::m,ha=>by
  obtain⟨h1,h2⟩:=kp.1 ha;unfold eV;split
  ·rename_i hc;have e:p.1=q:=by simpa using hc
   exact kp.2 ⟨λx hx=>by grind,h2⟩
  rename_i hc;refine kp.2 ⟨λx hx=> ?_,wO.put h2⟩;rcases a6o hx with rfl|hx
  ·simpa using hc
  exact h1 x hx
theorem a3b(q:κ)(v:aN):∀m:List (κ×aN),getM q (eV q v m)=aC v
 | []=>by simp [eV,getM]
 |p::m=>by
  unfold eV;split
  ·simp [getM]
  rename_i hc;unfold getM;rw [ifN hc,a3b q v m]
theorem a3a {q q':κ}(h:q≠q')(v:aN):∀m:List (κ×aN),getM q' (eV q v m)=getM q' m
 | []=>by simp [eV,getM,h]
 |p::m=>by
  unfold eV;split
  ·grind [getM]
  unfold getM;rw [a3a h v m]
end
section
variable {κ:Type} {P:Program} {k:bZ} {enc:κ->aN}
structure ei(P:Program)(k:bZ)(enc:κ->aN)(w:aJ)(b:Nat)(m:List (κ×aN)):Prop where
 blk:∃es clock,w.heap[b]? =aC (.map es clock)/\es.toList.map (λe=>(e.key,e.val))=m.map λp=>(enc p.1,p.2)
 apart:wO m
structure CS(P:Program)(k:bZ)(enc:κ->aN)(jk:κ->Prop):Prop where
 keyed:Keyed P k
 key:∀q,jk q->∃kl,keyOf P k (enc q)=aC kl
 inj:∀q q',enc q=enc q'->q=q'
variable {jk:κ->Prop} {w w':aJ} {b:Nat} {m:List (κ×aN)}
theorem ei.lt(h:ei P k enc w b m):b<w.heap.size:=by obtain⟨es,clock,hb,_⟩:=h.blk;grind
theorem ei.of_block(h:ei P k enc w b m)(e:w'.heap[b]? =w.heap[b]?):ei P k enc w' b m:=by obtain⟨es,clock,hb,hm⟩:=h.blk;exact⟨⟨es,clock,e.trans hb,hm⟩,h.apart⟩
theorem ei.below {B:Nat}(h:ei P k enc w b m)(hb:b<B)(hB:aa B w w'):ei P k enc w' b m:=h.of_block (hB.block b hb)
theorem ei.alloc(h:ei P k enc w b m)(o:Obj):ei P k enc (w.alloc o) b m:=h.of_block (fL w o h.lt)
theorem ei.drew(h:ei P k enc w b m):ei P k enc w.drew b m:=⟨h.blk,h.apart⟩
theorem ei.grown(h:ei P k enc w b m) {row:Option Nat}(hg:w.grownBy w' row)(hne:aC b≠row):ei P k enc w' b m:=h.of_block (hg.block b h.lt hne)
theorem ei.made(P:Program)(k:bZ)(enc:κ->aN)(w:aJ):ei P k enc (w.alloc (.map #[] 0)) w.heap.size []:=⟨⟨#[],0,cQ w _,by simp⟩,by simp [wO]⟩
theorem ei.find(K:CS P k enc jk) {es:Array MapEntry}(hm:es.toList.map (λe=>(e.key,e.val))=m.map λp=>(enc p.1,p.2))(hd:∀p∈m,jk p.1) {q:κ}(hq:jk q)(w:aJ):
 ((a9r k (enc q) es.toList).run P w= .ok aB w/\∀p∈m,p.1≠q)\/∃j v0,(a9r k (enc q) es.toList).run P w= .ok (aC (j,v0)) w/\m[j]? =aC (q,v0)/\∃e0,es[j]? =aC e0/\e0.key=enc q/\e0.val=v0:=by
 obtain⟨kl,eK⟩:=K.key q hq;have Wd:∀x∈es.toList,∃kl,keyOf P k x.key=aC kl:=by
  intro x hx;have h1:(x.key,x.val)∈m.map λp=>(enc p.1,p.2):=by grind
  obtain⟨p,hp,e⟩:=di.1 h1;injection e with e1 e2;obtain⟨kl,h⟩:=K.key p.1 (hd p hp);grind
 rcases K.keyed.find w eK es.toList Wd with⟨h1,h2⟩|⟨j,e0,h1,h2,h3⟩
 ·refine aS ⟨h1,λp hp e=> ?_⟩;have h4:(enc p.1,p.2)∈es.toList.map (λe=>(e.key,e.val)):=by grind
  grind
 refine aU ⟨j,e0.val,h1, ?_,e0,by simpa using h2,h3,rfl⟩;have h4:(es.toList.map (λe=>(e.key,e.val)))[j]? =aC (enc q,e0.val):=by grind
 rw [hm,List.getElem?_map] at h4;cases hj:m[j]? with
 |none=>grind
 |some p=>
  rw [hj] at h4;simp at h4;obtain⟨a1,a2⟩:=h4;have:=K.inj _ _ a1;grind
variable [BEq κ] [LawfulBEq κ]
theorem ei.look(c:Bool)(K:CS P k enc jk) {t e:bZ}(ht:P.underlying t=aC (.map k e)) {z:aN}(hz:(zeroValue e).run P w= .ok z w)(h:ei P k enc w b m)(hd:∀p∈m,jk p.1) {q:κ}(hq:jk q):
 (Instr.lookup t (.map (aC b)) (enc q) c).run P w= .ok (if c then .tuple #[(getM q m).getD z,.bool (getM q m).isSome] else (getM q m).getD z) w:=by
 obtain⟨es,clock,hb,hm⟩:=h.blk;obtain⟨kl,eK⟩:=K.key q hq;rcases ei.find K hm hd hq w with⟨h1,h2⟩|⟨j,v0,h1,h2,_⟩
 ·rw [getM_none h2];simp [Instr.lookup,run_underlying ht,BP hb,K.keyed.check w _ eK,h1,hz,uU]
 rw [getM_some h.apart h2];simp [Instr.lookup,run_underlying ht,BP hb,K.keyed.check w _ eK,h1,uU]
theorem ei.store(K:CS P k enc jk) {t e:bZ}(ht:P.underlying t=aC (.map k e))(h:ei P k enc w b m)(hd:∀p∈m,jk p.1) {q:κ}(hq:jk q)(v:aN):
 ∃w',(Ef t (.map (aC b)) (enc q) v).run P w= .ok () w'/\ei P k enc w' b (eV q v m)/\w.grownBy w' (aC b):=by
 obtain⟨es,clock,hb,hm⟩:=h.blk;obtain⟨kl,eK⟩:=K.key q hq;rcases ei.find K hm hd hq w with⟨h1,h2⟩|⟨j,v0,h1,h2,e0,h3,h4,h5⟩
 ·refine⟨setBlock w b (.map (es.push ⟨enc q,v,clock⟩) (clock+1)), ?_,⟨⟨_,_,heap_setBlock_same hb _, ?_⟩,h.apart.put⟩,⟨rfl,rfl,rfl,by simp [setBlock],λi _ hi=>heap_setBlock_other hb _ (λe=>hi (by rw [e]))⟩⟩
  ·simp [Ef,run_underlying ht,BP hb,K.keyed.check w aP eK,h1,Gj _ hb,uU,setBlock]
  grind [Y2]
 have ud:es.toList[j]? =aC e0:=by simpa using h3
 refine⟨setBlock w b (.map (es.modify j (λe'=> {e' with key:=enc q,val:=v})) clock), ?_,⟨⟨_,_,heap_setBlock_same hb _, ?_⟩,h.apart.put⟩,⟨rfl,rfl,rfl,by simp [setBlock],λi _ hi=>heap_setBlock_other hb _ (λe=>hi (by rw [e]))⟩⟩
 ·simp [Ef,run_underlying ht,BP hb,K.keyed.check w aP eK,h1,h3,h4,K.keyed.stays w eK,Gj _ hb,uU,setBlock]
 rw [Y3 v h.apart h2,Yw,modify_eq_set _ _ _ _ ud,List.map_set,List.map_set,hm]
end
end
section
open Go.Maps Go.MapKept Go.ChangeMaps
def CG {κ:Type} [DecidableEq κ](q:κ)(m:List (κ×aN)):aN:=(getM q m).getD (aH aB 0 0)
structure vA {κ:Type}(kt:bZ)(enc:κ->aN)(jk:κ->Prop)(w:aJ)(base b:Nat)(m:List (κ×aN))(f:κ->List Int):Prop where
 map:ei aM kt enc w b m
 yy:∃es clock,w.heap[b]? =aC (.map es clock)/\Stamped es clock
 low:b<base
 rows:∀p∈m,w.ownsRow base 2 1 p.2 (aA (f p.1)) ((f p.1).map (aG aF))
 far:∀p∈m,∀q∈m,p.1≠q.1->p.2.ownBlock=aB\/p.2.ownBlock≠q.2.ownBlock
 off:∀q,(∀p∈m,p.1≠q)->f q= []
 dom:∀p∈m,jk p.1
section
variable {κ:Type} {kt:bZ} {enc:κ->aN} {jk:κ->Prop} {w w' w1:aJ} {base b:Nat} {m:List (κ×aN)} {f:κ->List Int}
theorem vA.made(w:aJ):vA kt enc jk (w.alloc (.map #[] 0)) (w.heap.size+1) w.heap.size [] (λ_=> []):=
 ⟨ei.made _ _ _ _,⟨#[],0,cQ w _,stamped_empty 0⟩,Nat.lt_succ_self _,by simp,by simp,λ_ _=>rfl,by simp⟩
theorem vA.below {B:Nat}(h:vA kt enc jk w base b m f)(hB:w.heap.size<=B)(hb:aa B w w'):vA kt enc jk w' base b m f:=by obtain⟨es,clock,hb',hs⟩:=h.yy;have hlt:=h.map.lt;refine⟨h.map.below (by omega) hb,⟨es,clock,(hb.block b (by omega)).trans hb',hs⟩,h.low,λp hp=>(h.rows p hp).kept ⟨hb.os,hb.tape,hb.output,hb.size,λk hk _=>hb.block k (cL hk hB)⟩ (by cases p.2.ownBlock<;>simp:p.2.ownBlock=aB\/p.2.ownBlock≠aB),h.far,h.off,h.dom⟩
variable [DecidableEq κ]
theorem Rj {q:κ} {v:aN}:∀ {m:List (κ×aN)},getM q m=aC v->(q,v)∈m
 | [],h=>by simp [getM] at h
 |p::m,h=>by
  unfold getM at h;split at h
  ·grind
  exact dx _ (Rj h)
theorem a3Y {q:κ}:∀ {m:List (κ×aN)},getM q m=aB->∀p∈m,p.1≠q
 | [],_,p,hp=>by simp at hp
 |p::m,h,x,hx=>by
  unfold getM at h;split at h
  ·cases h
  rename_i hc;rcases fG.1 hx with rfl|hx
  ·simpa using hc
  exact a3Y h x hx
theorem vA.slot(h:vA kt enc jk w base b m f)(q:κ):w.ownsRow base 2 1 (CG q m) (aA (f q)) ((f q).map (aG aF)):=by
 unfold CG;cases hg:getM q m with
 |none=>rw [h.off q (a3Y hg)];exact gG _ _ _ _
 |some v=>exact h.rows _ (Rj hg)
theorem vA.look(K:CS aM kt enc jk)(h:vA kt enc jk w base b m f) {q:κ}(hq:jk q) {t:bZ}(ht:aM.underlying t=aC (.map kt 53)):(Instr.lookup t (.map (aC b)) (enc q) aP).run aM w= .ok (CG q m) w:=
 ei.look (P:=aM) aP K ht (z:= .slice aB 0 0) (by kernel_rfl) h.map h.dom hq
theorem L5 {q:κ} {v:aN}(ha:wO m) {x:κ×aN}(hx:x∈eV q v m):x=(q,v)\/(x∈m/\x.1≠q):=by
 induction m with
 |nil=>grind [eV]
 |cons p m ih=>
  obtain⟨h1,h2⟩:=kp.1 ha;unfold eV at hx;split at hx
  ·grind
  rename_i hc;rcases fG.1 hx with hx|hx
  ·grind
  rcases ih h2 hx with h|⟨h,h'⟩
  ·exact aS h
  grind
theorem a6m {q:κ} {v:aN}:∀(m:List (κ×aN)),aA (eV q v m)<=aA m+1
 | []=>by simp [eV]
 |p::m=>by
  unfold eV;split
  ·simp
  have:=a6m (q:=q) (v:=v) m;simp;omega
theorem a6n {q:κ} {v:aN} {x:κ×aN}(hx:x∈m):∃u,(x.1,u)∈eV q v m:=by
 induction m with
 |nil=>simp at hx
 |cons p m ih=>
  grind [eV]
theorem Xz {q:κ} {v:aN}:∀(m:List (κ×aN)),(q,v)∈eV q v m
 | []=>by simp [eV]
 |p::m=>by
  unfold eV;split
  ·grind
  exact dx _ (Xz m)
end
end
section
open Go.ChangeShapes Go.WideShapes Go.ChangeAt Go.Joins Go.Deep
theorem aJF:ownKnob aM.godebug=aB:=by kernel_rfl
theorem XV:laidOutB aM=aO:=by kernel_rfl
section
variable {H:Type} {enc:bZ×aN->H} {P:Program}
theorem a8O(hl:laidOutB P=aO) {W W':aJ}(hb:aa W.heap.size W W'):∀(ts:List bZ) {vs:List aN} {ds:List (DataW H)} {ps:List MemPlace},
 (ts.all λt=>P.readableRec t&&decide (t<P.types.size))=aO->Z4 enc P W 0 (λ_=>aO) aO ts vs ds ps->Z4 enc P W' 0 (λb=>decide (b<W.heap.size)) aO ts vs ds ps
 | [],vs,ds,ps,_,h=>by obtain⟨rfl,rfl,rfl⟩:=trodAll_nil h;exact trodAll_mk0
 |t::ts,vs,ds,ps,hr,h=>by
  obtain⟨v,vs',d,Eu,p,q,rfl,rfl,rfl,h0,r⟩:=trodAll_cons h;rw [List.all_cons,ji,ji] at hr;have lt0:∀x∈p,x.block<W.heap.size:=by obtain⟨m,hm⟩:=h0;exact DataW.trod_lt m _ _ _ hm
  exact trodAll_cons_mk (Below.trod hl hr.1.1 (of_decide_eq_true hr.1.2) h0 hb lt0) (a8O hl hb ts hr.2 r)
theorem aHf(hl:laidOutB P=aO) {f:Func} {s:ChangeSpec} {W W':aJ} {args:Array aN} {ds gs:List (DataW H)} {before:List MemPlace} {tb:bZ}(hr:(f.params.toList.all λt=>P.readableRec t&&decide (t<P.types.size))=aO)
 (NP:P.underlying tb=aC .bool) (hrt:f.resultTypes= #[tb]) (hv:s.vars= []) (hW:DataW.Whole enc P f.params.toList s.vars aP W args.toList ds gs before)
 (hsp:∀Eu:List (DataW H),aA Eu=aA f.params.toList->s.fn H Eu= {results:= [.lit (.bool aO)],args:=Eu}) (xK:β W W'):
 s.post enc P f aP aO aP aP W args (.bool aO) W':=by
 have F9:=hW;obtain⟨p,q,hA,hV,rfl,_,_⟩:=hW;rw [hv] at hV;obtain⟨rfl,rfl⟩:=trodVars_none hV;have hlen:∀(ts:List bZ) (vs:List aN) (ds:List (DataW H)) (ps:List MemPlace),Z4 enc P W 0 (λ_=>aO) aO ts vs ds ps->aA ds=aA ts:=by
  intro ts;induction ts with
  |nil=>intro vs ds ps h;obtain⟨_,rfl,_⟩:=trodAll_nil h;rfl
  |cons t ts ih=>
   intro vs ds ps h;obtain⟨v,vs',d,Eu,p,q,_,rfl,_,_,r⟩:=trodAll_cons h;simp [ih _ _ _ r]
 have e:=hsp ds (hlen _ _ _ _ hA);refine⟨ds,[],p++ [],[],p,[],F9, ?_, ?_, ?_, ?_,λh=>by cases h⟩
 ·rw [List.append_nil,e,hrt];exact trodAll_mk1 (shut_bool NP aO)
 ·grind [a8O]
 ·rw [List.append_nil,e,hv];rfl
 exact xK.frame _
end
end
section
open Go.Maps Go.MapKept Go.ChangeMaps
def zt(q:Int×Int×Int):aN:=bP #[aG aF q.1,aG aF q.2.1,aG aF q.2.2]
def GF(q:Int×Int×Int):Prop:=aL q.1/\aL q.2.1/\aL q.2.2
theorem NY {x:Int}(h:aL x):(Lit.int aF x).wf=aO:=by unfold aL at h;have h1:aF.min= -9223372036854775808:=rfl;have h2:aF.max=9223372036854775807:=rfl;grind [Lit.wf]
theorem aFM(q q':Int×Int×Int)(h:zt q=zt q'):q=q':=by grind [zt]
theorem Ng(d:Nat)(n:Int)(hn:(Lit.int aF n).wf=aO):aM.keyLits (d+1) 3 [.int aF n]=aC [.int aF n]:=by unfold Ub;grind [xF]
theorem aHV(q:Int×Int×Int)(hq:GF q):∃kl,keyOf aM 289 (zt q)=aC kl:=by
 have hu:=underlying289;have vy:=underlying51;have h1:aM.keyType 289=aO:=by kernel_rfl
 have w1:=NY hq.1;have w2:=NY hq.2.1;have w3:=NY hq.2.2;have h2:(zt q).formed aM 289=aO:=by kernel_rfl
 have k1:aM.cellsOf 3=1:=by kernel_rfl
 have k2:aM.cellsOf 51=2:=by kernel_rfl
 have k3:aM.cellsOf 289=3:=by kernel_rfl
 have h3:aM.keyLits (aM.types.size+1) 289 (zt q).cells.toList=aC [.int aF q.1,.int aF q.2.1,.int aF q.2.2]:=by
  obtain⟨d,hd⟩:∃d,aM.types.size=d+1+1:=⟨aM.types.size-2,by have:1<aM.types.size:=of_decide_eq_true (by kernel_rfl);omega⟩;rw [hd];have hx:=Ng d q.1 w1;have hy:=Ng d q.2.1 w2;have hz:=Ng (d+1) q.2.2 w3;have hac:aM.keyLits (d+1+1) 51 [.int aF q.1,.int aF q.2.1]=aC [.int aF q.1,.int aF q.2.1]:=by unfold Ub;rw [vy];simp [k1,k2,hx,hy]
  unfold Ub;rw [hu];simp [zt,Value.cells,k1,k2,k3,hac,hz]
 exact⟨_,by unfold keyOf;rw [hu];simp only [h1,h2,Bool.and_self,if_true,h3];rfl⟩
theorem a7h:CS aM 289 zt GF where
 keyed:=a8u (deep_law_laid XV (m:=3) (by omega) (of_decide_eq_true (by kernel_rfl)) (by kernel_rfl) (by kernel_rfl))
 key:=aHV
 inj:=aFM
def xQ(q:Int×Int):aN:=bP #[aG aF q.1,aG aF q.2]
def JK(q:Int×Int):Prop:=aL q.1/\aL q.2
theorem a3H(q q':Int×Int)(h:xQ q=xQ q'):q=q':=by grind [xQ]
theorem aHU(q:Int×Int)(hq:JK q):∃kl,keyOf aM 162 (xQ q)=aC kl:=by
 have hu:=underlying162;have h1:aM.keyType 162=aO:=by kernel_rfl
 have w1:=NY hq.1;have w2:=NY hq.2;have h2:(xQ q).formed aM 162=aO:=by kernel_rfl
 have k1:aM.cellsOf 3=1:=by kernel_rfl
 have k3:aM.cellsOf 162=2:=by kernel_rfl
 have h3:aM.keyLits (aM.types.size+1) 162 (xQ q).cells.toList=aC [.int aF q.1,.int aF q.2]:=by obtain⟨d,hd⟩:∃d,aM.types.size=d+1:=⟨aM.types.size-1,by have:1<aM.types.size:=of_decide_eq_true (by kernel_rfl);omega⟩;rw [hd];have hx:=Ng d q.1 w1;have hy:=Ng d q.2 w2;unfold Ub;rw [hu];simp [xQ,Value.cells,k1,k3,hx,hy]
 exact⟨_,by unfold keyOf;rw [hu];simp only [h1,h2,Bool.and_self,if_true,h3];rfl⟩
theorem a7J:CS aM 162 xQ JK where
 keyed:=a8u (deep_law_laid XV (m:=2) (by omega) (of_decide_eq_true (by kernel_rfl)) (by kernel_rfl) (by kernel_rfl))
 key:=aHU
 inj:=a3H
end
section
open Go.Maps Go.MapKept Go.ChangeMaps
def Uh(w:aJ)(b:Nat):Prop:=∃es clock,w.heap[b]? =aC (.map es clock)/\Stamped es clock
section
variable {κ:Type} [BEq κ] [LawfulBEq κ] {P:Program} {k:bZ} {enc:κ->aN} {jk:κ->Prop} {w:aJ} {b:Nat} {m:List (κ×aN)}
theorem ei.entry(K:CS P k enc jk) {t e:bZ}(ht:P.underlying t=aC (.map k e)) {z:aN}(hz:∀u:aJ,(zeroValue e).run P u= .ok z u)(h:ei P k enc w b m)(hs:Uh w b)(hd:∀p∈m,jk p.1) {q:κ}(hq:jk q):
 ∃(st:Nat) (w1:aJ),(Ge t (.map (aC b)) (enc q)).run P w= .ok (.tuple #[(getM q m).getD z,goInt st]) w1/\w.grownBy w1 (aC b)/\w1.heap.size=w.heap.size/\
  ∀(w2:aJ) (val:aN),w2.heap[b]? =w1.heap[b]?->∃w3,(PA t (.map (aC b)) (goInt st) val).run P w2= .ok () w3/\ei P k enc w3 b (eV q val m)/\Uh w3 b/\w2.grownBy w3 (aC b):=by
 obtain⟨es,clock,hb,hm⟩:=h.blk;obtain⟨I4,Hq,hb0,hst⟩:=hs;obtain⟨rfl,rfl⟩:es=I4/\clock=Hq:=by grind
 obtain⟨kl,eK⟩:=K.key q hq;rcases ei.find K hm hd hq w with⟨h1,h2⟩|⟨j,v0,h1,h2,e0,h3,h4,h5⟩
 ·have hnk:∀x∈es.toList,x.key≠enc q:=by
   intro x hx e;have h6:(x.key,x.val)∈m.map λp=>(enc p.1,p.2):=by grind
   obtain⟨p,hp,e'⟩:=di.1 h6;injection e' with e1 e2;exact h2 p hp (K.inj _ _ (e1.trans e))
  have RH:Stamped (es.push ⟨enc q,z,clock⟩) (clock+1):=stamped_push hst hnk;refine⟨clock,setBlock w b (.map (es.push ⟨enc q,z,clock⟩) (clock+1)), ?_,⟨rfl,rfl,rfl,by simp [setBlock],λi _ hi=>heap_setBlock_other hb _ (λe=>hi (by rw [e]))⟩,by simp [setBlock], ?_⟩
  ·rw [getM_none h2];simp [Ge,run_underlying ht,BP hb,K.keyed.check w aP eK,h1,hz,Gj _ hb,uU,setBlock]
  intro w2 val hw2;rw [heap_setBlock_same hb] at hw2;have WZ:(es.push ⟨enc q,z,clock⟩).findIdx? (λe=>(e.born:Int)==(clock:Int))=aC es.size:=by
   rw [a8w];have hl:(es.push (⟨enc q,z,clock⟩:MapEntry)).toList[es.size]? =aC ⟨enc q,z,clock⟩:=by simp
   exact a8x RH.2.1 hl
  have aGr:(es.push (⟨enc q,z,clock⟩:MapEntry)).modify es.size (λe=> {e with val})=es.push ⟨enc q,val,clock⟩:=by grind
  refine⟨setBlock w2 b (.map (es.push ⟨enc q,val,clock⟩) (clock+1)), ?_,⟨⟨_,_,heap_setBlock_same hw2 _, ?_⟩,h.apart.put⟩,⟨_,_,heap_setBlock_same hw2 _,stamped_push hst hnk⟩,⟨rfl,rfl,rfl,by simp [setBlock],λi _ hi=>heap_setBlock_other hw2 _ (λe=>hi (by rw [e]))⟩⟩
  ·simp only [PA,aAa,BP hw2,uU];simp [asInt,goInt,asIntOf,WZ,aGr,Gj _ hw2,setBlock]
  grind [Y2]
 have ud:es.toList[j]? =aC e0:=by simpa using h3
 have hkey:∀e',es[j]? =aC e'->({e' with key:=enc q}:MapEntry).key=e'.key:=λe' N1=>by grind
 have RH:Stamped (es.modify j (λe'=> {e' with key:=enc q})) clock:=stamped_modify hst j (λe'=> {e' with key:=enc q}) (λ_ _=>rfl) (λe' _ N1=>hkey e' N1);refine⟨e0.born,setBlock w b (.map (es.modify j (λe'=> {e' with key:=enc q})) clock), ?_,⟨rfl,rfl,rfl,by simp [setBlock],λi _ hi=>heap_setBlock_other hb _ (λe=>hi (by rw [e]))⟩,by simp [setBlock], ?_⟩
 ·rw [getM_some h.apart h2];simp [Ge,run_underlying ht,BP hb,K.keyed.check w aP eK,h1,h3,h4,K.keyed.stays w eK,Gj _ hb,uU,setBlock]
 intro w2 val hw2;rw [heap_setBlock_same hb] at hw2;have h1e:(es.modify j (λe'=> {e' with key:=enc q})).toList[j]? =aC {e0 with key:=enc q}:=by grind
 have WZ:(es.modify j (λe'=> {e' with key:=enc q})).findIdx? (λe=>(e.born:Int)==(e0.born:Int))=aC j:=by rw [a8w];exact a8x (e0:= {e0 with key:=enc q}) RH.2.1 h1e
 have a4e:Stamped ((es.modify j (λe'=> {e' with key:=enc q})).modify j (λe=> {e with val})) clock:=stamped_modify RH j (λe=> {e with val}) (λ_ _=>rfl) (λ_ _ _=>rfl);refine⟨setBlock w2 b (.map ((es.modify j (λe'=> {e' with key:=enc q})).modify j (λe=> {e with val})) clock), ?_,⟨⟨_,_,heap_setBlock_same hw2 _, ?_⟩,h.apart.put⟩,⟨_,_,heap_setBlock_same hw2 _,a4e⟩,⟨rfl,rfl,rfl,by simp [setBlock],λi _ hi=>heap_setBlock_other hw2 _ (λe=>hi (by rw [e]))⟩⟩
 ·simp only [PA,aAa,BP hw2,uU];simp [asInt,goInt,asIntOf,WZ,Gj _ hw2,setBlock]
 rw [Y3 val h.apart h2,Yw,modify_eq_set _ _ _ _ h1e,Yw,modify_eq_set _ _ _ _ ud,List.set_set,List.map_set,List.map_set,hm]
end
end
section
def iE {ι α:Type} [DecidableEq ι](f:ι->α)(i:ι)(v:α):ι->α:=λj=>if j=i then v else f j
theorem OB {ι α:Type} [DecidableEq ι](f:ι->α)(i:ι)(v:α):iE f i v i=v:=ifP rfl
theorem Ai {ι α:Type} [DecidableEq ι](f:ι->α) {i j:ι}(v:α)(h:j≠i):iE f i v j=f j:=ifN h
structure uF {ι:Type}(w:aJ)(base:Nat)(cf:ι->aN)(f:ι->List Int):Prop where
 rows:∀i,w.ownsRow base 2 1 (cf i) (aA (f i)) ((f i).map (aG aF))
 far:∀i j,i≠j->(cf i).ownBlock=aB\/(cf i).ownBlock≠(cf j).ownBlock
section
variable {ι:Type} {w w1:aJ} {base:Nat} {cf:ι->aN} {f:ι->List Int}
theorem uF.made(w:aJ)(base:Nat):uF w base (λ_:ι=>aH aB 0 0) (λ_=> []):=⟨λ_=>gG _ _ _ _,λ_ _ _=>aS rfl⟩
theorem uF.kept(h:uF w base cf f) {row:Option Nat}(hg:w.grownBy w1 row)(hr:∀g,row=aC g->∀i,(cf i).ownBlock≠aC g):uF w1 base cf f:=by
 refine⟨λi=>(h.rows i).kept hg ?_,h.far⟩;cases FY:row with
 |none=>grind
 |some g=>grind
theorem uF.new(h:uF w base cf f) {g:Nat}(hg:w.heap.size<=g)(i:ι):(cf i).ownBlock≠aC g:=λe=>by have:=((h.rows i).lt _ e).2;omega
theorem uF.below(h:uF w base cf f)(hb:aa w.heap.size w w1):uF w1 base cf f:=
 h.kept (row:=aB) ⟨hb.os,hb.tape,hb.output,hb.size,λk hk _=>hb.block k hk⟩ (λ_ e=>by cases e)
theorem uF.grow [DecidableEq ι](h:uF w base cf f)(i:ι)(hg:w.grownBy w1 (cf i).ownBlock) {v':aN} {ys:List Int}(hown:w1.ownsRow base 2 1 v' (aA ys) (ys.map (aG aF)))
 (hloc:v'.ownBlock=(cf i).ownBlock\/∃g,v'.ownBlock=aC g/\w.heap.size<=g):uF w1 base (iE cf i v') (iE f i ys):=by
 have apart:∀j,j≠i->(cf j).ownBlock=aB\/(cf j).ownBlock≠v'.ownBlock:=by
  intro j hj;rcases hloc with e|⟨g,e,AB⟩
  ·rw [e];exact h.far j i hj
  exact aU λe'=>h.new AB j (e'.trans e)
 refine⟨λj=> ?_,λj k hjk=> ?_⟩
 ·by_cases hj:j=i
  ·grind [OB]
  rw [Ai _ _ hj,Ai _ _ hj];exact(h.rows j).kept hg (h.far j i hj)
 by_cases hj:j=i
 ·grind [OB,Ai]
 rw [Ai _ _ hj];by_cases hk:k=i
 ·grind [OB]
 rw [Ai _ _ hk];exact h.far j k hjk
end
end
section
section
variable {w0 wr w1 w':aJ} {e:bZ} {s n m n' g cap:Nat} {u v:aN} {xs ys xs':List aN}
theorem none_or(x:aN):x.ownBlock=aB\/x.ownBlock≠aB:=by grind
theorem iJ {wr w1:aJ} {base:Nat} {e:bZ} {s n:Nat} {u:aN} {xs:List aN}(h:wr.ownsRow base e s u n xs)(hb:aa wr.heap.size wr w1):w1.ownsRow base e s u n xs:=
 h.kept ⟨hb.os,hb.tape,hb.output,hb.size,λk hk _=>hb.block k hk⟩ (none_or u)
end
end
section
open Go.Maps Go.MapKept Go.ChangeMaps
abbrev Ix:=(Int×Int×Int) ⊕ Nat
def gthF(l:List En):Ix->List Int
 | .inl q=>gz l q
 | .inr i=>if i<9 then gy l i else []
def tK(cf:Ix->aN):Array aN:= #[cf (.inr 0),cf (.inr 1),cf (.inr 2),cf (.inr 3),cf (.inr 4),cf (.inr 5),cf (.inr 6),cf (.inr 7),cf (.inr 8)]
structure lM(w:aJ)(base b ab:Nat)(cf:Ix->aN)(ov:aN)(g:Ix->List Int)(os:List (Int×Int×Int))(W:aJ):Prop where
 map:∃m,ei aM 289 zt W b m/\(∀q,(getM q m).getD (aH aB 0 0)=cf (.inl q))/\∀p∈m,GF p.1
 yy:Uh W b
 blk:W.heap[ab]? =aC (aK (tK cf) 53 (0,0))
 tR:uF W base cf g
 ord:W.ownsRow base 289 3 ov (aA os) (J9 os)
 low:w.heap.size<=b/\w.heap.size<=ab/\b≠ab/\b<base/\ab<base/\base<=W.heap.size
 b:β w W
theorem CA {w:aJ} {b1 b2:Nat} {e1 e2:bZ} {s1 s2 n1 n2:Nat} {v1 v2:aN} {x1 x2:List aN}(h1:w.ownsRow b1 e1 s1 v1 n1 x1)(h2:w.ownsRow b2 e2 s2 v2 n2 x2)(he:e1≠e2):v1.ownBlock=aB\/v1.ownBlock≠v2.ownBlock:=by
 rcases h1.2 with⟨rfl,_⟩|⟨g1,c1,u1,rfl,_,hb1,_⟩
 ·exact .inl rfl
 rcases h2.2 with⟨rfl,_⟩|⟨g2,c2,u2,rfl,_,hb2,_⟩
 ·exact .inr (by simp [eF])
 refine .inr λe=> ?_
 have e':g1=g2:=by simpa [eF] using e
 subst e';rw [hb1] at hb2;injection hb2 with hb2;injection hb2 with _ hb2;exact he hb2
theorem a6p {κ:Type} [BEq κ] [LawfulBEq κ] {q:κ} {v:aN} {x:κ×aN}:∀(m:List (κ×aN)),x∈eV q v m->x=(q,v)\/x∈m
 | [],h=>by simp [eV] at h;exact .inl h
 |p::m,h=>by
  unfold eV at h;split at h
  ·rcases fG.1 h with h|h
   ·exact .inl h
   exact .inr (dx _ h)
  rcases fG.1 h with h|h
  ·exact .inr (h▸pG ..)
  exact(a6p m h).imp id (dx _)
section
variable {w W w2:aJ} {base b ab:Nat} {cf:Ix->aN} {ov:aN} {g:Ix->List Int} {os:List (Int×Int×Int)}
theorem lM.below {W':aJ}(h:lM w base b ab cf ov g os W)(hb:aa W.heap.size W W'):lM w base b ab cf ov g os W':=by obtain⟨m,hm,hv,hd⟩:=h.map;obtain⟨l1,l2,l3,l4,l5,l6⟩:=h.low;have hg:W.grownBy W' aB:=⟨hb.os,hb.tape,hb.output,hb.size,λi hi _=>hb.block i hi⟩;obtain⟨es,clock,h1,h2⟩:=h.yy;exact⟨⟨m,hm.of_block (hb.block b (by omega)),hv,hd⟩,⟨es,clock,(hb.block b (by omega)).trans h1,h2⟩,(hb.block ab (by omega)).trans h.blk,h.tR.below hb,h.ord.kept hg (by cases ov.ownBlock<;>simp),⟨l1,l2,l3,l4,l5,bz l6 hb.size⟩,h.b.trans (hb.mono h.b.size)⟩
theorem lM.lo(h:lM w base b ab cf ov g os W) {i:Ix} {k:Nat}(hk:(cf i).ownBlock=aC k):base<=k:=eU (h.tR.rows i) k hk
theorem lM.aJ2(h:lM w base b ab cf ov g os W) {ov':aN} {os':List (Int×Int×Int)}(hg:W.grownBy w2 ov.ownBlock)(hown:w2.ownsRow base 289 3 ov' (aA os') (J9 os')):lM w base b ab cf ov' g os' w2:=by
 obtain⟨m,hm,hv,hd⟩:=h.map;obtain⟨l1,l2,l3,l4,l5,l6⟩:=h.low;obtain⟨es,clock,h1,h2⟩:=h.yy;have hb:aC b≠ov.ownBlock:=λe=>by have:=eU h.ord b e.symm;omega
 have ha:aC ab≠ov.ownBlock:=λe=>by have:=eU h.ord ab e.symm;omega
 have hs:=hg.size;refine⟨⟨m,hm.of_block (hg.block b (by omega) hb),hv,hd⟩,⟨es,clock,(hg.block b (by omega) hb).trans h1,h2⟩,(hg.block ab (by omega) ha).trans h.blk,h.tR.kept hg λk hk i e=> ?_,hown,⟨l1,l2,l3,l4,l5,by omega⟩,h.b.grown hg h.b.size (λk hk=>by have:=eU h.ord k hk;omega)⟩;rcases CA (h.tR.rows i) h.ord (by decide) with h3|h3
 ·rw [h3] at e;cases e
 exact h3 (e.trans hk.symm)
theorem lM.entry(h:lM w base b ab cf ov g os W) {q:Int×Int×Int}(hq:GF q):
 ∃st w1,(Ge 284 (.map (aC b)) (zt q)).run aM W= .ok (bC #[cf (.inl q),goInt st]) w1/\W.grownBy w1 (aC b)/\w1.heap.size=W.heap.size/\w1.ownsRow base 2 1 (cf (.inl q)) (aA (g (.inl q))) ((g (.inl q)).map (aG aF))/\
  ∀(w2:aJ) (v':aN) (ys:List Int),w1.grownBy w2 (cf (.inl q)).ownBlock->w2.ownsRow base 2 1 v' (aA ys) (ys.map (aG aF))->(v'.ownBlock=(cf (.inl q)).ownBlock\/v'.ownBlock=aC w1.heap.size)->
   ∃w3,(PA 284 (.map (aC b)) (goInt st) v').run aM w2= .ok () w3/\lM w base b ab (iE cf (.inl q) v') ov (iE g (.inl q) ys) os w3/\
    (∀k,k<W.heap.size->k≠b->aC k≠(cf (.inl q)).ownBlock->w3.heap[k]? =W.heap[k]?)/\W.heap.size<=w3.heap.size:=by
 obtain⟨m,hm,hv,hd⟩:=h.map;obtain⟨l1,l2,l3,l4,l5,l6⟩:=h.low;obtain⟨st,w1,hr,hg1,hs1,hf⟩:=hm.entry (t:=284) (e:=53) a7h aCH (z:=aH aB 0 0) (λu=>by kernel_rfl) h.yy hd hq;rw [hv] at hr;have IM:∀i,(cf i).ownBlock≠aC b:=λi e=>by have:=h.lo e;omega
 have Qk:∀i,(cf i).ownBlock≠aC ab:=λi e=>by have:=h.lo e;omega
 have NG:ov.ownBlock=aB\/ov.ownBlock≠aC b:= .inr λe=>by have:=eU h.ord b e;omega
 have WO:=h.tR.kept hg1 (λk hk i=>by injection hk with hk;subst hk;exact IM i);refine⟨st,w1,hr,hg1,hs1,WO.rows _,λw2 v' ys hg2 hown hloc=> ?_⟩;have hs2:=hg2.size;obtain⟨w3,hr3,Bi,X8,hg3⟩:=hf w2 v' (hg2.block b (by rw [hs1];omega) (λe=>IM _ e.symm));have hs3:=hg3.size;have Ql:=WO.grow (.inl q) hg2 hown (hloc.imp id λe=>⟨_,e,aZ _⟩);have WJ:∀i,((iE cf (.inl q) v') i).ownBlock≠aC b:=λi e=>by
  by_cases hi:i= .inl q
  ·subst hi;rw [OB] at e;rcases hloc with h4|h4
   ·exact IM _ (h4.symm.trans e)
   rw [h4] at e;injection e with e;omega
  rw [Ai _ _ hi] at e;exact IM i e
 refine⟨w3,hr3,⟨⟨_,Bi,λq'=> ?_,λp hp=> ?_⟩,X8, ?_,Ql.kept hg3 (λk hk i=>by injection hk with hk;subst hk;exact WJ i), ?_,⟨l1,l2,l3,l4,l5,by omega⟩, ?_⟩,λk hk hkb Wf=> ?_,by omega⟩
 ·by_cases e:q'=q
  ·subst e;rw [OB,a3b];rfl
  rw [Ai _ _ (λe'=>e (by injection e')),a3a (Ne.symm e)];exact hv q'
 ·rcases a6p _ hp with e|hp
  ·rw [e];exact hq
  exact hd p hp
 ·have h5:tK (iE cf (.inl q) v')=tK cf:=by
   unfold tK;simp [iE]
  rw [h5];refine((hg3.block ab (by omega) (by simp;omega)).trans ((hg2.block ab (by omega) (λe=>Qk _ e.symm)).trans (hg1.block ab (by omega) (by simp;omega)))).trans h.blk
 ·have eT:=h.ord.kept hg1 NG;have eY:=eT.kept hg2 (CA eT (WO.rows (.inl q)) (by decide));exact eY.kept hg3 NG
 ·exact((h.b.grown hg1 h.b.size (λk hk=>by injection hk with hk;omega)).grown hg2 (by rw [hs1];exact h.b.size) (λk hk=>by have:=h.lo hk;omega)).grown hg3 (by have:=h.b.size;omega) (λk hk=>by injection hk with hk;omega)
 exact(hg3.block k (by omega) (by simp;omega)).trans ((hg2.block k (by omega) Wf).trans (hg1.block k hk (by simp;omega)))
theorem lM.look(h:lM w base b ab cf ov g os W) {q:Int×Int×Int}(hq:GF q):(Instr.lookup 284 (.map (aC b)) (zt q) aP).run aM W= .ok (cf (.inl q)) W:=by obtain⟨m,hm,hv,hd⟩:=h.map;have h1:=ei.look (P:=aM) aP a7h aCH (z:=aH aB 0 0) (by kernel_rfl) hm hd hq;rw [<-hv q];exact h1
theorem VH(cf:Ix->aN) {i:Nat}(hi:i<9):(tK cf)[i]? =aC (cf (.inr i)):=by
 match i,hi with
 |0,_=>rfl
 |1,_=>rfl
 |2,_=>rfl
 |3,_=>rfl
 |4,_=>rfl
 |5,_=>rfl
 |6,_=>rfl
 |7,_=>rfl
 |8,_=>rfl
theorem aDW(cf:Ix->aN) {i:Nat}(hi:i<9)(v:aN):(tK cf).setIfInBounds i v=tK (iE cf (.inr i) v):=by
 match i,hi with
 |0,_=>simp [tK,iE]
 |1,_=>simp [tK,iE]
 |2,_=>simp [tK,iE]
 |3,_=>simp [tK,iE]
 |4,_=>simp [tK,iE]
 |5,_=>simp [tK,iE]
 |6,_=>simp [tK,iE]
 |7,_=>simp [tK,iE]
 |8,_=>simp [tK,iE]
theorem lM.a1m(h:lM w base b ab cf ov g os W) {i:Nat}(hi:i<9) {v':aN} {ys:List Int}(hg:W.grownBy w2 (cf (.inr i)).ownBlock)(hown:w2.ownsRow base 2 1 v' (aA ys) (ys.map (aG aF)))
 (hloc:v'.ownBlock=(cf (.inr i)).ownBlock\/∃k,v'.ownBlock=aC k/\W.heap.size<=k):lM w base b ab (iE cf (.inr i) v') ov (iE g (.inr i) ys) os (w2.setCell ⟨ab,i,aB⟩ v'):=by
 obtain⟨m,hm,hv,hd⟩:=h.map;obtain⟨l1,l2,l3,l4,l5,l6⟩:=h.low;obtain⟨es,clock,h1,h2⟩:=h.yy;have hb:aC b≠(cf (.inr i)).ownBlock:=λe=>by have:=h.lo e.symm;omega
 have ha:aC ab≠(cf (.inr i)).ownBlock:=λe=>by have:=h.lo e.symm;omega
 have hs:=hg.size;have Fe:∀k,k≠ab->(w2.setCell ⟨ab,i,aB⟩ v').heap[k]? =w2.heap[k]? :=λk hk=>nR _ _ _ _ hk
 have hgs:w2.grownBy (w2.setCell ⟨ab,i,aB⟩ v') (aC ab):=⟨rfl,rfl,rfl,by simp,λk _ hk=>Fe k (λe=>hk (by rw [e]))⟩;have Ql:=h.tR.grow (.inr i) hg hown hloc;have WJ:∀j,((iE cf (.inr i) v') j).ownBlock≠aC ab:=λj e=>by have:=eU (Ql.rows j) ab e;omega
 have hb2:=(hg.block ab (by omega) ha).trans h.blk;refine⟨⟨m,hm.of_block ((Fe b l3).trans (hg.block b (by omega) hb)),λq=> ?_,hd⟩,⟨es,clock,(Fe b l3).trans ((hg.block b (by omega) hb).trans h1),h2⟩, ?_,Ql.kept hgs (λk hk j=>by injection hk with hk;subst hk;exact WJ j), ?_,⟨l1,l2,l3,l4,l5,by simp;omega⟩,(h.b.grown hg h.b.size (λk hk=>by have:=h.lo hk;omega)).setCell (p:=⟨ab,i,aB⟩) l2 _⟩
 ·rw [Ai _ _ (by simp)];exact hv q
 ·rw [<-aDW cf hi];exact lz hb2 i v'
 have ho:=h.ord.kept hg (CA h.ord (h.tR.rows (.inr i)) (by decide));exact ho.kept hgs (.inr λe=>by have:=eU ho ab e;omega)
end
theorem a3m(pre:List En)(x:En)(i:Nat)(hi:i<9)(hx:x.a=(i:Int)):iE (iE (gthF pre) (.inl x.spot) (gz pre x.spot++ [x.n])) (.inr i) (gy pre i++ [x.n])=gthF (pre++ [x]):=by
 funext j;cases j with
 |inl q=>
  rw [Ai _ _ (by simp)];unfold iE;simp only [gthF,a2C,Sum.inl.injEq];split
  ·rename_i e;subst e;rfl
  rfl
 |inr k=>
  unfold iE;simp only [gthF,a1z,Sum.inr.injEq,hx,Int.natCast_inj,reduceCtorEq,if_false];by_cases e:k=i
  ·subst e;simp [hi]
  simp [e,Ne.symm e]
theorem aGA:gthF []=λ_=> []:=by
 funext i;cases i with
 |inl q=>rfl
 |inr i=>unfold gthF;simp only;split<;>rfl
end
end Go.Proofs.YtdokipdchlcmeaaGreat
