/-
  Several texts in one, for one claim (printed by pack.py).
-/
import Derived.Test.YtdokipdchlcmeaaGreatPh2
import Derived.Deep.RegionLaw
import Derived.Maps.OwnSet
import Derived.Maps.OwnRows
import Derived.WideShapes
import Derived.Test.YtdokipdchlcmeaaGreatRows
import Derived.ProofKit
import Derived.OpenShut
import Derived.Lib.SmallJoins
import Derived.Deep.Slices
import Derived.Deep.Fields
import Derived.Deep.DeepHandedRow
import Derived.DeepKeys4
import Derived.WideKeyEntry
import Derived.Maps.AppendAt
import Derived.OneCell
set_option linter.all false
set_option maxRecDepth 100000
set_option maxHeartbeats 12800000
open Array renaming getElem?_eq_some_iff→fX,replicate→lH,toList_modify→Yi
open Bool renaming true→aO,false→aP,and_eq_true→je,eq_iff_iff→Fp
open Go renaming World→aJ,Value→aN,Calls→aQ,Addr→aj,cell_of_row→bH,maxLen→bM,TypeId→bY,heap_alloc_new→cO,info_parts→dJ,Ending→dU,wpList_append_own→iZ,wpAnyH_take→jx,wpAnyH_ready→pW,step_append_lies→AY,wpAnyH_done→Nx
open Go.Addr renaming block→Fm
open Go.AllReadyH renaming cons→ma,nil→oW
open Go.DataW renaming TrodAll→Ys
open Go.Ending renaming returned→aT
open Go.Instr renaming mapUpdate→EW,mapEntry→GL,entryStore→Ow,findKey→a9i
open Go.IntKind renaming i64→aF
open Go.IntWalk renaming i64_in→sj
open Go.MapKept renaming run_getObj_map→BM,run_setObj_map→GR
open Go.Maps.Keyed renaming of_law→a8l
open Go.Obj renaming cells→aK
open Go.Program renaming keyLits→UJ
open Go.Proofs renaming intOf→af
open Go.Proofs.Tryz renaming prog→aM,underlying53→mP,underlying3→xA,underlying46→yN,underlying56→Gj,func86→Lp,ntmps86→Lr,underlying132→PK,underlying185→PL,func54→UZ,ntmps54→Ug,func106→aAW,func120→aAa,func124→aAb,func143→aAg,func157→aAh,func168→aAj,func181→aAm,func34→aB2,func60→aB7,func81→aBA,func82→aBB,func83→aBC,func84→aBD,func96→aBF,ntmps106→aBJ,ntmps120→aBN,ntmps124→aBO,ntmps143→aBT,ntmps157→aBU,ntmps168→aBW,ntmps181→aBZ,ntmps34→aBn,ntmps40→aBp,ntmps60→aBt,ntmps81→aBx,ntmps82→aBy,ntmps83→aBz,ntmps84→aC0,ntmps96→aC2,underlying284→aC9
open Go.Result renaming andThen→uN
open Go.RowKit renaming Below→aY,wrap64→fW
open Go.RowKit.Below renaming refl→aX,heap_setCell→nK
open Go.Sem renaming run_bind→aAR
open Go.Value renaming int→aG,slice→aH,tuple→bB,pointer→bF,bool→bJ,agg→bQ,ownBlock→dy
open Go.WideElems renaming findIdx_arr→a8n,findIdx_born→a8o
open Go.World renaming ownsRow_nil→fh,cell?_of_block→gu,frozen?→iK,ownsRow→kB,cell?_alloc_lt→qh,size_alloc→DB,setCell→Ee,cell?_setCell_other→Gl,frozen?_of_block→Lx
open List renaming length→aA,getElem_mem→cH,length_append→cN,take_length→cT,range→dR,map_append→dZ,mem_map→df,mem_cons_of_mem→dh,mem_cons→fE,take_succ_eq_append_getElem→fF,mem_append→gL,replicate→gR,getElem?_eq_getElem→iE,mem_filter→jD,any_eq_true→kA,pairwise_cons→kf,eq_nil_of_length_eq_zero→nO,mem_range→nP,mem_cons_self→pE,length_filter_le→qg,mem_iff_getElem→tB,length_singleton→uM,flatMap_cons→wZ,any_eq_false→zQ,getElem?_eq_some_iff→zR,mem_of_getElem?→zS,length_replicate→Cs,getElem_modify→GM,getElem?_eq_none→Ld,concat_eq_append→P0,eq_nil_or_concat→P1,findIdx_getElem→UA,length_modify→a9x,nodup_cons→aA1
open Nat renaming le_refl→aa,zero_le→bK,le_trans→bz,lt_of_lt_of_le→cP,lt_or_ge→rW,mul_le_mul→vG,mul_le_mul_right→Ec,add_comm→aA6,add_mul_mod_self_right→aA7,mod_eq_of_lt→aAA
open Option renaming none→aB,some→aC
open Option.some renaming inj→pF
open Or renaming inl→aS,inr→aU
namespace Go.Proofs.YtdokipdchlcmeaaGreat
open Go.Proofs.Tryz Go.RowKit
theorem KY:(aM.info? 59).map (λi=>(i.zero,i.size,i.bytes))=aC (aC (bQ #[aG aF 0,aG aF 0,aG aF 0,aG aF 0,aG aF 0,aG aF 0]),6,48):=by kernel_rfl
theorem aIY(L:List Ob):∀u∈fK L,u.oneCell'=aO:=by intro u hu;unfold fK at hu;obtain⟨x,_,hx⟩:=List.mem_flatMap.1 hu;simp [Ob.cells] at hx;rcases hx with rfl|rfl|rfl|rfl|rfl|rfl<;>rfl
theorem aIW(L:List Ob):aA (fK L)=aA L*6:=by
 unfold fK;induction L with
 |nil=>rfl
 |cons a l ih=>rw [wZ,cN,ih];simp [Ob.cells];omega
def yy(w:aJ)(L:List Ob)(e:dU)(w':aJ):Prop:=
 ∃v,e=aT v/\w'.ownsRow w.heap.size 59 6 v (aA L) (fK L)/\β w w'
theorem a5q(L:List Ob)(v:aN)(base:Nat)(w:aJ)(hown:w.ownsRow base 59 6 v (aA L) (fK L))(hl:aA L<=1000000):
 aQ aM 96 #[v] w (yy w L):=by
 obtain⟨i0,bu,hz0,hz1,hz2⟩:=dJ KY;have hq:=Dz Gj;rcases hown.2 with⟨rfl,h0⟩|⟨g,cap,cur,rfl,hg,hh,xS,hcm,hcs,IL⟩
 ·have hL:L= []:=nO h0;subst hL;go_enter aBF,aC2
  go_wp2
  go_ret;exact⟨_,rfl,⟨by simp [fK],aS ⟨rfl,rfl⟩⟩,aX _ _⟩
 have aGF:=hown.cells (g:=g) rfl;have HC:=η aGF;have hlt:g<w.heap.size:=(fX.1 hh).1;have HL:=η (aIW L);go_enter aBF,aC2
 go_wp2_with (at_builtin;refine iZ _ rfl _ _ 56 rfl w.heap.size 59 i0 _ 6 48 Gj bu hz0 hz1 hz2 rfl (by decide) _ 0 [] rfl ?c0 ⟨g,0,aB⟩ (aA L) cap (fK L) rfl HL.o ?c1 (aIY L) ?c3 ?c4 ?c5 ?_)
 case c0=>exact Dv w _ 6
 case c1=>exact λj u hu=>(qh _ _ _ (by rw [aCV];exact hlt)).trans (HC.o j u hu)
 case c3=>simp only [bM];omega
 case c4=>omega
 case c5=>simp
 intro v' w1 hown1 dG _;have cF:=η hown1;have lO:=η dG;go_wp2
 go_ret;refine⟨_,rfl,by simpa using cF.o,σ.grown lO.o (by simp) ?_⟩;intro k hk;simp [dy] at hk;omega
theorem aFa {α:Type}(p:α->Bool)(l:List α)(k:Nat)(h:(l.take k).any p=aP):k<=aA l->k<=l.findIdx p:=by
 intro hk;rw [zQ] at h;rcases rW (l.findIdx p) k with hlt|zw
 ·exfalso;have hl:l.findIdx p<aA l:=by omega
  have h1:=UA (xs:=l) (p:=p) (w:=hl);have:l[l.findIdx p]∈l.take k:=by rw [List.mem_take_iff_getElem];exact⟨_,by omega,rfl⟩
  exact h _ this h1
 exact zw
def ub {α:Type}(p:α->Bool)(l:List α):Int:=if l.findIdx p<(aA l) then (l.findIdx p:Int) else-1
theorem RG {α:Type}(p:α->Bool) {l:List α} {k:Nat}(hk:k<aA l)(h:(l.take k).any p=aP)(hp:p l[k]=aO):(k:Int)=ub p l:=by
 have h1:=aFa p l k h (by omega);have h2:l.findIdx p<=k:=by
  rcases rW k (l.findIdx p) with hlt|zw
  ·have:=List.not_of_lt_findIdx hlt;simp [hp] at this
  exact zw
 have e:l.findIdx p=k:=by omega
 unfold ub;rw [e,ifP hk]
theorem RH {α:Type}(p:α->Bool) {l:List α}(h:l.any p=aP):(-1:Int)=ub p l:=by unfold ub;rw [ifN];intro hl;have h1:=UA (xs:=l) (p:=p) (w:=hl);rw [zQ] at h;exact h _ (cH hl) h1
theorem aH8(L:List Ob)(A:Option aj)(c:Nat)(c1 c2:aN)(p:Ob->Bool)(w:aJ)(hs:aW w w.heap.size A (fK L))(hl:aA L<=1000000)
 (hp:∀(x:Ob) (W:aJ),aY w.heap.size w W->aQ aM 216 #[x.val,c1,c2] W λe w'=>e=aT (bJ (p x))/\aY W.heap.size W w'):
 aQ aM 168 #[aH A (aA L) c,.func (.func 216) #[] #[c1,c2]] w λe w'=>e=aT (aG aF (ub p L))/\aY w.heap.size w w':=by
 have HS:=η hs;have HP:=η hp;go_enter aAj,aBW
 go_wp2
 go_loopw [5,8] (λ_ i wr=>∃k:Nat,k<=aA L/\i=aG aF k/\Hid (aY w.heap.size w wr)/\Hid ((L.take k).any p=aP)) (λ_ i _=>aA L-(af i).toNat)
 case atStart=>exact⟨0,bK _,rfl,aX _ _,rfl⟩
 case round=>
  obtain⟨k,hk,rfl,HB,HK⟩:=hrel;have hsz:=HB.o.size;by_cases hlt:k<aA L
  ·obtain⟨b,o,rfl,hb,d0,d1,d2,d3,d4,d5⟩:=vx (HS.o.below HB.o) hlt;have HA:=η (zY p hlt);cases hp:p L[k]
   ·go_wp2_with (go_at_call 216;refine kW (HP.o L[k] _ HB.o) λw1 aR=> ?_)
    go_roundw
    case rel=>exact⟨k+1,by omega,by go_num,HB.o.trans (aR.o.mono hsz),η (by rw [HA.o,HK.o,hp];rfl)⟩
    case measure=>simp [af];omega
   have HF:=η (RG p hlt HK.o hp);go_wp2_with (go_at_call 216;refine kW (HP.o L[k] _ HB.o) λw1 aR=> ?_)
   go_ret;exact⟨cj HF.o,HB.o.trans (aR.o.mono hsz)⟩
  obtain rfl:k=aA L:=by omega
  have hn:=HK.o;rw [cT] at hn;have HN:=η (RH p hn);go_wp2
  go_ret;exact⟨cj HN.o,HB.o⟩
theorem aH7(L:List Ob)(A:Option aj)(c:Nat)(c1:aN)(p:Ob->Bool)(w:aJ)(hs:aW w w.heap.size A (fK L))(hl:aA L<=1000000)
 (hp:∀(x:Ob) (W:aJ),aY w.heap.size w W->aQ aM 109 #[x.val,c1] W λe w'=>e=aT (bJ (p x))/\aY W.heap.size W w'):
 aQ aM 168 #[aH A (aA L) c,.func (.func 109) #[] #[c1]] w λe w'=>e=aT (aG aF (ub p L))/\aY w.heap.size w w':=by
 have HS:=η hs;have HP:=η hp;go_enter aAj,aBW
 go_wp2
 go_loopw [5,8] (λ_ i wr=>∃k:Nat,k<=aA L/\i=aG aF k/\Hid (aY w.heap.size w wr)/\Hid ((L.take k).any p=aP)) (λ_ i _=>aA L-(af i).toNat)
 case atStart=>exact⟨0,bK _,rfl,aX _ _,rfl⟩
 case round=>
  obtain⟨k,hk,rfl,HB,HK⟩:=hrel;have hsz:=HB.o.size;by_cases hlt:k<aA L
  ·obtain⟨b,o,rfl,hb,d0,d1,d2,d3,d4,d5⟩:=vx (HS.o.below HB.o) hlt;have HA:=η (zY p hlt);cases hp:p L[k]
   ·go_wp2_with (go_at_call 109;refine kW (HP.o L[k] _ HB.o) λw1 aR=> ?_)
    go_roundw
    case rel=>exact⟨k+1,by omega,by go_num,HB.o.trans (aR.o.mono hsz),η (by rw [HA.o,HK.o,hp];rfl)⟩
    case measure=>simp [af];omega
   have HF:=η (RG p hlt HK.o hp);go_wp2_with (go_at_call 109;refine kW (HP.o L[k] _ HB.o) λw1 aR=> ?_)
   go_ret;exact⟨cj HF.o,HB.o.trans (aR.o.mono hsz)⟩
  obtain rfl:k=aA L:=by omega
  have hn:=HK.o;rw [cT] at hn;have HN:=η (RH p hn);go_wp2
  go_ret;exact⟨cj HN.o,HB.o⟩
theorem aH9(L:List Lg)(A:Option aj)(c:Nat)(c1:aN)(p:Lg->Bool)(w:aJ)(hs:aW w w.heap.size A (bA L))(hl:aA L<=1000000)
 (hp:∀(x:Lg) (W:aJ),aY w.heap.size w W->aQ aM 171 #[x.val,c1] W λe w'=>e=aT (bJ (p x))/\aY W.heap.size W w'):
 aQ aM 210 #[aH A (aA L) c,.func (.func 171) #[] #[c1]] w λe w'=>e=aT (aG aF (ub p L))/\aY w.heap.size w w':=by
 have HS:=η hs;have HP:=η hp;go_enter func210,ntmps210
 go_wp2
 go_loopw [5,8] (λ_ i wr=>∃k:Nat,k<=aA L/\i=aG aF k/\Hid (aY w.heap.size w wr)/\Hid ((L.take k).any p=aP)) (λ_ i _=>aA L-(af i).toNat)
 case atStart=>exact⟨0,bK _,rfl,aX _ _,rfl⟩
 case round=>
  obtain⟨k,hk,rfl,HB,HK⟩:=hrel;have hsz:=HB.o.size;by_cases hlt:k<aA L
  ·obtain⟨b,o,rfl,hb,d0,d1,d2⟩:=oM (HS.o.below HB.o) hlt;have HA:=η (zY p hlt);cases hp:p L[k]
   ·go_wp2_with (go_at_call 171;refine kW (HP.o L[k] _ HB.o) λw1 aR=> ?_)
    go_roundw
    case rel=>exact⟨k+1,by omega,by go_num,HB.o.trans (aR.o.mono hsz),η (by rw [HA.o,HK.o,hp];rfl)⟩
    case measure=>simp [af];omega
   have HF:=η (RG p hlt HK.o hp);go_wp2_with (go_at_call 171;refine kW (HP.o L[k] _ HB.o) λw1 aR=> ?_)
   go_ret;exact⟨cj HF.o,HB.o.trans (aR.o.mono hsz)⟩
  obtain rfl:k=aA L:=by omega
  have hn:=HK.o;rw [cT] at hn;have HN:=η (RH p hn);go_wp2
  go_ret;exact⟨cj HN.o,HB.o⟩
section
structure fM(w:aJ)(bs base:Nat)(v:aN)(L:List Ob):Prop where
 s:w.heap[bs]? =aC (aK #[v] 146 (0,0))
 own:w.ownsRow base 59 6 v (aA L) (fK L)
section
variable {w w':aJ} {bs base:Nat} {v:aN} {L:List Ob}
theorem fM.lt(h:fM w bs base v L):bs<w.heap.size:=(fX.1 h.s).1
theorem fM.c0(h:fM w bs base v L):w.cell? ⟨bs,0,aB⟩=aC v:=bH _ _ _ _ _ (0,0) h.s
theorem fM.f0(h:fM w bs base v L):w.frozen? ⟨bs,0,aB⟩=aP:=by simp [iK,h.s]
theorem fM.below(h:fM w bs base v L)(hb:aY w.heap.size w w'):fM w' bs base v L:=by refine⟨(hb.block _ h.lt).trans h.s, ?_⟩;have hg:w.grownBy w' aB:=⟨hb.os,hb.tape,hb.output,hb.size,λi hi _=>hb.block i hi⟩;exact h.own.kept hg (by cases v.ownBlock<;>simp)
theorem fM.ne(h:fM w bs base v L):v.ownBlock≠aC bs:=by
 rcases h.own.2 with⟨rfl,_⟩|⟨g,cap,cur,rfl,_,hh,_⟩
 ·simp [dy]
 intro e;have e':g=bs:=by simpa [dy] using e
 subst e';rw [h.s] at hh;injection hh with hh;injection hh with _ ht;exact absurd ht (by decide)
end
theorem KW(L:List Ob)(v:aN)(bs base:Nat)(w:aJ)(h:fM w bs base v L)(hl:aA L<=1000000):
 aQ aM 43 #[bF (aC ⟨bs,0,aB⟩)] w (yy w L):=by
 have c0:=h.c0;have HO:=η h.own;go_enter func43,ntmps43
 go_wp2_with (go_at_call 96;refine(a5q L v base _ HO.o hl).mono ?_;rintro e w1 ⟨v1,rfl,eK,hb1⟩;have cF:=η eK;have aR:=η hb1)
 go_ret;exact⟨v1,rfl,cF.o,aR.o⟩
def xH(s:Int)(L:List Ob):Int:=aA (L.filter λx=>x.st==s)
theorem aEX(s:Int) {L:List Ob} {k:Nat}(hk:k<aA L):xH s (L.take (k+1))=xH s (L.take k)+(if L[k].st==s then 1 else 0):=by unfold xH;rw [fF hk,List.filter_append,cN];by_cases h:(L[k].st==s)=aO<;>simp [h]
theorem aEV(s:Int)(L:List Ob)(k:Nat):0<=xH s (L.take k)/\xH s (L.take k)<=k:=by unfold xH;have h1:=qg (λx:Ob=>x.st==s) (L.take k);have h2:=List.length_take_le k L;omega
theorem aEW(L:List Ob):(decide (0<xH 1 L))=L.any eZ:=by
 rw [Fp];unfold xH;rw [decide_eq_true_eq,kA];constructor
 ·intro h;have hp:0<aA (L.filter λx=>x.st==1):=by omega
  obtain⟨x,hx⟩:=List.exists_mem_of_length_pos hp;exact⟨x,(jD.1 hx).1,(jD.1 hx).2⟩
 rintro⟨x,hx,hp⟩;have:0<aA (L.filter λx=>x.st==1):=List.length_pos_of_mem (jD.2 ⟨hx,hp⟩);omega
theorem XT(L:List Ob)(s:Int)(v:aN)(bs base:Nat)(w:aJ)(h:fM w bs base v L)(hl:aA L<=1000000):
 aQ aM 107 #[bF (aC ⟨bs,0,aB⟩),aG aF s] w λe w'=>e=aT (aG aF (xH s L))/\aY w.heap.size w w':=by
 have HH:=η h;go_enter func107,ntmps107
 go_wp2_with fail
 refine(KW L v bs base _ HH.o hl).mono ?_;rintro e w1 ⟨v1,rfl,eK,hb1⟩;obtain⟨A1,c1,rfl⟩:=bL eK;have HS:=η (aW.cA eK);have aR:=η hb1;go_wp2_with fail
 go_loopw [5,11] (λn i wr=>∃k:Nat,k<=aA L/\i=aG aF k/\n=aG aF (xH s (L.take k))/\Hid (aY w1.heap.size w1 wr)) (λ_ i _=>aA L-(af i).toNat)
 case atStart=>exact⟨0,bK _,rfl,rfl,aX _ _⟩
 case round=>
  obtain⟨k,hk,rfl,rfl,HB⟩:=hrel;have hsz:=HB.o.size;obtain⟨n0,n1⟩:=aEV s L k;by_cases hlt:k<aA L
  ·obtain⟨b,o,rfl,hb,d0,d1,d2,d3,d4,d5⟩:=vx (HS.o.below HB.o) hlt;have HC:=η (aEX s hlt);cases hp:(L[k].st==s)
   ·go_wp2_with fail
    go_roundw
    case rel=>exact⟨k+1,by omega,by go_num,by rw [HC.o,hp];go_num,HB.o.alloc hsz _⟩
    case measure=>simp [af];omega
   go_wp2_with fail
   go_roundw
   case rel=>exact⟨k+1,by omega,by go_num,by rw [HC.o,hp];go_num,HB.o.alloc hsz _⟩
   case measure=>simp [af];omega
  obtain rfl:k=aA L:=by omega
  rw [cT];go_wp2_with fail
  go_ret;exact⟨rfl,aR.o.trans (HB.o.mono aR.o.size)⟩
theorem aFZ(x:Ob)(m a:Int)(bm ba:Nat)(w:aJ)(hm:w.cell? ⟨bm,0,aB⟩=aC (aG aF m))(ha:w.cell? ⟨ba,0,aB⟩=aC (aG aF a))(h1:bm<w.heap.size)(h2:ba<w.heap.size):
 aQ aM 216 #[x.val,π bm,π ba] w λe w'=>e=aT (bJ (yi m a x))/\aY w.heap.size w w':=by
 obtain⟨c,xm,xa,az,done,st⟩:=x;unfold Ob.val;go_enter func216,ntmps216
 go_wp2
 all_goals
  go_ret;refine⟨fQ ?_,(aX _ _).alloc (aa _) _⟩;rw [Fp];simp_all [yi]
theorem KX(L:List Ob)(m a:Int)(v:aN)(bs base:Nat)(w:aJ)(h:fM w bs base v L)(hl:aA L<=1000000):
 aQ aM 175 #[bF (aC ⟨bs,0,aB⟩),aG aF m,aG aF a] w λe w'=>e=aT (aG aF (ub (yi m a) L))/\aY w.heap.size w w':=by
 have hlt:=h.lt;have hb2:aY w.heap.size w ((w.alloc (aK #[aG aF m] 3)).alloc (aK #[aG aF a] 3)):=σ.alloc (by simp) _;have h':=h.below hb2;have c0:=h.c0;obtain⟨A,c,rfl⟩:=bL h'.own;have HS:=η (aW.cA h'.own)
 have hp:∀(x:Ob) (W:aJ),aY ((w.alloc (aK #[aG aF m] 3)).alloc (aK #[aG aF a] 3)).heap.size ((w.alloc (aK #[aG aF m] 3)).alloc (aK #[aG aF a] 3)) W->
  aQ aM 216 #[x.val,bF (aC ⟨w.heap.size,0,aB⟩),bF (aC ⟨w.heap.size+1,0,aB⟩)] W λe w'=>e=aT (bJ (yi m a x))/\aY W.heap.size W w':=by
  intro x W hb;have hz:=hb.size;simp at hz;refine aFZ x m a _ _ W ?_ ?_ (by omega) (by omega)
  ·rw [hb.cell (p:=⟨w.heap.size,0,aB⟩) (by simp;omega),BQ _ _ _ (by simp),cL _ _ _ _ rfl];rfl
  rw [hb.cell (p:=⟨w.heap.size+1,0,aB⟩) (by simp),cL _ _ _ _ (by simp)];rfl
 have HP:=η hp;have aV:=η hb2;go_enter func175,ntmps175
 go_wp2_with (go_at_call 168;refine kW (aH8 L A c _ _ (yi m a) _ HS.o hl HP.o) λw1 aR=> ?_)
 go_ret;exact⟨rfl,aV.o.trans (aR.o.mono (by simp;omega))⟩
end
theorem a3K {L:List Ob} {i:Nat} {f:Ob->Ob}(h:sT L)(dS:∀x,L[i]? =aC x->(f x).ok)(WM:∀x,(f x).m=x.m/\(f x).a=x.a/\(eZ (f x)=aO->eZ x=aO)):sT (L.modify i f):=by
 refine⟨?_, ?_,by simpa using h.len⟩
 ·intro y hy;obtain⟨k,hk,rfl⟩:=tB.1 hy;rw [GM];have lz:k<aA L:=by simpa using hk
  split
  ·rename_i e;subst e;exact dS _ (iE lz)
  exact h.each _ (cH lz)
 intro j k hj hk hjk oj ok' Qs;have hj':j<aA L:=by simpa using hj
 have lz:k<aA L:=by simpa using hk
 rw [GM] at oj ok' Qs;rw [GM] at Qs;have fact:∀(q:Nat) (hq:q<aA L),(eZ (if i=q then f L[q] else L[q])=aO->eZ L[q]=aO)/\(if i=q then f L[q] else L[q]).m=L[q].m/\(if i=q then f L[q] else L[q]).a=L[q].a:=by
  intro q hq;split
  ·exact⟨(WM _).2.2,(WM _).1,(WM _).2.1⟩
  exact⟨id,rfl,rfl⟩
 rw [(fact j hj').2.1,(fact j hj').2.2,(fact k lz).2.1,(fact k lz).2.2] at Qs;exact h.once j k hj' lz hjk ((fact j hj').1 oj) ((fact k lz).1 ok') Qs
theorem a7g(L:List Ob):PD L L:=⟨aa _,λ_ h _=>iE h⟩
theorem a7f {L:List Ob} {i:Nat} {f:Ob->Ob}(h:∀x,L[i]? =aC x->eZ x=aO):PD L (L.modify i f):=by
 refine⟨by simp,λk hk ho=> ?_⟩;rw [List.getElem?_modify];by_cases e:i=k
 ·subst e;rw [h _ (iE hk)] at ho;cases ho
 simp [e,hk]
theorem ML {m a:Int} {L:List Ob} {x:Ob}(h:L[dT m a L]? =aC x):eZ x=aO/\x.m=m/\x.a=a:=by
 obtain⟨hl,e⟩:=zR.1 h;have hp:=UA (xs:=L) (p:=yi m a) (w:=hl);have ni:yi m a x=aO:=by rw [<-e];exact hp
 simp [yi] at ni;exact⟨by simp [eZ,ni.1.1],ni.1.2,ni.2⟩
theorem aFc {L:List Ob}(m a n:Int)(h:sT L):sT (kV m a n L)/\PD L (kV m a n L):=by
 unfold kV;split
 ·rename_i he;have hx:∀x,L[dT m a L]? =aC x->0<=x.az/\1<=n/\n<=x.az-x.done:=by
   intro x hx;unfold j7 at he;rw [hx] at he;simp only at he;split at he
   ·cases he
   split at he
   ·cases he
   split at he
   ·cases he
   omega
  refine⟨a3K h (λx hq=> ?_) (λx=>⟨rfl,rfl,id⟩),a7f λx hq=>(ML hq).1⟩;obtain⟨h1,h2,h3⟩:=hx x hq;have ho:=h.each x (zS hq);have hs:x.size=x.az:=by unfold Ob.size;rw [ifN (by omega)]
  have d0:=ho.d0;refine⟨ho.lo,ho.hi,ho.ne,by simp only;omega, ?_⟩;show x.done+n<=x.size;rw [hs];omega
 exact⟨h,a7g _⟩
theorem aFd {L:List Ob}(m a n:Int)(h:sT L):sT (nw m a n L)/\PD L (nw m a n L):=by
 unfold nw;split
 ·rename_i he;have hx:∀x,L[dT m a L]? =aC x->1<=n/\n<=x.done:=by
   intro x hx;unfold lG at he;rw [hx] at he;simp only at he;split at he
   ·cases he
   split at he
   ·cases he
   split at he
   ·cases he
   omega
  refine⟨a3K h (λx hq=> ?_) (λx=>⟨rfl,rfl,id⟩),a7f λx hq=>(ML hq).1⟩;obtain⟨h2,h3⟩:=hx x hq;have ho:=h.each x (zS hq);have d1:=ho.d1;refine⟨ho.lo,ho.hi,ho.ne,by simp only;omega, ?_⟩;show x.done-n<=x.size;omega
 exact⟨h,a7g _⟩
structure Only(bs:Nat)(v:aN)(w w':aJ):Prop where
 os:w'.os=w.os
 tape:w'.tape=w.tape
 output:w'.output=w.output
 size:w.heap.size<=w'.heap.size
 block:∀k,k<w.heap.size->k≠bs->aC k≠v.ownBlock->w'.heap[k]? =w.heap[k]?
theorem Only.bZ {bs:Nat} {v:aN} {w w':aJ}(h:aY w.heap.size w w'):Only bs v w w':=⟨h.os,h.tape,h.output,h.size,λk hk _ _=>h.block k hk⟩
theorem Only.set {bs g i:Nat} {v:aN} {w w':aJ}(h:Only bs v w w')(hg:v.ownBlock=aC g)(u:aN):Only bs v w (w'.setCell ⟨g,i,aB⟩ u):=
 ⟨h.os,h.tape,h.output,by simpa [Ee] using h.size,λk hk h1 h2=>(nK _ _ _ _ (λe=>h2 (by rw [hg,e]))).trans (h.block k hk h1 h2)⟩
theorem Only.drewN {bs:Nat} {v:aN} {w w':aJ}(h:Only bs v w w')(q:Nat):Only bs v w (w'.drewN q):=⟨h.os,h.tape,h.output,h.size,h.block⟩
theorem Only.drew' {bs:Nat} {v:aN} {w w':aJ}(h:Only bs v w w'):Only bs v w w'.drew:=⟨h.os,h.tape,h.output,h.size,h.block⟩
def From(w:aJ)(v v':aN):Prop:=∀j,v'.ownBlock=aC j->v.ownBlock=aC j\/w.heap.size<=j
theorem qp {w:aJ} {v v':aN}(h:v'.ownBlock=v.ownBlock):From w v v':=λ_ hj=>aS (h▸hj)
def Gc(bs base:Nat)(v:aN)(L':List Ob)(E:Int)(w:aJ)(e:dU)(w':aJ):Prop:=
 ∃v',e=aT (ν E)/\fM w' bs base v' L'/\Only bs v w w'/\From w v v'
theorem VR {m a:Int} {L:List Ob}(h:dT m a L<aA L):ub (yi m a) L=(dT m a L:Int):=by unfold dT at h ⊢;unfold ub;rw [ifP h]
theorem VS {m a:Int} {L:List Ob}(h:¬dT m a L<aA L):ub (yi m a) L= -1:=by unfold dT at h;unfold ub;rw [ifN h]
theorem Ki {w:aJ} {bs base:Nat} {v:aN} {L:List Ob}(h:fM w bs base v L) {i:Nat}(hi:i<aA L):
 ∃g cap,v=aH (aC ⟨g,0,aB⟩) (aA L) cap/\g<w.heap.size/\g≠bs/\aA L<=cap/\(∀j,w.frozen? ⟨g,j,aB⟩=aP)/\
  w.cell? ⟨g,i*6,aB⟩=aC (ν L[i].c)/\w.cell? ⟨g,i*6+1,aB⟩=aC (ν L[i].m)/\w.cell? ⟨g,i*6+2,aB⟩=aC (ν L[i].a)/\
  w.cell? ⟨g,i*6+3,aB⟩=aC (ν L[i].az)/\w.cell? ⟨g,i*6+4,aB⟩=aC (ν L[i].done)/\w.cell? ⟨g,i*6+5,aB⟩=aC (ν L[i].st):=by
 rcases h.own.2 with⟨rfl,h0⟩|⟨g,cap,cur,rfl,hg,hh,xS,hcm,hcs,IL⟩
 ·omega
 have hlt:=(fX.1 hh).1;have hs:=aW.cA h.own;obtain⟨b,o,e,_,d⟩:=vx hs hi;injection e with e;injection e with e1 e2;subst e1 e2;simp only [Nat.zero_add] at d;refine⟨g,cap,rfl,hlt, ?_,xS, ?_,d⟩
 ·intro e;exact h.ne (by simp [dy,e])
 intro j;simp [iK,hh]
theorem a6x:∀(L:List Ob) (i:Nat) (hi:i<aA L) (f:Ob->Ob) (j:Nat) (u:aN) (_:j<6) (_:(f L[i]).cells=(L[i]).cells.set j u),fK (L.modify i f)=(fK L).set (i*6+j) u
 | [],i,hi,_,_,_,_,_=>absurd hi (by simp)
 |x::L,0,_,f,j,u,hj,hf=>by have hl:=hj;rw [List.modify_zero_cons];unfold fK;rw [wZ,wZ,Nat.zero_mul,Nat.zero_add,List.set_append_left _ _ hl];rw [show (f x).cells=x.cells.set j u from hf]
 |x::L,i+1,hi,f,j,u,hj,hf=>by
  rw [List.modify_succ_cons];have ih:=a6x L i (by simpa using hi) f j u hj hf;unfold fK at ih ⊢;have e:(i+1)*6+j=6+(i*6+j):=by omega
  rw [wZ,wZ,ih,e,List.set_append_right _ _ (by simp [Ob.cells])];simp [Ob.cells]
theorem fM.store {w:aJ} {bs base:Nat} {L:List Ob} {g cap:Nat}(h:fM w bs base (aH (aC ⟨g,0,aB⟩) (aA L) cap) L) {i j:Nat}(hi:i<aA L)(hj:j<6)(u:aN)(f:Ob->Ob)(hf:(f L[i]).cells=(L[i]).cells.set j u):
 fM (w.setCell ⟨g,i*6+j,aB⟩ u) bs base (aH (aC ⟨g,0,aB⟩) (aA (L.modify i f)) cap) (L.modify i f):=by
 have hne:=h.ne;refine⟨?_, ?_⟩
 ·rw [nK _ _ _ _ (λe=>hne (by simp only [dy];exact congrArg aC e.symm)),a9x];exact h.s
 rw [a6x L i hi f j u hj hf,a9x];exact(h.own.stored (i*6+j) u).1
theorem fM.drewN {w:aJ} {bs base:Nat} {v:aN} {L:List Ob}(h:fM w bs base v L)(q:Nat):fM (w.drewN q) bs base v L:=⟨h.s,h.own⟩
def Jt(m a n:Int)(L:List Ob):Int:=if debtE m a n L=0 then (dT m a L:Int) else 0
theorem RX(L:List Ob)(m a n:Int)(v:aN)(bs base:Nat)(w:aJ)(h:fM w bs base v L)(hl:aA L<=1000000):
 aQ aM 120 #[bF (aC ⟨bs,0,aB⟩),aG aF m,aG aF a,aG aF n] w λe w'=>
  e=aT (bB #[aG aF (Jt m a n L),aG aF (debtE m a n L)])/\aY w.heap.size w w':=by
 have HH:=η h;have hlt:=h.lt;by_cases hi:dT m a L<aA L
 ·have HI:=η (VR hi);have hx:L[dT m a L]? =aC L[dT m a L]:=iE hi;have hE:debtE m a n L=if L[dT m a L].az<0 then 8 else if n<1 then 1 else 0:=by unfold debtE;rw [hx]
  have HE:=η hE;have hJ:Jt m a n L=if debtE m a n L=0 then (dT m a L:Int) else 0:=rfl
  have HJ:=η hJ;generalize dT m a L=i at*;go_enter aAa,aBN
  go_wp2_with fail
  refine(KX L m a v bs base _ HH.o hl).mono ?_;rintro e w1 ⟨rfl,hb1⟩;obtain⟨g,cap,rfl,hg,_,F5,_,d0,d1,d2,d3,d4,d5⟩:=Ki (HH.o.below hb1) hi;have c0:=(HH.o.below hb1).c0;have aR:=η hb1;rw [HI.o];by_cases KF:L[i].az<0
  ·go_wp2_with fail
   go_ret2;refine⟨?_,aR.o⟩;have hv:debtE m a n L=8:=by rw [HE.o,ifP KF]
   rw [HJ.o,hv];rfl
  by_cases jJ:n<1
  ·go_wp2_with fail
   go_ret2;refine⟨?_,aR.o⟩;have hv:debtE m a n L=1:=by rw [HE.o,ifN (by omega),ifP jJ]
   rw [HJ.o,hv];rfl
  go_wp2_with fail
  go_ret2;refine⟨?_,aR.o⟩;have hv:debtE m a n L=0:=by rw [HE.o,ifN (by omega),ifN (by omega)]
  rw [HJ.o,hv];rfl
 have HI:=η (VS hi);have hx:L[dT m a L]? =aB:=Ld (by omega);have hE:debtE m a n L=8:=by unfold debtE;rw [hx]
 have HE:=η hE;go_enter aAa,aBN
 go_wp2_with fail
 refine(KX L m a v bs base _ HH.o hl).mono ?_;rintro e w1 ⟨rfl,hb1⟩;have aR:=η hb1;rw [HI.o];go_wp2_with fail
 go_ret2;refine⟨?_,aR.o⟩;rw [Jt,HE.o];rfl
theorem a6L {m a n:Int} {L:List Ob}(h:debtE m a n L≠0):j7 m a n L=debtE m a n L/\lG m a n L=debtE m a n L:=by
 unfold j7 lG debtE at*;cases hq:L[dT m a L]? with
 |none=>exact⟨rfl,rfl⟩
 |some x=>
  rw [hq] at h;simp only at h ⊢;split
  ·exact⟨rfl,rfl⟩
  split
  ·exact⟨rfl,rfl⟩
  rename_i h1 h2;rw [ifN h1,ifN h2] at h;exact absurd rfl h
theorem a2e {m a n:Int} {L:List Ob}(h:debtE m a n L=0):∃hi:dT m a L<aA L,0<=L[dT m a L].az/\1<=n/\Jt m a n L=(dT m a L:Int)/\
 j7 m a n L=(if L[dT m a L].az-L[dT m a L].done<n then 12 else 0)/\lG m a n L=(if L[dT m a L].done<n then 12 else 0):=by
 have hj:Jt m a n L=(dT m a L:Int):=by unfold Jt;rw [ifP h]
 unfold debtE j7 lG at*;by_cases hi:dT m a L<aA L
 ·rw [iE hi] at h ⊢;simp only at h ⊢;split at h
  ·cases h
  rename_i h1;split at h
  ·cases h
  rename_i h2;rw [ifN h1,ifN h2,ifN h1,ifN h2];exact⟨hi,by omega,by omega,hj,rfl,rfl⟩
 rw [Ld (by omega)] at h;cases h
theorem aIa(L:List Ob)(m a n:Int)(v:aN)(bs base:Nat)(w:aJ)(h:fM w bs base v L)(hL:sT L)(hn:n<=9223372036854775807):
 aQ aM 60 #[bF (aC ⟨bs,0,aB⟩),aG aF m,aG aF a,aG aF n] w (Gc bs base v (kV m a n L) (j7 m a n L) w):=by
 have hl:aA L<=1000000:=by have:=hL.len;omega
 have HH:=η h;by_cases hd:debtE m a n L=0
 ·obtain⟨hi,ku,jJ,hJ,hP,_⟩:=a2e hd;have dS:=hL.each _ (cH hi);obtain⟨o1,o2,o3,o4,o5⟩:=dS;have hsz:L[dT m a L].size=L[dT m a L].az:=by unfold Ob.size;rw [ifN (by omega)]
  rw [hsz] at o5;have hpl:kV m a n L=if j7 m a n L=0 then L.modify (dT m a L) (λx=> {x with done:=x.done+n}) else L:=rfl
  have HD:=η hd;have HJ:=η hJ;have HP:=η hP;have eJ:=η hpl;generalize dT m a L=i at*;clear hd hJ hP hpl h hsz o1 o3;go_enter aB7,aBt
  go_wp2_with fail
  refine(RX L m a n v bs base _ HH.o hl).mono ?_;rintro e w1 ⟨rfl,hb1⟩;rw [HJ.o,HD.o];obtain⟨g,cap,rfl,hg,hgb,F5,vW,d0,d1,d2,d3,d4,d5⟩:=Ki (HH.o.below hb1) hi;have c0:=(HH.o.below hb1).c0;have cX:=η (HH.o.below hb1);have aR:=η hb1;clear hb1;have hkb:(i:Int)<(aA L:Int):=by omega
  have eY:(0:Int)<=(i:Int):=by omega
  have yf:aF.wrap (L[i].az-L[i].done)=L[i].az-L[i].done:=sj _ (by omega);have yI:=η yf;by_cases hm:L[i].az-L[i].done<n
  ·go_wp2_with fail
   go_quiet (fail)
   clear yf;go_wp2_with fail
   go_ret;have hE:j7 m a n L=12:=by rw [HP.o,ifP hm]
   refine⟨aH (aC ⟨g,0,aB⟩) (aA L) cap,cj hE.symm, ?_,Only.bZ (below_drewN aR.o _),qp rfl⟩;rw [eJ.o,hE];exact cX.o.drewN _
  go_wp2_with fail
  go_quiet (fail)
  clear yf;have hf4:=vW (i*6+4);clear vW;go_wp2_with fail
  go_ret;have hE:j7 m a n L=0:=by rw [HP.o,ifN (by omega)]
  refine⟨aH (aC ⟨g,0,aB⟩) (aA (L.modify i (λx=> {x with done:=x.done+n}))) cap,cj hE.symm, ?_,((Only.bZ aR.o).drewN _).set rfl _,qp rfl⟩;rw [eJ.o,hE];exact(cX.o.drewN _).store hi (by decide) _ (λx=> {x with done:=x.done+n}) rfl
 have hP:=(a6L hd).1;have hpl:kV m a n L=L:=by unfold kV;rw [ifN (by rw [hP];exact hd)]
 have HP:=η hP;have eJ:=η hpl;have Ba:(debtE m a n L !=0)=aO:=by simpa using hd
 clear hP hpl h hd;go_enter aB7,aBt
 go_wp2_with fail
 refine(RX L m a n v bs base _ HH.o hl).mono ?_;rintro e w1 ⟨rfl,hb1⟩;have aR:=η hb1;clear hb1;go_wp2_with fail
 go_ret;refine⟨v,cj HP.o.symm, ?_,Only.bZ aR.o,qp rfl⟩;rw [eJ.o];exact HH.o.below aR.o
theorem aIb(L:List Ob)(m a n:Int)(v:aN)(bs base:Nat)(w:aJ)(h:fM w bs base v L)(hL:sT L)(hn:n<=9223372036854775807):
 aQ aM 84 #[bF (aC ⟨bs,0,aB⟩),aG aF m,aG aF a,aG aF n] w (Gc bs base v (nw m a n L) (lG m a n L) w):=by
 have hl:aA L<=1000000:=by have:=hL.len;omega
 have HH:=η h;by_cases hd:debtE m a n L=0
 ·obtain⟨hi,ku,jJ,hJ,_,hP⟩:=a2e hd;have dS:=hL.each _ (cH hi);obtain⟨o1,o2,o3,o4,o5⟩:=dS;have hsz:L[dT m a L].size=L[dT m a L].az:=by unfold Ob.size;rw [ifN (by omega)]
  rw [hsz] at o5;have hpl:nw m a n L=if lG m a n L=0 then L.modify (dT m a L) (λx=> {x with done:=x.done-n}) else L:=rfl
  have HD:=η hd;have HJ:=η hJ;have HP:=η hP;have eJ:=η hpl;generalize dT m a L=i at*;clear hd hJ hP hpl h hsz o1 o3;go_enter aBD,aC0
  go_wp2_with fail
  refine(RX L m a n v bs base _ HH.o hl).mono ?_;rintro e w1 ⟨rfl,hb1⟩;rw [HJ.o,HD.o];obtain⟨g,cap,rfl,hg,hgb,F5,vW,d0,d1,d2,d3,d4,d5⟩:=Ki (HH.o.below hb1) hi;have c0:=(HH.o.below hb1).c0;have cX:=η (HH.o.below hb1);have aR:=η hb1;clear hb1;have hkb:(i:Int)<(aA L:Int):=by omega
  have eY:(0:Int)<=(i:Int):=by omega
  by_cases hm:L[i].done<n
  ·go_wp2_with fail
   go_ret;have hE:lG m a n L=12:=by rw [HP.o,ifP hm]
   refine⟨aH (aC ⟨g,0,aB⟩) (aA L) cap,cj hE.symm, ?_,Only.bZ (aR.o),qp rfl⟩;rw [eJ.o,hE];exact cX.o
  have hf4:=vW (i*6+4);clear vW;go_wp2_with fail
  go_ret;have hE:lG m a n L=0:=by rw [HP.o,ifN (by omega)]
  refine⟨aH (aC ⟨g,0,aB⟩) (aA (L.modify i (λx=> {x with done:=x.done-n}))) cap,cj hE.symm, ?_,(Only.bZ aR.o).set rfl _,qp rfl⟩;rw [eJ.o,hE];exact cX.o.store hi (by decide) _ (λx=> {x with done:=x.done-n}) rfl
 have hP:=(a6L hd).2;have hpl:nw m a n L=L:=by unfold nw;rw [ifN (by rw [hP];exact hd)]
 have HP:=η hP;have eJ:=η hpl;have Ba:(debtE m a n L !=0)=aO:=by simpa using hd
 clear hP hpl h hd;go_enter aBD,aC0
 go_wp2_with fail
 refine(RX L m a n v bs base _ HH.o hl).mono ?_;rintro e w1 ⟨rfl,hb1⟩;have aR:=η hb1;clear hb1;go_wp2_with fail
 go_ret;refine⟨v,cj HP.o.symm, ?_,Only.bZ aR.o,qp rfl⟩;rw [eJ.o];exact HH.o.below aR.o
theorem aKe(x:Ob):max x.az (-x.az)=x.size:=by unfold Ob.size;split<;>omega
theorem a5s(x:Ob)(w:aJ)(h0:fw<x.az)(h1:x.az<=9223372036854775807):
 aQ aM 176 #[x.val] w λe w'=>e=aT (aG aF x.size)/\aY w.heap.size w w':=by
 have HM:=η (aKe x);unfold fw at h0;obtain⟨c,m,a,az,done,st⟩:=x;simp only at h0 h1;unfold Ob.val;go_enter func176,ntmps176
 go_wp2
 all_goals
  go_ret;refine⟨cj ?_,(aX _ _).alloc (aa _) _⟩;rw [<-HM.o];try omega
theorem aIX(w:aJ):aQ aM 33 #[] w λe w'=>e=aT (bF (aC ⟨w.heap.size,0,aB⟩))/\w.alloc (aK #[aH aB 0 0] 146)=w':=by
 go_enter func33,ntmps33
 go_wp2
 go_ret;exact⟨rfl,rfl⟩
def KT(s n z:Int):Bool:=decide (s<2)||decide (5<s)||decide (n<0)||decide (z<n)||(s==2&&n !=z)
theorem aHs {m a s n:Int} {L:List Ob}(hi:dT m a L<aA L):vw m a s n L=if KT s n L[dT m a L].size then 1 else 0:=by
 unfold vw;rw [iE hi];simp only;by_cases h:s<2\/5<s\/n<0\/L[dT m a L].size<n\/(s=2/\n≠L[dT m a L].size)
 ·rw [ifP h,ifP];unfold KT;simp only [Bool.or_eq_true,decide_eq_true_eq,je,beq_iff_eq,bne_iff_ne];omega
 rw [ifN h,ifN];unfold KT;simp only [Bool.or_eq_true,decide_eq_true_eq,je,beq_iff_eq,bne_iff_ne];omega
theorem a5i(L:List Ob)(i:Nat)(s n:Int):(L.modify i (λx=> {x with st:=s})).modify i (λx=> {x with done:=n})=L.modify i (λx=> {x with st:=s,done:=n}):=by rw [List.modify_modify_eq];rfl
theorem NR(L:List Ob)(m a s n:Int)(v:aN)(bs base:Nat)(w:aJ)(h:fM w bs base v L)(hL:sT L):
 aQ aM 124 #[bF (aC ⟨bs,0,aB⟩),aG aF m,aG aF a,aG aF s,aG aF n] w (Gc bs base v (lW m a s n L) (vw m a s n L) w):=by
 have hl:aA L<=1000000:=by have:=hL.len;omega
 have HH:=η h;by_cases hi:dT m a L<aA L
 ·have HI:=η (VR hi);have hP:=aHs (s:=s) (n:=n) hi;have hpl:lW m a s n L=if vw m a s n L=0 then L.modify (dT m a L) (λx=> {x with st:=s,done:=n}) else L:=rfl
  obtain⟨o1,o2,o3,o4,o5⟩:=hL.each _ (cH hi);have HP:=η hP;have eJ:=η hpl;generalize dT m a L=i at*;have cF:=η o1;clear hP hpl h o1 o3;go_enter aAb,aBO
  go_wp2_with fail
  refine(KX L m a v bs base _ HH.o hl).mono ?_;rintro e w1 ⟨rfl,hb1⟩;rw [HI.o];obtain⟨g,cap,rfl,hg,hgb,F5,vW,d0,d1,d2,d3,d4,d5⟩:=Ki (HH.o.below hb1) hi;have c0:=(HH.o.below hb1).c0;have aR:=η hb1;have hz1:=hb1.size;clear hb1;go_wp2_with fail
  refine(a5s L[i] _ cF.o o2).mono ?_;rintro e w2 ⟨rfl,hb2⟩;clear d0 d1 d2 d3 d4 d5 c0 vW;have Me:aY w.heap.size w w2:=aR.o.trans (hb2.mono hz1);obtain⟨g',cap',ev,Bb,hgb',aMg,vW,d0,d1,d2,d3,d4,d5⟩:=Ki (HH.o.below Me) hi;injection ev with MG _ ev2;injection MG with MG;injection MG with MG _;subst MG ev2;have c0:=(HH.o.below Me).c0;have cM:=η (HH.o.below Me);have aV:=η Me;clear hb2 Me;have hkb:(i:Int)<(aA L:Int):=by omega
  have eY:(0:Int)<=(i:Int):=by omega
  have hf4:=vW (i*6+4);have DZ:=vW (i*6+5);clear vW;generalize hz:L[i].size=z at*;have HZ:=η hz;clear hz;cases ve:KT s n z
  ·have hE:vw m a s n L=0:=by rw [HP.o,ve];rfl
   have HE:=η hE;unfold KT at ve;simp only [Bool.or_eq_false_iff,decide_eq_false_iff_not] at ve;obtain⟨⟨⟨⟨m1,m2⟩,m3⟩,m4⟩,m5⟩:=ve;have OS:=η m5;clear m5 hE;cases hs2:(s==2)
   ·go_wp2_with fail
    go_region
    go_wp2_with fail
    go_ret;refine⟨aH (aC ⟨g,0,aB⟩) (aA ((L.modify i (λx=> {x with st:=s})).modify i (λx=> {x with done:=n}))) cap,cj HE.o.symm, ?_,(((Only.bZ aV.o).drew').set rfl _).set rfl _,qp rfl⟩;rw [eJ.o,HE.o];have h1:=(cM.o.drewN 1).store (i:=i) (j:=5) hi (by decide) (aG aF s) (λx=> {x with st:=s}) rfl;have h2:=h1.store (i:=i) (j:=4) (by simpa using hi) (by decide) (aG aF n) (λx=> {x with done:=n}) (by simp [Ob.cells]);rw [a5i] at h2 ⊢;exact h2
   have hnz:(n !=z)=aP:=by have:=OS.o;rw [hs2] at this;simpa using this
   go_wp2_with fail
   go_region
   go_wp2_with fail
   go_ret;refine⟨aH (aC ⟨g,0,aB⟩) (aA ((L.modify i (λx=> {x with st:=s})).modify i (λx=> {x with done:=n}))) cap,cj HE.o.symm, ?_,(((Only.bZ aV.o).drew').set rfl _).set rfl _,qp rfl⟩;rw [eJ.o,HE.o];have h1:=(cM.o.drewN 1).store (i:=i) (j:=5) hi (by decide) (aG aF s) (λx=> {x with st:=s}) rfl;have h2:=h1.store (i:=i) (j:=4) (by simpa using hi) (by decide) (aG aF n) (λx=> {x with done:=n}) (by simp [Ob.cells]);rw [a5i] at h2 ⊢;exact h2
  have hE:vw m a s n L=1:=by rw [HP.o,ve];rfl
  have HE:=η hE;have MZ:lW m a s n L=L:=by rw [eJ.o,hE];rfl
  have wU:=η MZ;clear hE MZ;unfold KT at ve;by_cases m1:s<2
  ·go_wp2_with fail
   go_ret;exact⟨_,cj HE.o.symm,by rw [wU.o];exact cM.o,Only.bZ aV.o,qp rfl⟩
  by_cases m2:5<s
  ·go_wp2_with fail
   go_ret;exact⟨_,cj HE.o.symm,by rw [wU.o];exact cM.o,Only.bZ aV.o,qp rfl⟩
  by_cases m3:n<0
  ·go_wp2_with fail
   go_ret;exact⟨_,cj HE.o.symm,by rw [wU.o];exact cM.o,Only.bZ aV.o,qp rfl⟩
  by_cases m4:z<n
  ·go_wp2_with fail
   go_ret;exact⟨_,cj HE.o.symm,by rw [wU.o];exact cM.o,Only.bZ aV.o,qp rfl⟩
  rw [decide_eq_false m1,decide_eq_false m2,decide_eq_false m3,decide_eq_false m4] at ve;simp only [Bool.false_or,je] at ve;obtain⟨hs2,hnz⟩:=ve;go_wp2_with fail
  go_ret;exact⟨_,cj HE.o.symm,by rw [wU.o];exact cM.o,Only.bZ aV.o,qp rfl⟩
 have HI:=η (VS hi);have hE:vw m a s n L=8:=by unfold vw;rw [Ld (by omega)]
 have MZ:lW m a s n L=L:=by unfold lW;rw [hE];rfl
 have HE:=η hE;have wU:=η MZ;clear hE MZ h;go_enter aAb,aBO
 go_wp2_with fail
 refine(KX L m a v bs base _ HH.o hl).mono ?_;rintro e w1 ⟨rfl,hb1⟩;rw [HI.o];have aR:=η hb1;clear hb1;go_wp2_with fail
 go_ret;exact⟨v,cj HE.o.symm,by rw [wU.o];exact HH.o.below aR.o,Only.bZ aR.o,qp rfl⟩
theorem a2V(x:Ob)(cy:Int)(bc:Nat)(w:aJ)(hc:w.cell? ⟨bc,0,aB⟩=aC (aG aF cy))(h1:bc<w.heap.size):
 aQ aM 109 #[x.val,π bc] w λe w'=>e=aT (bJ (decide (cy<=x.c)))/\aY w.heap.size w w':=by
 obtain⟨c,xm,xa,az,done,st⟩:=x;unfold Ob.val;go_enter func109,ntmps109
 go_wp2
 go_ret;exact⟨rfl,(aX _ _).alloc (aa _) _⟩
theorem X9 {α:Type}(p:α->Bool)(l:List α):decide (0<=ub p l)=l.any p:=by
 rw [Fp,decide_eq_true_eq,kA];unfold ub;constructor
 ·intro h;split at h
  ·rename_i hl;exact⟨_,cH hl,UA (w:=hl)⟩
  omega
 rintro⟨x,hx,hp⟩;rw [ifP (List.findIdx_lt_length_of_exists ⟨x,hx,hp⟩)];omega
theorem a3x(L:List Ob)(A:Option aj)(c:Nat)(c1:aN)(p:Ob->Bool)(w:aJ)(hs:aW w w.heap.size A (fK L))(hl:aA L<=1000000)
 (hp:∀(x:Ob) (W:aJ),aY w.heap.size w W->aQ aM 109 #[x.val,c1] W λe w'=>e=aT (bJ (p x))/\aY W.heap.size W w'):
 aQ aM 108 #[aH A (aA L) c,.func (.func 109) #[] #[c1]] w λe w'=>e=aT (bJ (L.any p))/\aY w.heap.size w w':=by
 have HI:=η (aH7 L A c c1 p w hs hl hp);have HA:=η (X9 p L);go_enter func108,ntmps108
 go_wp2_with (go_at_call 168;refine kW HI.o λw1 aR=> ?_)
 go_ret;exact⟨fQ HA.o,aR.o⟩
theorem aG9(L:List Lg)(A:Option aj)(c:Nat)(c1:aN)(p:Lg->Bool)(w:aJ)(hs:aW w w.heap.size A (bA L))(hl:aA L<=1000000)
 (hp:∀(x:Lg) (W:aJ),aY w.heap.size w W->aQ aM 171 #[x.val,c1] W λe w'=>e=aT (bJ (p x))/\aY W.heap.size W w'):
 aQ aM 170 #[aH A (aA L) c,.func (.func 171) #[] #[c1]] w λe w'=>e=aT (bJ (L.any p))/\aY w.heap.size w w':=by
 have HI:=η (aH9 L A c c1 p w hs hl hp);have HA:=η (X9 p L);go_enter func170,ntmps170
 go_wp2_with (go_at_call 210;refine kW HI.o λw1 aR=> ?_)
 go_ret;exact⟨fQ HA.o,aR.o⟩
theorem aHg(x y:Lg)(Pg:Nat)(w:aJ)(h0:w.cell? ⟨Pg,0,aB⟩=aC (aG aF y.m))(h1:w.cell? ⟨Pg,1,aB⟩=aC (aG aF y.a))(hb:Pg<w.heap.size):
 aQ aM 171 #[x.val,π Pg] w λe w'=>e=aT (bJ (KS y x))/\aY w.heap.size w w':=by
 obtain⟨xm,xa,xn⟩:=x;unfold Lg.val;go_enter func171,ntmps171
 go_wp2
 all_goals
  go_ret;refine⟨fQ ?_,(aX _ _).alloc (aa _) _⟩;rw [Fp];simp_all [KS]
theorem aCg(n:Int)(h:aL n):(dC (-n) !=0)=(n==fw):=by
 rw [Fp];unfold dC fw;unfold aL at h;by_cases hI:aL (-n)
 ·rw [ifP hI];unfold aL at hI;simp;omega
 rw [ifN hI];unfold aL at hI;simp;omega
theorem aW.left {w:aJ} {B:Nat} {A:Option aj} {xs ys:List aN}(h:aW w B A (xs++ys)):aW w B A xs:=λj u hu=>
 h j u (by rw [List.getElem?_append_left (zR.1 hu).1];exact hu)
theorem aHf(bE:List Lg)(i:Nat):bA bE=bA (bE.take i)++bA (bE.drop i):=by unfold bA;rw [<-List.flatMap_append,List.take_append_drop]
theorem a5t(bE:List Lg)(A:Option aj)(c i:Nat)(w:aJ)(hs:aW w w.heap.size A (bA bE))(hi:i<aA bE)(hl:aA bE<=1000000)(hc:aA bE<=c)(hI:aL bE[i].n):
 aQ aM 110 #[aH A (aA bE) c,aG aF i] w λe w'=>e=aT (bJ (yu bE i hi))/\aY w.heap.size w w':=by
 have HS:=η hs;have HI:=η hI;have HE:=η (aCg _ hI);obtain⟨b,o,rfl,hb,d0,d1,d2⟩:=oM hs hi;clear hs hI;have hl2:aA (bE.take i)=i:=List.length_take_of_le (by omega);have a4G:aQ aM 170 #[aH (aC ⟨b,o,aB⟩) i c,.func (.func 171) #[] #[bF (aC ⟨w.heap.size,0,aB⟩)]] (w.alloc (aK #[aG aF bE[i].m,aG aF bE[i].a,aG aF bE[i].n] 76)) λe w'=>e=aT (bJ ((bE.take i).any (KS bE[i])))/\aY (w.heap.size+1) (w.alloc (aK #[aG aF bE[i].m,aG aF bE[i].a,aG aF bE[i].n] 76)) w':=by
  have Di:aW (w.alloc (aK #[aG aF bE[i].m,aG aF bE[i].a,aG aF bE[i].n] 76)) (w.alloc (aK #[aG aF bE[i].m,aG aF bE[i].a,aG aF bE[i].n] 76)).heap.size (aC ⟨b,o,aB⟩) (bA (bE.take i)):=by have h1:=HS.o;rw [aHf bE i] at h1;exact(h1.left.below σ).mono (by simp)
  have h:=aG9 (bE.take i) (aC ⟨b,o,aB⟩) c (bF (aC ⟨w.heap.size,0,aB⟩)) (KS bE[i]) (w.alloc (aK #[aG aF bE[i].m,aG aF bE[i].a,aG aF bE[i].n] 76)) Di (by omega) (λx W oJ=>by
   have hz:=oJ.size;simp at hz;have hcell:=λj=>(oJ.cell (p:=⟨w.heap.size,j,aB⟩) (by simp)).trans (cL _ _ _ j rfl)
   exact aHg x bE[i] _ W (hcell 0) (hcell 1) (by omega))
  rw [hl2] at h;exact h.mono λe w' ⟨h1,h2⟩=>⟨h1,h2.mono (by simp)⟩
 have HC:=η a4G;have hW0:aY w.heap.size w (w.alloc (aK #[aG aF bE[i].m,aG aF bE[i].a,aG aF bE[i].n] 76)):=(aX _ _).alloc (aa _) _;have mL:=η hW0;clear a4G hl2 hW0;go_enter func110,ntmps110
 go_wp2_with fail
 refine(RU bE[i].n _ HI.o).mono ?_;rintro e w1 ⟨rfl,rfl⟩;cases hz:(bE[i].n==0)
 ·cases hm:(bE[i].n==fw)
  ·have hE:(dC (-bE[i].n) !=0)=aP:=HE.o.trans hm;have hT:(bE.take i).any (KS bE[i])=yu bE i hi:=by unfold yu SY;rw [hz,hm];rfl
   have HT:=η hT;clear hT;go_wp2_with (go_at_call 170;refine HC.o.mono ?_;rintro e w2 ⟨rfl,hb2⟩;have aV:=η hb2;clear hb2)
   go_ret;exact⟨fQ HT.o,mL.o.trans (aV.o.mono (by omega))⟩
  have hE:(dC (-bE[i].n) !=0)=aO:=HE.o.trans hm;have hT:aO=yu bE i hi:=by unfold yu SY;rw [hz,hm];rfl
  have HT:=η hT;clear hT;go_wp2_with fail
  go_ret;exact⟨fQ HT.o,mL.o⟩
 have hT:aO=yu bE i hi:=by unfold yu SY;rw [hz];rfl
 have HT:=η hT;clear hT;go_wp2_with fail
 go_ret;exact⟨fQ HT.o,mL.o⟩
theorem gP {w:aJ} {base:Nat} {e t:bY} {size n g:Nat} {v:aN} {xs:List aN} {cs:Array aN}(h:w.ownsRow base e size v n xs)(hg:w.heap[g]? =aC (aK cs t (0,0)))(hne:t≠e):v.ownBlock≠aC g:=by
 rcases h.2 with⟨rfl,_⟩|⟨g',cap,cur,rfl,_,hh,_⟩
 ·simp [dy]
 intro e';have e2:g'=g:=by simpa [dy] using e'
 subst e2;rw [hg] at hh;injection hh with hh;injection hh with _ ht;exact hne ht
theorem aCz {bE:List Lg} {i:Nat} {hi:i<aA bE}(h:yu bE i hi=aO):Eg bE=aO:=by unfold Eg;rw [kA];exact⟨i,nP.2 hi,by rw [dif_pos hi];exact h⟩
theorem aCy {bE:List Lg}(h:∀i (hi:i<aA bE),yu bE i hi=aP):Eg bE=aP:=by unfold Eg;rw [zQ];intro i hi;rw [dif_pos (nP.1 hi),h];simp
theorem NQ(L:List Ob)(x:Ob):fK (L++ [x])=fK L++x.cells:=by unfold fK;simp
theorem aHr {α β:Type}(f:α->β) {l:List α} {k:Nat}(hk:k<aA l):(l.take (k+1)).map f=(l.take k).map f++ [f l[k]]:=by rw [fF hk,dZ];rfl
theorem aW.only {w w':aJ} {bs:Nat} {v:aN} {A:Option aj} {xs:List aN}(h:aW w w.heap.size A xs)(hA:xs≠ []->∀p,A=aC p->p.block≠bs/\aC p.block≠v.ownBlock)(ho:Only bs v w w'):aW w' w.heap.size A xs:=λj u hu=>by obtain⟨b,o,e,hb,hc⟩:=h j u hu;obtain⟨h1,h2⟩:=hA (λe=>by rw [e] at hu;simp at hu) _ e;exact⟨b,o,e,hb,(gu (w:=w) (a:=⟨b,o+j,aB⟩) (ho.block b hb h1 h2)).trans hc⟩
theorem MQ {wr w3:aJ} {o1 o2:Obj} {row:Option Nat}(hg:((wr.alloc o1).alloc o2).drew.grownBy w3 row) {k:Nat}(hk:k<wr.heap.size)(hne:aC k≠row):w3.heap[k]? =wr.heap[k]? :=by have h1:=hg.block k (by show k<((wr.alloc o1).alloc o2).heap.size;simp;omega) hne;rw [h1];show ((wr.alloc o1).alloc o2).heap[k]? =_;rw [fG _ _ (by simp;omega),fG _ _ hk]
theorem a3h {wr w3:aJ} {o1 o2:Obj} {row:Option Nat}(hg:((wr.alloc o1).alloc o2).drew.grownBy w3 row)(hne:aC wr.heap.size≠row):w3.heap[wr.heap.size]? =aC o1:=by have h1:=hg.block wr.heap.size (by show wr.heap.size<((wr.alloc o1).alloc o2).heap.size;simp;omega) hne;rw [h1];show ((wr.alloc o1).alloc o2).heap[wr.heap.size]? =_;rw [fG _ _ (by simp)];exact cO wr o1
theorem a6B {L:List Ob} {cy:Int} {bE:List Lg} {k:Nat} {eE:k<aA bE} {bs base g cap:Nat} {v v1:aN} {w wr w3:aJ} {o1 o2:Obj}
 (Mu:Only bs v w wr) (hb3:w3.heap[bs]? =aC (aK #[v1] 146 (0,0))) (hr3:w3.heap[w.heap.size]? =aC (aK #[ν cy] 3 (0,0)))
 (j5:w3.ownsRow base 59 6 (aH (aC ⟨g,0,aB⟩) (aA (L++(bE.take k).map (gA cy))+1) cap) (aA (L++(bE.take k).map (gA cy))+1) (fK (L++(bE.take k).map (gA cy))++(gA cy bE[k]).cells))
 (hg3:((wr.alloc o1).alloc o2).drew.grownBy w3 v1.ownBlock) (Da:From w v v1) (hat:v1.ownBlock=aC g\/g=wr.heap.size+1+1) (Qe:(bE.take (k+1)).map (gA cy)=(bE.take k).map (gA cy)++ [gA cy bE[k]]) (F4:bs≠w.heap.size):
 (∃v',fM (w3.setCell ⟨bs,0,aB⟩ (aH (aC ⟨g,0,aB⟩) (aA (L++(bE.take k).map (gA cy))+1) cap)) bs base v' (L++(bE.take (k+1)).map (gA cy))/\From w v v')/\
  Only bs v w (w3.setCell ⟨bs,0,aB⟩ (aH (aC ⟨g,0,aB⟩) (aA (L++(bE.take k).map (gA cy))+1) cap))/\
  (w3.setCell ⟨bs,0,aB⟩ (aH (aC ⟨g,0,aB⟩) (aA (L++(bE.take k).map (gA cy))+1) cap)).heap[w.heap.size]? =aC (aK #[ν cy] 3 (0,0)):=by
 have hrow:fK (L++(bE.take (k+1)).map (gA cy))=fK (L++(bE.take k).map (gA cy))++(gA cy bE[k]).cells:=by rw [Qe,<-List.append_assoc,NQ]
 have aGd:aA (L++(bE.take (k+1)).map (gA cy))=aA (L++(bE.take k).map (gA cy))+1:=by rw [Qe,<-List.append_assoc,cN,uM]
 have aGl:=gP j5 hb3 (by decide);have hz2:=Mu.size;refine⟨⟨aH (aC ⟨g,0,aB⟩) (aA (L++(bE.take k).map (gA cy))+1) cap,⟨?_, ?_⟩, ?_⟩,⟨hg3.os.trans Mu.os,hg3.tape.trans Mu.tape,hg3.output.trans Mu.output, ?_, ?_⟩, ?_⟩
 ·rw [lu hb3];rfl
 ·rw [hrow,aGd];exact kK j5 aGl _
 ·intro j hj;have e:g=j:=by simpa [dy] using hj
  subst e;rcases hat with h|h
  ·exact Da g h
  right;omega
 ·have h2:=hg3.size;have h4:((wr.alloc o1).alloc o2).drew.heap.size=wr.heap.size+2:=by show ((wr.alloc o1).alloc o2).heap.size=_;simp
  simp only [Ee,Array.size_modify];omega
 ·intro j hj hjb hjo;rw [nK _ _ _ _ hjb,MQ hg3 (by omega) (λe=> ?_)]
  ·exact Mu.block j hj hjb hjo
  rcases Da j e.symm with h|h
  ·exact hjo h.symm
  omega
 rw [nK _ _ _ _ (λe=>F4 e.symm)];exact hr3
theorem aIZ(L:List Ob)(cy:Int)(bE:List Lg)(A:Option aj)(c:Nat)(v:aN)(bs base:Nat)(w:aJ)(h:fM w bs base v L)(hL:sT L)(hs:aW w w.heap.size A (bA bE))(hA:bE≠ []->∀p,A=aC p->p.block≠bs/\aC p.block≠v.ownBlock)(hbase:base<=w.heap.size)
 (hn:aA bE<=100000) (hc:aA bE<=c) (hI:∀y∈bE,aL y.n):
 aQ aM 54 #[bF (aC ⟨bs,0,aB⟩),aG aF cy,aH A (aA bE) c] w (Gc bs base v (nr cy bE L) (rA cy bE L) w):=by
 have aMn:=hL.len;have hl:aA L<=1000000:=by omega
 have hlt:=h.lt;have hW0:aY w.heap.size w (w.alloc (aK #[aG aF cy] 3)):=(aX _ _).alloc (aa _) _;have HH:=η (h.below hW0);have mL:=η hW0;have HS:=η hs;have HI:=η hI;have HA:=η hA;have c0:=(h.below hW0).c0;obtain⟨A0,k0,hv⟩:=bL h.own;have a3l:rA cy bE L=if 1024-(aA L:Int)<(aA bE) then 6 else if L.any eZ then 17 else if L.any (λx=>decide (cy<=x.c)) then 7 else if Eg bE then 1 else 0:=rfl
 have HE:=η a3l;have a3q:nr cy bE L=if rA cy bE L=0 then L++bE.map (gA cy) else L:=rfl
 have HL:=η a3q;have xy:=η (aEW L);subst hv;clear h hs hI hA hW0 a3l a3q;by_cases h6:1024-(aA L:Int)<aA bE
 ·have hE:rA cy bE L=6:=by rw [HE.o,ifP h6]
  have hO:nr cy bE L=L:=by rw [HL.o,hE];rfl
  have CS:=η hE;have jh:=η hO;clear hE hO;go_enter UZ,Ug
  go_wp2_with fail
  go_ret;exact⟨_,cj CS.o.symm,by rw [jh.o];exact HH.o,Only.bZ mL.o,qp rfl⟩
 cases DU:L.any eZ
 ·cases h7:L.any (λx=>decide (cy<=x.c))
  ·have a3j:decide (0<xH 1 L)=aP:=xy.o.trans DU;have MX:rA cy bE L=if Eg bE then 1 else 0:=by rw [HE.o,ifN h6,DU,h7];rfl
   have ZF:=η MX;have H7:=η h7;clear MX DU h7;obtain⟨i0,bu,hz0,ft,hz2⟩:=dJ KY;go_enter UZ,Ug
   go_wp2_with fail
   refine(XT L 1 _ bs base _ HH.o hl).mono ?_;rintro e w1 ⟨rfl,hb1⟩;have yB:=η (HH.o.below hb1);have c1:=(HH.o.below hb1).c0;have aR:=η hb1;have hz1:=hb1.size;simp at hz1;clear hb1;go_wp2_with fail
   refine(a3x L A0 k0 _ (λx=>decide (cy<=x.c)) _ (aW.cA yB.o.own) hl ?_).mono ?_
   ·intro x W oJ;have hzW:=oJ.size;refine a2V x cy _ W ?_ (by omega);rw [oJ.cell (p:=⟨w.heap.size,0,aB⟩) (by simp;omega),aR.o.cell (p:=⟨w.heap.size,0,aB⟩) (by simp),cL _ _ _ _ rfl];rfl
   rintro e w2 ⟨rfl,hb2⟩;have aV:=η hb2;have xV:=hb2.size;clear hb2;rw [H7.o];have gD:Hid (aY w.heap.size w w2):=mL.o.trans ((aR.o.mono (by simp)).trans (aV.o.mono (by omega)));have JF:=η (yB.o.below aV.o);have bU:w2.heap[w.heap.size]? =aC (aK #[aG aF cy] 3 (0,0)):=by rw [aV.o.block _ (by omega),aR.o.block _ (by simp)];exact cO w _
   have dL:=η bU;have cM:Hid (aW w2 w2.heap.size A (bA bE)):=(HS.o.below gD.o).mono (by omega);clear bU c1 c0;go_wp2_with fail
   go_loopw [7,36] (λ_ i wr=>∃k:Nat,k<=aA bE/\i=aG aF k/\Hid (aY w2.heap.size w2 wr)/\Hid (∀j (hj:j<aA bE),j<k->yu bE j hj=aP)) (λ_ i _=>aA bE-(af i).toNat)
   case atStart=>exact⟨0,bK _,rfl,aX _ _,λ_ _ h=>absurd h (by omega)⟩
   case round=>
    obtain⟨k,hk,rfl,HB,HK⟩:=hrel;have hsz:=HB.o.size;by_cases eE:k<aA bE
    ·have OH:=η (HI.o bE[k] (cH eE));cases ht:yu bE k eE
     ·go_wp2_with (go_at_call 110;refine(a5t bE A c k _ ((cM.o.below HB.o).mono hsz) eE (by omega) hc OH.o).mono ?_;rintro e w3 ⟨rfl,hb3⟩;have ag:=η hb3;clear hb3)
      go_roundw
      case rel=>exact⟨k+1,by omega,by go_num,HB.o.trans (ag.o.mono hsz),η (λj hj hjk=>by
       rcases rW j k with h1|h1
       ·exact HK.o j hj h1
       obtain rfl:j=k:=by omega
       exact ht)⟩
      case measure=>simp [af];omega
     have hE:rA cy bE L=1:=by rw [ZF.o,aCz ht];rfl
     have hO:nr cy bE L=L:=by rw [HL.o,hE];rfl
     have CS:=η hE;have jh:=η hO;clear hE hO;go_wp2_with (go_at_call 110;refine(a5t bE A c k _ ((cM.o.below HB.o).mono hsz) eE (by omega) hc OH.o).mono ?_;rintro e w3 ⟨rfl,hb3⟩;have ag:=η hb3;clear hb3)
     go_ret;have iO:aY w2.heap.size w2 w3:=HB.o.trans (ag.o.mono hsz);exact⟨_,cj CS.o.symm,by rw [jh.o];exact JF.o.below iO,Only.bZ (gD.o.trans (iO.mono (by omega))),qp rfl⟩
    obtain rfl:k=aA bE:=by omega
    have hE:rA cy bE L=0:=by rw [ZF.o,aCy (λj hj=>HK.o j hj hj)];rfl
    have hO:nr cy bE L=L++bE.map (gA cy):=by rw [HL.o,hE];rfl
    have CS:=η hE;have jh:=η hO;clear hE hO;obtain⟨wo,rfl⟩:∃wo:aJ,wo=wr:=⟨_,rfl⟩;have HHo:=η (JF.o.below HB.o);have a9E:Hid (wo.heap[w.heap.size]? =aC (aK #[aG aF cy] 3 (0,0))):=(HB.o.block _ (by omega)).trans dL.o;have HWo:Hid (aY w.heap.size w wo):=gD.o.trans (HB.o.mono (by omega));go_wp2_with fail
    go_loopw [9,45] (λ_ i wr=>∃k:Nat,k<=aA bE/\i=aG aF k/\Hid (∃v',fM wr bs base v' (L++(bE.take k).map (gA cy))/\From w (aH A0 (aA L) k0) v')/\Hid (Only bs (aH A0 (aA L) k0) w wr)/\Hid (wr.heap[w.heap.size]? =aC (aK #[aG aF cy] 3 (0,0)))) (λ_ i _=>aA bE-(af i).toNat)
    case atStart=>exact⟨0,bK _,rfl,⟨aH A0 (aA L) k0,by simpa using HHo.o,λj hj=>aS hj⟩,Only.bZ HWo.o,a9E.o⟩
    case round=>
     obtain⟨k,hk,rfl,HSh,LM,J7⟩:=hrel;obtain⟨v1,s8,Da⟩:=HSh.o;have wR:=η Da;clear Da;by_cases eE:k<aA bE
     ·have a3k:=HS.o.only (λhx=>HA.o λe=>hx (by rw [e];rfl)) LM.o;have aN2:=LM.o.size;have hlen:aA (L++(bE.take k).map (gA cy))=aA L+k:=by simp;omega
      have JK:=η hlen;obtain⟨b,o,rfl,hb,n0,n1,n2⟩:=oM a3k eE;have a3z:wr.cell? ⟨w.heap.size,0,aB⟩=aC (aG aF cy):=ρ J7.o;have a4B:w.heap.size<wr.heap.size:=(fX.1 J7.o).1;have s0:=s8.c0;have sf:=s8.f0;have Rv:=s8.lt;have QO:bs≠w.heap.size:=by omega
      have yF:=η s8;have JM:=η (aHr (gA cy) eE);have aMa:b≠bs:=(HA.o (λe=>by rw [e] at eE;simp at eE) _ rfl).1;have hbr:bs≠wr.heap.size:=by omega
      have aMc:wr.heap.size≠bs:=by omega
      have aMd:w.heap.size≠bs:=by omega
      have QV:∀o,(wr.alloc o).frozen? ⟨bs,0,aB⟩=aP:=λo=>(Lx (w:=wr) (fG _ _ Rv)).trans sf
      have Hx:∀o o',((wr.alloc o).alloc o').frozen? ⟨bs,0,aB⟩=aP:=λo o'=>(Lx (w:=wr) ((fG _ _ (by simp;omega)).trans (fG _ _ Rv))).trans sf
      clear s8 a3k hlen;go_wp2_with fail
      refine wp_region_held_drew (S:=(λw'=>w'.cell? ⟨w.heap.size,0,aB⟩=aC (aG aF cy)/\w'.cell? ⟨wr.heap.size,0,aB⟩=aC (aG aF bE[k].m)/\w'.cell? ⟨wr.heap.size,1,aB⟩=aC (aG aF bE[k].a)/\w'.cell? ⟨wr.heap.size,2,aB⟩=aC (aG aF bE[k].n))) (by kernel_rfl) (by go_keep) (λhHeld=> ?_);refine jx (i:=0) (v:=bF (aC ⟨bs,0,aB⟩)) rfl (by kernel_rfl) (by kernel_rfl) (by kernel_rfl) (λ_ _ _ h=>h) (aS ⟨by rfl,λw' hSw=>by dsimp only at hSw;go_simp⟩) hHeld ?_;refine jx (i:=1) (v:=bF (aC ⟨bs,0,aB⟩)) rfl (by kernel_rfl) (by kernel_rfl) (by kernel_rfl) (λ_ _ _ h=>h) (aS ⟨by rfl,λw' hSw=>by dsimp only at hSw;go_simp⟩) hHeld ?_;refine jx (i:=2) (v:=bF (aC ⟨bs,0,aB⟩)) rfl (by kernel_rfl) (by kernel_rfl) (by kernel_rfl) (λ_ _ _ h=>h) (aS ⟨by rfl,λw' hSw=>by dsimp only at hSw;go_simp⟩) hHeld ?_;refine jx (i:=3) (v:=bF (aC ⟨bs,0,aB⟩)) rfl (by kernel_rfl) (by kernel_rfl) (by kernel_rfl) (λ_ _ _ h=>h) (aS ⟨by rfl,λw' hSw=>by dsimp only at hSw;go_simp⟩) hHeld ?_;refine jx (i:=5) (v:=aG aF cy) rfl (by kernel_rfl) (by kernel_rfl) (by kernel_rfl) (λ_ _ _ h=>h) (aS ⟨by rfl,λw' hSw=>by dsimp only at hSw;go_simp⟩) hHeld ?_;refine jx (i:=6) (v:=bF (aC ⟨wr.heap.size,0,aB⟩)) rfl (by kernel_rfl) (by kernel_rfl) (by kernel_rfl) (λ_ _ _ h=>h) (aS ⟨by rfl,λw' hSw=>by dsimp only at hSw;go_simp⟩) hHeld ?_;refine jx (i:=7) (v:=aG aF bE[k].m) rfl (by kernel_rfl) (by kernel_rfl) (by kernel_rfl) (λ_ _ _ h=>h) (aS ⟨by rfl,λw' hSw=>by dsimp only at hSw;go_simp⟩) hHeld ?_;refine jx (i:=8) (v:=bF (aC ⟨wr.heap.size,1,aB⟩)) rfl (by kernel_rfl) (by kernel_rfl) (by kernel_rfl) (λ_ _ _ h=>h) (aS ⟨by rfl,λw' hSw=>by dsimp only at hSw;go_simp⟩) hHeld ?_;refine jx (i:=9) (v:=aG aF bE[k].a) rfl (by kernel_rfl) (by kernel_rfl) (by kernel_rfl) (λ_ _ _ h=>h) (aS ⟨by rfl,λw' hSw=>by dsimp only at hSw;go_simp⟩) hHeld ?_;refine jx (i:=10) (v:=bF (aC ⟨wr.heap.size,2,aB⟩)) rfl (by kernel_rfl) (by kernel_rfl) (by kernel_rfl) (λ_ _ _ h=>h) (aS ⟨by rfl,λw' hSw=>by dsimp only at hSw;go_simp⟩) hHeld ?_;refine jx (i:=11) (v:=aG aF bE[k].n) rfl (by kernel_rfl) (by kernel_rfl) (by kernel_rfl) (λ_ _ _ h=>h) (aS ⟨by rfl,λw' hSw=>by dsimp only at hSw;go_simp⟩) hHeld ?_;refine jx (i:=12) (v:=bQ #[aG aF cy,aG aF bE[k].m,aG aF bE[k].a,aG aF bE[k].n,aG aF 0,aG aF 1]) rfl (by kernel_rfl) (by kernel_rfl) (by kernel_rfl) (λ_ _ _ h=>h) (aS ⟨by rfl,λw' hSw=>by dsimp only at hSw;go_simp⟩) hHeld ?_;refine pW (rs:= [4,13]) (by kernel_rfl) (by simp) ?_;refine ma rfl (λK hK=> ?_) (ma rfl (λK hK=> ?_) oW)
      ·go_simp
       refine hK.o _ _ hHeld (λhHeld=> ?_);clear hK K;refine pW (rs:= [13]) (by kernel_rfl) (by simp) ?_;refine ma rfl (λK hK=> ?_) oW;go_simp
       refine hK.o _ _ (by go_keep) (λhHeld=> ?_);clear hK K;refine pW (rs:= [14]) (by kernel_rfl) (by simp) ?_;refine ma rfl (λK hK=> ?_) oW;refine AY _ rfl (.tmp 53) (.tmp 62) 56 rfl base 59 i0 _ 6 48 Gj bu hz0 ft hz2 rfl (by decide) v1 _ _ rfl ((yF.o.own.alloc _).alloc _) ⟨wr.heap.size+1,0,aB⟩ 1 1 (gA cy bE[k]).cells rfl rfl (dK _ _ #[_,_,_,_,_,_] (by simp)) (by intro u hu;simp [Ob.cells] at hu;rcases hu with rfl|rfl|rfl|rfl|rfl|rfl<;>rfl) (by decide) (by rw [JK.o];simp only [bM];omega) (by rw [JK.o];omega) (by simp;omega) (wr.heap.size+1+1) (by simp) ?_;intro g cap w3 mS gN F2 _;have b3:=(MQ gN Rv (λe=>yF.o.ne e.symm)).trans yF.o.s;have q3:=a3h gN (λe=>by have:=(yF.o.own.lt _ e.symm).2;omega);have r3:=(MQ gN a4B (λe=>gP yF.o.own J7.o (by decide) e.symm)).trans J7.o;have s3:w3.cell? ⟨bs,0,aB⟩=aC v1:=ρ b3;have f3:w3.frozen? ⟨bs,0,aB⟩=aP:=by simp [iK,b3]
       have x3:w3.cell? ⟨w.heap.size,0,aB⟩=aC (aG aF cy):=ρ r3;have m3:w3.cell? ⟨wr.heap.size,0,aB⟩=aC (aG aF bE[k].m):=ρ q3;have a3:w3.cell? ⟨wr.heap.size,1,aB⟩=aC (aG aF bE[k].a):=ρ q3;have n3:w3.cell? ⟨wr.heap.size,2,aB⟩=aC (aG aF bE[k].n):=ρ q3;have cD:=η mS;have uE:=η gN;have lL:=η F2;have ag:=η b3;have Ti:=η r3;clear mS gN F2 b3 q3 r3;refine hK.o _ _ ⟨x3,m3,a3,n3⟩ (λhHeld=> ?_);clear hK K;refine jx (i:=15) (v:=bF (aC ⟨bs,0,aB⟩)) rfl (by kernel_rfl) (by kernel_rfl) (by kernel_rfl) (λ_ _ _ h=>h) (aS ⟨by rfl,λw' hSw=>by dsimp only at hSw;go_simp⟩) hHeld ?_;refine jx (i:=16) (v:=bF (aC ⟨bs,0,aB⟩)) rfl (by kernel_rfl) (by kernel_rfl) (by kernel_rfl) (λ_ _ _ h=>h) (aS ⟨by rfl,λw' hSw=>by dsimp only at hSw;go_simp⟩) hHeld ?_;refine pW (rs:= [17]) (by kernel_rfl) (by simp) ?_;refine ma rfl (λK hK=> ?_) oW;go_simp
       refine hK.o _ _ ⟨(Gl _ _ _ _ (λe=>QO (congrArg Fm e))).trans x3,(Gl _ _ _ _ (λe=>hbr (congrArg Fm e))).trans m3,(Gl _ _ _ _ (λe=>hbr (congrArg Fm e))).trans a3,(Gl _ _ _ _ (λe=>hbr (congrArg Fm e))).trans n3⟩ (λhHeld=> ?_);clear hK K hHeld;refine Nx (by kernel_rfl) ?_ _;have II:=a6B LM.o ag.o Ti.o cD.o uE.o wR.o lL.o JM.o QO;rw [JK.o] at II;have GA:=η II;clear II;clear s3 f3 x3 m3 a3 n3 s0 sf QV Hx a3z n0 n1 n2;go_wp2_with fail
       go_roundw
       case rel=>exact⟨k+1,by omega,by go_num,GA.o.1,GA.o.2.1,GA.o.2.2⟩
       case measure=>simp [af];omega
      go_simp
      refine hK.o _ _ (by go_keep) (λhHeld=> ?_);clear hK K;refine pW (rs:= [4]) (by kernel_rfl) (by simp) ?_;refine ma rfl (λK hK=> ?_) oW;go_simp
      refine hK.o _ _ hHeld (λhHeld=> ?_);clear hK K;refine pW (rs:= [14]) (by kernel_rfl) (by simp) ?_;refine ma rfl (λK hK=> ?_) oW;refine AY _ rfl (.tmp 53) (.tmp 62) 56 rfl base 59 i0 _ 6 48 Gj bu hz0 ft hz2 rfl (by decide) v1 _ _ rfl ((yF.o.own.alloc _).alloc _) ⟨wr.heap.size+1,0,aB⟩ 1 1 (gA cy bE[k]).cells rfl rfl (dK _ _ #[_,_,_,_,_,_] (by simp)) (by intro u hu;simp [Ob.cells] at hu;rcases hu with rfl|rfl|rfl|rfl|rfl|rfl<;>rfl) (by decide) (by rw [JK.o];simp only [bM];omega) (by rw [JK.o];omega) (by simp;omega) (wr.heap.size+1+1) (by simp) ?_;intro g cap w3 mS gN F2 _;have b3:=(MQ gN Rv (λe=>yF.o.ne e.symm)).trans yF.o.s;have q3:=a3h gN (λe=>by have:=(yF.o.own.lt _ e.symm).2;omega);have r3:=(MQ gN a4B (λe=>gP yF.o.own J7.o (by decide) e.symm)).trans J7.o;have s3:w3.cell? ⟨bs,0,aB⟩=aC v1:=ρ b3;have f3:w3.frozen? ⟨bs,0,aB⟩=aP:=by simp [iK,b3]
      have x3:w3.cell? ⟨w.heap.size,0,aB⟩=aC (aG aF cy):=ρ r3;have m3:w3.cell? ⟨wr.heap.size,0,aB⟩=aC (aG aF bE[k].m):=ρ q3;have a3:w3.cell? ⟨wr.heap.size,1,aB⟩=aC (aG aF bE[k].a):=ρ q3;have n3:w3.cell? ⟨wr.heap.size,2,aB⟩=aC (aG aF bE[k].n):=ρ q3;have cD:=η mS;have uE:=η gN;have lL:=η F2;have ag:=η b3;have Ti:=η r3;clear mS gN F2 b3 q3 r3;refine hK.o _ _ ⟨x3,m3,a3,n3⟩ (λhHeld=> ?_);clear hK K;refine jx (i:=15) (v:=bF (aC ⟨bs,0,aB⟩)) rfl (by kernel_rfl) (by kernel_rfl) (by kernel_rfl) (λ_ _ _ h=>h) (aS ⟨by rfl,λw' hSw=>by dsimp only at hSw;go_simp⟩) hHeld ?_;refine jx (i:=16) (v:=bF (aC ⟨bs,0,aB⟩)) rfl (by kernel_rfl) (by kernel_rfl) (by kernel_rfl) (λ_ _ _ h=>h) (aS ⟨by rfl,λw' hSw=>by dsimp only at hSw;go_simp⟩) hHeld ?_;refine pW (rs:= [17]) (by kernel_rfl) (by simp) ?_;refine ma rfl (λK hK=> ?_) oW;go_simp
      refine hK.o _ _ ⟨(Gl _ _ _ _ (λe=>QO (congrArg Fm e))).trans x3,(Gl _ _ _ _ (λe=>hbr (congrArg Fm e))).trans m3,(Gl _ _ _ _ (λe=>hbr (congrArg Fm e))).trans a3,(Gl _ _ _ _ (λe=>hbr (congrArg Fm e))).trans n3⟩ (λhHeld=> ?_);clear hK K hHeld;refine Nx (by kernel_rfl) ?_ _;have II:=a6B LM.o ag.o Ti.o cD.o uE.o wR.o lL.o JM.o QO;rw [JK.o] at II;have GA:=η II;clear II;clear s3 f3 x3 m3 a3 n3 s0 sf QV Hx a3z n0 n1 n2;go_wp2_with fail
      go_roundw
      case rel=>exact⟨k+1,by omega,by go_num,GA.o.1,GA.o.2.1,GA.o.2.2⟩
      case measure=>simp [af];omega
     obtain rfl:k=aA bE:=by omega
     have yF:=η s8;clear s8;go_wp2_with fail
     go_ret;refine⟨v1,cj CS.o.symm, ?_,LM.o,wR.o⟩;rw [jh.o];have:=yF.o;rw [cT] at this;exact this
  have hE:rA cy bE L=7:=by rw [HE.o,ifN h6,DU,h7];rfl
  have hO:nr cy bE L=L:=by rw [HL.o,hE];rfl
  have CS:=η hE;have jh:=η hO;have a3j:decide (0<xH 1 L)=aP:=xy.o.trans DU;have H7:=η h7;clear hE hO DU h7;go_enter UZ,Ug
  go_wp2_with fail
  refine(XT L 1 _ bs base _ HH.o hl).mono ?_;rintro e w1 ⟨rfl,hb1⟩;have yB:=η (HH.o.below hb1);have c1:=(HH.o.below hb1).c0;have aR:=η hb1;have hz1:=hb1.size;simp at hz1;clear hb1;go_wp2_with fail
  refine(a3x L A0 k0 _ (λx=>decide (cy<=x.c)) _ (aW.cA yB.o.own) hl ?_).mono ?_
  ·intro x W oJ;have hzW:=oJ.size;refine a2V x cy _ W ?_ (by omega);rw [oJ.cell (p:=⟨w.heap.size,0,aB⟩) (by simp;omega),aR.o.cell (p:=⟨w.heap.size,0,aB⟩) (by simp),cL _ _ _ _ rfl];rfl
  rintro e w2 ⟨rfl,hb2⟩;have aV:=η hb2;clear hb2;rw [H7.o];go_wp2_with fail
  go_ret;exact⟨_,cj CS.o.symm,by rw [jh.o];exact yB.o.below aV.o,Only.bZ (mL.o.trans ((aR.o.mono (by simp)).trans (aV.o.mono (by omega)))),qp rfl⟩
 have hE:rA cy bE L=17:=by rw [HE.o,ifN h6,DU];rfl
 have hO:nr cy bE L=L:=by rw [HL.o,hE];rfl
 have CS:=η hE;have jh:=η hO;have a3j:decide (0<xH 1 L)=aO:=xy.o.trans DU;clear hE hO DU;go_enter UZ,Ug
 go_wp2_with fail
 refine(XT L 1 _ bs base _ HH.o hl).mono ?_;rintro e w1 ⟨rfl,hb1⟩;have aR:=η hb1;clear hb1;go_wp2_with fail
 go_ret;exact⟨_,cj CS.o.symm,by rw [jh.o];exact HH.o.below aR.o,Only.bZ (mL.o.trans (aR.o.mono (by simp))),qp rfl⟩
theorem aEv(x:Ob)(w:aJ):
 aQ aM 174 #[x.val] w λe w'=>e=aT (bJ (decide (0<x.az)))/\β w w':=by
 obtain⟨c,m,a,az,done,st⟩:=x;unfold Ob.val;go_enter func174,ntmps174
 go_wp2
 go_ret;exact⟨rfl,(aX _ _).alloc (aa _) _⟩
theorem aDt(x:Ob)(w:aJ):
 aQ aM 144 #[x.val] w λe w'=>e=aT (bJ (decide (x.az<0)))/\β w w':=by
 obtain⟨c,m,a,az,done,st⟩:=x;unfold Ob.val;go_enter func144,ntmps144
 go_wp2
 go_ret;exact⟨rfl,(aX _ _).alloc (aa _) _⟩
theorem aIs(L:List Ob)(p:Ob->Bool)(v:aN)(bs base:Nat)(w:aJ)(h:fM w bs base v L)(hl:aA L<=1000000)
 (hp:∀(x:Ob) (W:aJ),aQ aM 174 #[x.val] W λe w'=>e=aT (bJ (p x))/\aY W.heap.size W w'):
 aQ aM 143 #[bF (aC ⟨bs,0,aB⟩),.func (.func 174) #[] #[]] w (yy w (L.filter λx=>x.st==1&&p x)):=by
 have HH:=η h;have HP:=η hp;obtain⟨i0,bu,hz0,ft,hz2⟩:=dJ KY;go_enter aAg,aBT
 go_wp2_with fail
 refine(KW L v bs base _ HH.o hl).mono ?_;rintro e w1 ⟨v1,rfl,eK,hb1⟩;obtain⟨A1,c1,rfl⟩:=bL eK;have HS:=η (aW.cA eK);have aR:=η hb1;have hz1:=hb1.size;go_wp2_with fail
 go_loopw [5,7,11] (λu _ i wr=>∃k:Nat,k<=aA L/\i=aG aF k/\Hid (wr.ownsRow w1.heap.size 59 6 u (aA ((L.take k).filter λx=>x.st==1&&p x)) (fK ((L.take k).filter λx=>x.st==1&&p x)))/\Hid (aY w1.heap.size w1 wr)) (λ_ _ i _=>aA L-(af i).toNat)
 case atStart=>exact⟨0,bK _,rfl,⟨by simp [fK],aS ⟨rfl,rfl⟩⟩,aX _ _⟩
 case round=>
  obtain⟨k,hk,rfl,HO,HB⟩:=hrel;have hsz:=HB.o.size;have gW:=Q0 (λx:Ob=>x.st==1&&p x) L k;by_cases hlt:k<aA L
  ·obtain⟨b,o,rfl,hb,d0,d1,d2,d3,d4,d5⟩:=vx (HS.o.below HB.o) hlt;have HF:=η (Q1 (λx:Ob=>x.st==1&&p x) hlt);cases h1:(L[k].st==1)
   ·have hF:(L.take (k+1)).filter (λx=>x.st==1&&p x)=(L.take k).filter (λx=>x.st==1&&p x):=by rw [HF.o,h1];simp
    have jo:=HO.o;rw [<-hF] at jo;have cF:=η jo;go_wp2_with fail
    go_roundw
    case rel=>exact⟨k+1,by omega,by go_num,cF.o.alloc _,HB.o.alloc hsz _⟩
    case measure=>simp [af];omega
   cases h2:p L[k]
   ·have hF:(L.take (k+1)).filter (λx=>x.st==1&&p x)=(L.take k).filter (λx=>x.st==1&&p x):=by rw [HF.o,h1,h2];simp
    have jo:=HO.o;rw [<-hF] at jo;have cF:=η jo;have uJ:Hid (∀W:aJ,aQ aM 174 #[L[k].val] W λe w'=>e=aT (bJ aP)/\aY W.heap.size W w'):=λW=>by have:=HP.o L[k] W;rw [h2] at this;exact this
    go_wp2_with fail
    refine(uJ.o _).mono ?_;rintro e w3 ⟨rfl,hb3⟩;have ag:Hid (aY w1.heap.size w1 w3):=(HB.o.alloc hsz _).trans (hb3.mono (by simp;omega));have hg3:wr.grownBy w3 aB:=⟨hb3.os,hb3.tape,hb3.output,by have:=hb3.size;simp at this;omega,λi hi _=>(hb3.block i (by simp;omega)).trans (fG _ _ hi)⟩;have cD:=η (cF.o.kept hg3 (by cases (dy _)<;>simp));go_wp2_with fail
    go_roundw
    case rel=>exact⟨k+1,by omega,by go_num,cD,ag⟩
    case measure=>simp [af];omega
   have hF:(L.take (k+1)).filter (λx=>x.st==1&&p x)=(L.take k).filter (λx=>x.st==1&&p x)++ [L[k]]:=by rw [HF.o,h1,h2];simp
   have jQ:=η hF;have uJ:Hid (∀W:aJ,aQ aM 174 #[L[k].val] W λe w'=>e=aT (bJ aO)/\aY W.heap.size W w'):=λW=>by have:=HP.o L[k] W;rw [h2] at this;exact this
   generalize (L.take k).filter (λx=>x.st==1&&p x)=ys at*;go_wp2_with fail
   refine(uJ.o _).mono ?_;rintro e w3 ⟨rfl,hb3⟩;have ag:Hid (aY w1.heap.size w1 w3):=(HB.o.alloc hsz _).trans (hb3.mono (by simp;omega));have hz3:=hb3.size;simp at hz3;have hg3:wr.grownBy w3 aB:=⟨hb3.os,hb3.tape,hb3.output,by omega,λi hi _=>(hb3.block i (by simp;omega)).trans (fG _ _ hi)⟩;have cD:=η (HO.o.kept hg3 (by cases (dy _)<;>simp));have hc:=λj=>(hb3.cell (p:=⟨wr.heap.size,j,aB⟩) (by simp)).trans (cL _ _ _ j rfl)
   have e0:=hc 0;have e1:=hc 1;have e2:=hc 2;have e3:=hc 3;have e4:=hc 4;have e5:=hc 5;simp at e0 e1 e2 e3 e4 e5;go_wp2_with (at_builtin;refine iZ _ rfl _ _ 56 rfl w1.heap.size 59 i0 _ 6 48 Gj bu hz0 ft hz2 rfl (by decide) _ (aA ys) (fK ys) rfl (cD.o.alloc _) ⟨w3.heap.size,0,aB⟩ 1 1 L[k].cells rfl rfl ?c1 ?c2 ?c3 ?c4 ?c5 ?_)
   case c1=>exact dK _ _ #[_,_,_,_,_,_] rfl
   case c2=>intro u hu;simp [Ob.cells] at hu;rcases hu with rfl|rfl|rfl|rfl|rfl|rfl<;>rfl
   case c3=>simp only [bM];omega
   case c4=>omega
   case c5=>simp;omega
   intro v' w4 hown1 dG _;have dP:Hid (w4.ownsRow w1.heap.size 59 6 v' (aA ((L.take (k+1)).filter λx=>x.st==1&&p x)) (fK ((L.take (k+1)).filter λx=>x.st==1&&p x))):=by show kB _ _ _ _ _ _ _;rw [jQ.o,NQ,cN,uM];exact hown1
   have pg:Hid (aY w1.heap.size w1 w4):=(ag.o.alloc (by omega) _).grown dG (by simp;omega) (λj hj=>eF cD.o j hj);go_wp2_with fail
   go_roundw
   case rel=>exact⟨k+1,by omega,by go_num,dP,pg⟩
   case measure=>simp [af];omega
  obtain rfl:k=aA L:=by omega
  have hO:=HO.o;rw [cT] at hO;have dE:=η hO;go_wp2_with fail
  go_ret;refine⟨_,rfl, ?_,aR.o.trans (HB.o.mono hz1)⟩;exact iC dE.o hz1
theorem aIr(L:List Ob)(p:Ob->Bool)(v:aN)(bs base:Nat)(w:aJ)(h:fM w bs base v L)(hl:aA L<=1000000)
 (hp:∀(x:Ob) (W:aJ),aQ aM 144 #[x.val] W λe w'=>e=aT (bJ (p x))/\aY W.heap.size W w'):
 aQ aM 143 #[bF (aC ⟨bs,0,aB⟩),.func (.func 144) #[] #[]] w (yy w (L.filter λx=>x.st==1&&p x)):=by
 have HH:=η h;have HP:=η hp;obtain⟨i0,bu,hz0,ft,hz2⟩:=dJ KY;go_enter aAg,aBT
 go_wp2_with fail
 refine(KW L v bs base _ HH.o hl).mono ?_;rintro e w1 ⟨v1,rfl,eK,hb1⟩;obtain⟨A1,c1,rfl⟩:=bL eK;have HS:=η (aW.cA eK);have aR:=η hb1;have hz1:=hb1.size;go_wp2_with fail
 go_loopw [5,7,11] (λu _ i wr=>∃k:Nat,k<=aA L/\i=aG aF k/\Hid (wr.ownsRow w1.heap.size 59 6 u (aA ((L.take k).filter λx=>x.st==1&&p x)) (fK ((L.take k).filter λx=>x.st==1&&p x)))/\Hid (aY w1.heap.size w1 wr)) (λ_ _ i _=>aA L-(af i).toNat)
 case atStart=>exact⟨0,bK _,rfl,⟨by simp [fK],aS ⟨rfl,rfl⟩⟩,aX _ _⟩
 case round=>
  obtain⟨k,hk,rfl,HO,HB⟩:=hrel;have hsz:=HB.o.size;have gW:=Q0 (λx:Ob=>x.st==1&&p x) L k;by_cases hlt:k<aA L
  ·obtain⟨b,o,rfl,hb,d0,d1,d2,d3,d4,d5⟩:=vx (HS.o.below HB.o) hlt;have HF:=η (Q1 (λx:Ob=>x.st==1&&p x) hlt);cases h1:(L[k].st==1)
   ·have hF:(L.take (k+1)).filter (λx=>x.st==1&&p x)=(L.take k).filter (λx=>x.st==1&&p x):=by rw [HF.o,h1];simp
    have jo:=HO.o;rw [<-hF] at jo;have cF:=η jo;go_wp2_with fail
    go_roundw
    case rel=>exact⟨k+1,by omega,by go_num,cF.o.alloc _,HB.o.alloc hsz _⟩
    case measure=>simp [af];omega
   cases h2:p L[k]
   ·have hF:(L.take (k+1)).filter (λx=>x.st==1&&p x)=(L.take k).filter (λx=>x.st==1&&p x):=by rw [HF.o,h1,h2];simp
    have jo:=HO.o;rw [<-hF] at jo;have cF:=η jo;have uJ:Hid (∀W:aJ,aQ aM 144 #[L[k].val] W λe w'=>e=aT (bJ aP)/\aY W.heap.size W w'):=λW=>by have:=HP.o L[k] W;rw [h2] at this;exact this
    go_wp2_with fail
    refine(uJ.o _).mono ?_;rintro e w3 ⟨rfl,hb3⟩;have ag:Hid (aY w1.heap.size w1 w3):=(HB.o.alloc hsz _).trans (hb3.mono (by simp;omega));have hg3:wr.grownBy w3 aB:=⟨hb3.os,hb3.tape,hb3.output,by have:=hb3.size;simp at this;omega,λi hi _=>(hb3.block i (by simp;omega)).trans (fG _ _ hi)⟩;have cD:=η (cF.o.kept hg3 (by cases (dy _)<;>simp));go_wp2_with fail
    go_roundw
    case rel=>exact⟨k+1,by omega,by go_num,cD,ag⟩
    case measure=>simp [af];omega
   have hF:(L.take (k+1)).filter (λx=>x.st==1&&p x)=(L.take k).filter (λx=>x.st==1&&p x)++ [L[k]]:=by rw [HF.o,h1,h2];simp
   have jQ:=η hF;have uJ:Hid (∀W:aJ,aQ aM 144 #[L[k].val] W λe w'=>e=aT (bJ aO)/\aY W.heap.size W w'):=λW=>by have:=HP.o L[k] W;rw [h2] at this;exact this
   generalize (L.take k).filter (λx=>x.st==1&&p x)=ys at*;go_wp2_with fail
   refine(uJ.o _).mono ?_;rintro e w3 ⟨rfl,hb3⟩;have ag:Hid (aY w1.heap.size w1 w3):=(HB.o.alloc hsz _).trans (hb3.mono (by simp;omega));have hz3:=hb3.size;simp at hz3;have hg3:wr.grownBy w3 aB:=⟨hb3.os,hb3.tape,hb3.output,by omega,λi hi _=>(hb3.block i (by simp;omega)).trans (fG _ _ hi)⟩;have cD:=η (HO.o.kept hg3 (by cases (dy _)<;>simp));have hc:=λj=>(hb3.cell (p:=⟨wr.heap.size,j,aB⟩) (by simp)).trans (cL _ _ _ j rfl)
   have e0:=hc 0;have e1:=hc 1;have e2:=hc 2;have e3:=hc 3;have e4:=hc 4;have e5:=hc 5;simp at e0 e1 e2 e3 e4 e5;go_wp2_with (at_builtin;refine iZ _ rfl _ _ 56 rfl w1.heap.size 59 i0 _ 6 48 Gj bu hz0 ft hz2 rfl (by decide) _ (aA ys) (fK ys) rfl (cD.o.alloc _) ⟨w3.heap.size,0,aB⟩ 1 1 L[k].cells rfl rfl ?c1 ?c2 ?c3 ?c4 ?c5 ?_)
   case c1=>exact dK _ _ #[_,_,_,_,_,_] rfl
   case c2=>intro u hu;simp [Ob.cells] at hu;rcases hu with rfl|rfl|rfl|rfl|rfl|rfl<;>rfl
   case c3=>simp only [bM];omega
   case c4=>omega
   case c5=>simp;omega
   intro v' w4 hown1 dG _;have dP:Hid (w4.ownsRow w1.heap.size 59 6 v' (aA ((L.take (k+1)).filter λx=>x.st==1&&p x)) (fK ((L.take (k+1)).filter λx=>x.st==1&&p x))):=by show kB _ _ _ _ _ _ _;rw [jQ.o,NQ,cN,uM];exact hown1
   have pg:Hid (aY w1.heap.size w1 w4):=(ag.o.alloc (by omega) _).grown dG (by simp;omega) (λj hj=>eF cD.o j hj);go_wp2_with fail
   go_roundw
   case rel=>exact⟨k+1,by omega,by go_num,dP,pg⟩
   case measure=>simp [af];omega
  obtain rfl:k=aA L:=by omega
  have hO:=HO.o;rw [cT] at hO;have dE:=η hO;go_wp2_with fail
  go_ret;refine⟨_,rfl, ?_,aR.o.trans (HB.o.mono hz1)⟩;exact iC dE.o hz1
theorem aIV(L:List Ob)(v:aN)(bs base:Nat)(w:aJ)(h:fM w bs base v L)(hl:aA L<=1000000):
 aQ aM 116 #[bF (aC ⟨bs,0,aB⟩)] w (yy w (L.filter λx=>x.st==1&&(λx=>decide (0<x.az)) x)):=by
 have HC:=η (aIs L (λx=>decide (0<x.az)) v bs base w h hl aEv);go_enter func116,ntmps116
 go_wp2_with fail
 refine HC.o.mono ?_;rintro e w1 ⟨v1,rfl,eK,hb1⟩;have cF:=η eK;have aR:=η hb1;go_wp2_with fail
 go_ret;exact⟨v1,rfl,cF.o,aR.o⟩
theorem aIT(L:List Ob)(v:aN)(bs base:Nat)(w:aJ)(h:fM w bs base v L)(hl:aA L<=1000000):
 aQ aM 73 #[bF (aC ⟨bs,0,aB⟩)] w (yy w (L.filter λx=>x.st==1&&(λx=>decide (x.az<0)) x)):=by
 have HC:=η (aIr L (λx=>decide (x.az<0)) v bs base w h hl aDt);go_enter func73,ntmps73
 go_wp2_with fail
 refine HC.o.mono ?_;rintro e w1 ⟨v1,rfl,eK,hb1⟩;have cF:=η eK;have aR:=η hb1;go_wp2_with fail
 go_ret;exact⟨v1,rfl,cF.o,aR.o⟩
def a8z(w:aJ)(L:List Ob)(e:dU)(w':aJ):Prop:=∃bc v,e=aT (bF (aC ⟨bc,0,aB⟩))/\fM w' bc w.heap.size v L/\w.heap.size<=bc/\aY w.heap.size w w'
theorem aIU(L:List Ob)(v:aN)(bs base:Nat)(w:aJ)(h:fM w bs base v L)(hl:aA L<=1000000):
 aQ aM 94 #[bF (aC ⟨bs,0,aB⟩)] w (a8z w L):=by
 have c0:=h.c0;have HO:=η h.own;go_enter func94,ntmps94
 go_wp2_with fail
 refine(a5q L v base _ HO.o hl).mono ?_;rintro e w1 ⟨v1,rfl,eK,hb1⟩;have cF:=η eK;have aR:=η hb1;have hz:=hb1.size;obtain⟨A1,c1,rfl⟩:=bL eK;go_wp2_with fail
 go_ret;exact⟨w1.heap.size,_,rfl,⟨cO _ _,cF.o.alloc _⟩,hz,aR.o.alloc hz _⟩
theorem DC(b off j:Nat):(⟨b,off,aB⟩:aj).add j=⟨b,off+j,aB⟩:=by grind [Addr.add]
theorem AU {w:aJ} {base:Nat} {e:bY} {size n c:Nat} {A:Option aj} {xs:List aN}(h:w.ownsRow base e size (aH A n c) n xs):A=aB->n=0:=by
 rintro rfl;rcases h.2 with⟨_,h0⟩|⟨g,cap,cur,hv,_⟩
 ·exact h0
 grind
def sU(E:bY)(k n:Nat)(xs:List aN)(w:aJ)(e:dU)(w':aJ):Prop:=∃v',e=aT v'/\w'.ownsRow w.heap.size E k v' n xs/\aY w.heap.size w w'
theorem NH:(aM.info? 2).map (λi=>(i.zero,i.size,i.bytes))=aC (aC (aG aF 0),1,8):=by kernel_rfl
theorem aE5(n:Nat)(xs:List aN)(A:Option aj)(c:Nat)(w:aJ)(hs:aW w w.heap.size A xs)(nD:aA xs=n*1)(hnil:A=aB->n=0)(h1:∀u∈xs,u.oneCell'=aO)(hl:n<=100000):
 aQ aM 158 #[aH A n c] w (sU 2 1 n xs w):=by
 obtain⟨i0,bu,hz0,hz1,hz2⟩:=dJ NH;have hq:=Dz mP;cases A with
 |none=>
  obtain rfl:=hnil rfl;obtain rfl:xs= []:=nO (by omega);go_enter func158,ntmps158
  go_wp2
  go_ret;exact⟨_,rfl,fh _ _ _ _,aX _ _⟩
 |some p=>
  have HC:Hid (∀j u,xs[j]? =aC u->∀o:Obj,(w.alloc o).cell? (p.add j)=aC u):=η (λj u hu o=>by obtain⟨b,off,e,hb,hc⟩:=hs j u hu;obtain rfl:=pF e;rw [DC];exact(qh _ _ _ hb).trans hc);have HL:=η nD;have H1:=η h1;go_enter func158,ntmps158
  go_wp2_with (at_builtin;refine iZ _ rfl _ _ 53 rfl w.heap.size 2 i0 _ 1 8 mP bu hz0 hz1 hz2 rfl (by decide) _ 0 [] rfl ?c0i64 p n c xs rfl HL ?c1i64 H1 ?c3i64 ?c4i64 ?c5i64 ?_)
  case c0i64=>exact Dv w _ 1
  case c1i64=>exact λj u hu=>HC j u hu _
  case c3i64=>simp only [bM];omega
  case c4i64=>omega
  case c5i64=>simp
  intro v' w1 hown1 dG _;have cF:=η hown1;have lO:=η dG;go_wp2
  go_ret;refine⟨_,rfl,by simpa using cF.o,σ.grown lO.o (by simp) ?_⟩;grind [dy]
theorem aE0(n:Nat)(xs:List aN)(v:aN)(base:Nat)(w:aJ)(hown:w.ownsRow base 2 1 v n xs)(h1:∀u∈xs,u.oneCell'=aO)(hl:n<=100000):
 aQ aM 158 #[v] w (sU 2 1 n xs w):=by
 obtain⟨A,c,hv⟩:=bL hown;subst hv;exact aE5 n xs A c w (aW.cA hown) hown.1 (AU hown) h1 hl
theorem aHD:(aM.info? 3).map (λi=>(i.zero,i.size,i.bytes))=aC (aC (aG aF 0),1,8):=by kernel_rfl
theorem aE6(n:Nat)(xs:List aN)(A:Option aj)(c:Nat)(w:aJ)(hs:aW w w.heap.size A xs)(nD:aA xs=n*1)(hnil:A=aB->n=0)(h1:∀u∈xs,u.oneCell'=aO)(hl:n<=100000):
 aQ aM 40 #[aH A n c] w (sU 3 1 n xs w):=by
 obtain⟨i0,bu,hz0,hz1,hz2⟩:=dJ aHD;have hq:=Dz yN;cases A with
 |none=>
  obtain rfl:=hnil rfl;obtain rfl:xs= []:=nO (by omega);go_enter func40,aBp
  go_wp2
  go_ret;exact⟨_,rfl,fh _ _ _ _,aX _ _⟩
 |some p=>
  have HC:Hid (∀j u,xs[j]? =aC u->∀o:Obj,(w.alloc o).cell? (p.add j)=aC u):=η (λj u hu o=>by obtain⟨b,off,e,hb,hc⟩:=hs j u hu;obtain rfl:=pF e;rw [DC];exact(qh _ _ _ hb).trans hc);have HL:=η nD;have H1:=η h1;go_enter func40,aBp
  go_wp2_with (at_builtin;refine iZ _ rfl _ _ 46 rfl w.heap.size 3 i0 _ 1 8 yN bu hz0 hz1 hz2 rfl (by decide) _ 0 [] rfl ?c0int p n c xs rfl HL ?c1int H1 ?c3int ?c4int ?c5int ?_)
  case c0int=>exact Dv w _ 1
  case c1int=>exact λj u hu=>HC j u hu _
  case c3int=>simp only [bM];omega
  case c4int=>omega
  case c5int=>simp
  intro v' w1 hown1 dG _;have cF:=η hown1;have lO:=η dG;go_wp2
  go_ret;refine⟨_,rfl,by simpa using cF.o,σ.grown lO.o (by simp) ?_⟩;grind [dy]
theorem aHB:(aM.info? 45).map (λi=>(i.zero,i.size,i.bytes))=aC (aC (bQ #[aG aF 0,aG aF 0,aG aF 0,aG aF 0,aG aF 0]),5,40):=by kernel_rfl
theorem aE3(n:Nat)(xs:List aN)(A:Option aj)(c:Nat)(w:aJ)(hs:aW w w.heap.size A xs)(nD:aA xs=n*5)(hnil:A=aB->n=0)(h1:∀u∈xs,u.oneCell'=aO)(hl:n<=100000):
 aQ aM 34 #[aH A n c] w (sU 45 5 n xs w):=by
 obtain⟨i0,bu,hz0,hz1,hz2⟩:=dJ aHB;have hq:=Dz underlying35;cases A with
 |none=>
  obtain rfl:=hnil rfl;obtain rfl:xs= []:=nO (by omega);go_enter aB2,aBn
  go_wp2
  go_ret;exact⟨_,rfl,fh _ _ _ _,aX _ _⟩
 |some p=>
  have HC:Hid (∀j u,xs[j]? =aC u->∀o:Obj,(w.alloc o).cell? (p.add j)=aC u):=η (λj u hu o=>by obtain⟨b,off,e,hb,hc⟩:=hs j u hu;obtain rfl:=pF e;rw [DC];exact(qh _ _ _ hb).trans hc);have HL:=η nD;have H1:=η h1;go_enter aB2,aBn
  go_wp2_with (at_builtin;refine iZ _ rfl _ _ 35 rfl w.heap.size 45 i0 _ 5 40 underlying35 bu hz0 hz1 hz2 rfl (by decide) _ 0 [] rfl ?c0ev p n c xs rfl HL ?c1ev H1 ?c3ev ?c4ev ?c5ev ?_)
  case c0ev=>exact Dv w _ 5
  case c1ev=>exact λj u hu=>HC j u hu _
  case c3ev=>simp only [bM];omega
  case c4ev=>omega
  case c5ev=>simp
  intro v' w1 hown1 dG _;have cF:=η hown1;have lO:=η dG;go_wp2
  go_ret;refine⟨_,rfl,by simpa using cF.o,σ.grown lO.o (by simp) ?_⟩;grind [dy]
theorem XA:(aM.info? 41).map (λi=>(i.zero,i.size,i.bytes))=aC (aC (bQ #[aG aF 0,aG aF 0,aG aF 0,aG aF 0,aG aF 0]),5,40):=by kernel_rfl
theorem aE1(n:Nat)(xs:List aN)(A:Option aj)(c:Nat)(w:aJ)(hs:aW w w.heap.size A xs)(nD:aA xs=n*5)(hnil:A=aB->n=0)(h1:∀u∈xs,u.oneCell'=aO)(hl:n<=100000):
 aQ aM 157 #[aH A n c] w (sU 41 5 n xs w):=by
 obtain⟨i0,bu,hz0,hz1,hz2⟩:=dJ XA;have hq:=Dz PK;cases A with
 |none=>
  obtain rfl:=hnil rfl;obtain rfl:xs= []:=nO (by omega);go_enter aAh,aBU
  go_wp2
  go_ret;exact⟨_,rfl,fh _ _ _ _,aX _ _⟩
 |some p=>
  have HC:Hid (∀j u,xs[j]? =aC u->∀o:Obj,(w.alloc o).cell? (p.add j)=aC u):=η (λj u hu o=>by obtain⟨b,off,e,hb,hc⟩:=hs j u hu;obtain rfl:=pF e;rw [DC];exact(qh _ _ _ hb).trans hc);have HL:=η nD;have H1:=η h1;go_enter aAh,aBU
  go_wp2_with (at_builtin;refine iZ _ rfl _ _ 132 rfl w.heap.size 41 i0 _ 5 40 PK bu hz0 hz1 hz2 rfl (by decide) _ 0 [] rfl ?c0bid p n c xs rfl HL ?c1bid H1 ?c3bid ?c4bid ?c5bid ?_)
  case c0bid=>exact Dv w _ 5
  case c1bid=>exact λj u hu=>HC j u hu _
  case c3bid=>simp only [bM];omega
  case c4bid=>omega
  case c5bid=>simp
  intro v' w1 hown1 dG _;have cF:=η hown1;have lO:=η dG;go_wp2
  go_ret;refine⟨_,rfl,by simpa using cF.o,σ.grown lO.o (by simp) ?_⟩;grind [dy]
theorem a2M(n:Nat)(xs:List aN)(v:aN)(base:Nat)(w:aJ)(hown:w.ownsRow base 41 5 v n xs)(h1:∀u∈xs,u.oneCell'=aO)(hl:n<=100000):
 aQ aM 157 #[v] w (sU 41 5 n xs w):=by
 obtain⟨A,c,hv⟩:=bL hown;subst hv;exact aE1 n xs A c w (aW.cA hown) hown.1 (AU hown) h1 hl
theorem XB:(aM.info? 188).map (λi=>(i.zero,i.size,i.bytes))=aC (aC (bQ #[aG aF 0,aG aF 0,aG aF 0,aG aF 0,aG aF 0]),5,40):=by kernel_rfl
theorem aE4(n:Nat)(xs:List aN)(A:Option aj)(c:Nat)(w:aJ)(hs:aW w w.heap.size A xs)(nD:aA xs=n*5)(hnil:A=aB->n=0)(h1:∀u∈xs,u.oneCell'=aO)(hl:n<=100000):
 aQ aM 181 #[aH A n c] w (sU 188 5 n xs w):=by
 obtain⟨i0,bu,hz0,hz1,hz2⟩:=dJ XB;have hq:=Dz PL;cases A with
 |none=>
  obtain rfl:=hnil rfl;obtain rfl:xs= []:=nO (by omega);go_enter aAm,aBZ
  go_wp2
  go_ret;exact⟨_,rfl,fh _ _ _ _,aX _ _⟩
 |some p=>
  have HC:Hid (∀j u,xs[j]? =aC u->∀o:Obj,(w.alloc o).cell? (p.add j)=aC u):=η (λj u hu o=>by obtain⟨b,off,e,hb,hc⟩:=hs j u hu;obtain rfl:=pF e;rw [DC];exact(qh _ _ _ hb).trans hc);have HL:=η nD;have H1:=η h1;go_enter aAm,aBZ
  go_wp2_with (at_builtin;refine iZ _ rfl _ _ 185 rfl w.heap.size 188 i0 _ 5 40 PL bu hz0 hz1 hz2 rfl (by decide) _ 0 [] rfl ?c0hrow p n c xs rfl HL ?c1hrow H1 ?c3hrow ?c4hrow ?c5hrow ?_)
  case c0hrow=>exact Dv w _ 5
  case c1hrow=>exact λj u hu=>HC j u hu _
  case c3hrow=>simp only [bM];omega
  case c4hrow=>omega
  case c5hrow=>simp
  intro v' w1 hown1 dG _;have cF:=η hown1;have lO:=η dG;go_wp2
  go_ret;refine⟨_,rfl,by simpa using cF.o,σ.grown lO.o (by simp) ?_⟩;grind [dy]
theorem a2N(n:Nat)(xs:List aN)(v:aN)(base:Nat)(w:aJ)(hown:w.ownsRow base 188 5 v n xs)(h1:∀u∈xs,u.oneCell'=aO)(hl:n<=100000):
 aQ aM 181 #[v] w (sU 188 5 n xs w):=by
 obtain⟨A,c,hv⟩:=bL hown;subst hv;exact aE4 n xs A c w (aW.cA hown) hown.1 (AU hown) h1 hl
theorem aHE:(aM.info? 67).map (λi=>(i.zero,i.size,i.bytes))=aC (aC (bQ #[aG aF 0,aG aF 0]),2,16):=by kernel_rfl
theorem aE7(n:Nat)(xs:List aN)(A:Option aj)(c:Nat)(w:aJ)(hs:aW w w.heap.size A xs)(nD:aA xs=n*2)(hnil:A=aB->n=0)(h1:∀u∈xs,u.oneCell'=aO)(hl:n<=100000):
 aQ aM 81 #[aH A n c] w (sU 67 2 n xs w):=by
 obtain⟨i0,bu,hz0,hz1,hz2⟩:=dJ aHE;have hq:=Dz underlying22;cases A with
 |none=>
  obtain rfl:=hnil rfl;obtain rfl:xs= []:=nO (by omega);go_enter aBA,aBx
  go_wp2
  go_ret;exact⟨_,rfl,fh _ _ _ _,aX _ _⟩
 |some p=>
  have HC:Hid (∀j u,xs[j]? =aC u->∀o:Obj,(w.alloc o).cell? (p.add j)=aC u):=η (λj u hu o=>by obtain⟨b,off,e,hb,hc⟩:=hs j u hu;obtain rfl:=pF e;rw [DC];exact(qh _ _ _ hb).trans hc);have HL:=η nD;have H1:=η h1;go_enter aBA,aBx
  go_wp2_with (at_builtin;refine iZ _ rfl _ _ 22 rfl w.heap.size 67 i0 _ 2 16 underlying22 bu hz0 hz1 hz2 rfl (by decide) _ 0 [] rfl ?c0mem p n c xs rfl HL ?c1mem H1 ?c3mem ?c4mem ?c5mem ?_)
  case c0mem=>exact Dv w _ 2
  case c1mem=>exact λj u hu=>HC j u hu _
  case c3mem=>simp only [bM];omega
  case c4mem=>omega
  case c5mem=>simp
  intro v' w1 hown1 dG _;have cF:=η hown1;have lO:=η dG;go_wp2
  go_ret;refine⟨_,rfl,by simpa using cF.o,σ.grown lO.o (by simp) ?_⟩;grind [dy]
theorem aHF:(aM.info? 69).map (λi=>(i.zero,i.size,i.bytes))=aC (aC (bQ #[aG aF 0,aG aF 0]),2,16):=by kernel_rfl
theorem aE8(n:Nat)(xs:List aN)(A:Option aj)(c:Nat)(w:aJ)(hs:aW w w.heap.size A xs)(nD:aA xs=n*2)(hnil:A=aB->n=0)(h1:∀u∈xs,u.oneCell'=aO)(hl:n<=100000):
 aQ aM 82 #[aH A n c] w (sU 69 2 n xs w):=by
 obtain⟨i0,bu,hz0,hz1,hz2⟩:=dJ aHF;have hq:=Dz underlying23;cases A with
 |none=>
  obtain rfl:=hnil rfl;obtain rfl:xs= []:=nO (by omega);go_enter aBB,aBy
  go_wp2
  go_ret;exact⟨_,rfl,fh _ _ _ _,aX _ _⟩
 |some p=>
  have HC:Hid (∀j u,xs[j]? =aC u->∀o:Obj,(w.alloc o).cell? (p.add j)=aC u):=η (λj u hu o=>by obtain⟨b,off,e,hb,hc⟩:=hs j u hu;obtain rfl:=pF e;rw [DC];exact(qh _ _ _ hb).trans hc);have HL:=η nD;have H1:=η h1;go_enter aBB,aBy
  go_wp2_with (at_builtin;refine iZ _ rfl _ _ 23 rfl w.heap.size 69 i0 _ 2 16 underlying23 bu hz0 hz1 hz2 rfl (by decide) _ 0 [] rfl ?c0sec p n c xs rfl HL ?c1sec H1 ?c3sec ?c4sec ?c5sec ?_)
  case c0sec=>exact Dv w _ 2
  case c1sec=>exact λj u hu=>HC j u hu _
  case c3sec=>simp only [bM];omega
  case c4sec=>omega
  case c5sec=>simp
  intro v' w1 hown1 dG _;have cF:=η hown1;have lO:=η dG;go_wp2
  go_ret;refine⟨_,rfl,by simpa using cF.o,σ.grown lO.o (by simp) ?_⟩;grind [dy]
theorem aHA:(aM.info? 71).map (λi=>(i.zero,i.size,i.bytes))=aC (aC (bQ #[aG aF 0,aG aF 0,aG aF 0,aG aF 0]),4,32):=by kernel_rfl
theorem aE2(n:Nat)(xs:List aN)(A:Option aj)(c:Nat)(w:aJ)(hs:aW w w.heap.size A xs)(nD:aA xs=n*4)(hnil:A=aB->n=0)(h1:∀u∈xs,u.oneCell'=aO)(hl:n<=100000):
 aQ aM 83 #[aH A n c] w (sU 71 4 n xs w):=by
 obtain⟨i0,bu,hz0,hz1,hz2⟩:=dJ aHA;have hq:=Dz underlying24;cases A with
 |none=>
  obtain rfl:=hnil rfl;obtain rfl:xs= []:=nO (by omega);go_enter aBC,aBz
  go_wp2
  go_ret;exact⟨_,rfl,fh _ _ _ _,aX _ _⟩
 |some p=>
  have HC:Hid (∀j u,xs[j]? =aC u->∀o:Obj,(w.alloc o).cell? (p.add j)=aC u):=η (λj u hu o=>by obtain⟨b,off,e,hb,hc⟩:=hs j u hu;obtain rfl:=pF e;rw [DC];exact(qh _ _ _ hb).trans hc);have HL:=η nD;have H1:=η h1;go_enter aBC,aBz
  go_wp2_with (at_builtin;refine iZ _ rfl _ _ 24 rfl w.heap.size 71 i0 _ 4 32 underlying24 bu hz0 hz1 hz2 rfl (by decide) _ 0 [] rfl ?c0cyc p n c xs rfl HL ?c1cyc H1 ?c3cyc ?c4cyc ?c5cyc ?_)
  case c0cyc=>exact Dv w _ 4
  case c1cyc=>exact λj u hu=>HC j u hu _
  case c3cyc=>simp only [bM];omega
  case c4cyc=>omega
  case c5cyc=>simp
  intro v' w1 hown1 dG _;have cF:=η hown1;have lO:=η dG;go_wp2
  go_ret;refine⟨_,rfl,by simpa using cF.o,σ.grown lO.o (by simp) ?_⟩;grind [dy]
def aAF(M A:Nat)(l:List Int)(po:Int)(w:aJ)(e:dU)(w':aJ):Prop:=
 ∃nb v,e=aT (π nb)/\fC w' nb M A v l po/\w.heap.size<=nb/\(∀k,v.ownBlock=aC k->w.heap.size<=k)/\β w w'
theorem a1p(M A:Nat)(v:aN)(l:List Int)(po:Int)(bb:Nat)(w:aJ)(h:fC w bb M A v l po):
 aQ aM 98 #[π bb] w (aAF M A l po w):=by
 have hM:=h.hM;have hA:=h.hA;have kr:=h.len;have hl:aA l<=100000:=by rw [kr];exact bz (vG hA (show 6+3*M<=54 by omega)) (by omega)
 have c0:=h.c0;have c1:=h.c1;have c2:=h.c2;have c3:=h.c3;have aZ:Hid (β w (w.alloc (aK #[ν (M:Int),ν (A:Int),v,ν po] 216))):=η σ;have HC:=η (aE0 (aA l) _ v 0 _ (h.below aZ.o).own (λu hu=>by obtain⟨y,_,rfl⟩:=df.1 hu;rfl) (by omega));have c2':=(h.below aZ.o).c2;have aGe:=η kr;obtain⟨Av,cv,hv⟩:=bL h.own;subst hv;clear h kr;have b0:(w.alloc (aK #[ν (M:Int),ν (A:Int),aH Av (aA l) cv,ν po] 216)).heap[w.heap.size]? =aC (aK #[ν (M:Int),ν (A:Int),aH Av (aA l) cv,ν po] 216 (0,0)):=cO w _;go_enter func98,ntmps98
 go_wp2_with (go_at_call 158;refine HC.o.mono ?_)
 rintro e w2 ⟨v2,rfl,eU,hb2⟩;have hb:w2.heap[w.heap.size]? =aC (aK #[ν (M:Int),ν (A:Int),aH Av (aA l) cv,ν po] 216 (0,0)):=(hb2.block _ (by simp)).trans b0;have tR:∀k,v2.ownBlock=aC k->w.heap.size+1<=k:=λk hk=>by have:=eF eU k hk;simpa using this
 have aV:Hid (β w w2):=τ aZ hb2;have dE:=η eU;have Z7:=η tR;have z2:w2.cell? ⟨w.heap.size,2,aB⟩=aC (aH Av (aA l) cv):=ρ hb;have f2:w2.frozen? ⟨w.heap.size,2,aB⟩=aP:=by grind [iK]
 have HB:=η hb;obtain⟨A2,Gy,hv2⟩:=bL eU;subst hv2;go_wp2
 go_ret;refine⟨w.heap.size,aH A2 (aA l) Gy,rfl,⟨?_, ?_,aGe.o,hM,hA⟩,aa _,λk hk=>by have:=Z7.o k hk;omega,aV.o.setCell (p:=⟨w.heap.size,2,aB⟩) (aa _) _⟩
 ·exact(lu HB.o 2 _).trans rfl
 exact iC (kK dE.o (λe=>by have:=Z7.o _ e;simp at this;omega) _) (bK _)
theorem aKg(b n c i j:Nat)(qy:i<j)(hj:j<=n)(hc:n<=c)(W:aJ):(Instr.slice 53 (aH (aC ⟨b,0,aB⟩) n c) (aC (aG aF (i:Int))) (aC (aG aF (j:Int))) aB).run aM W= .ok (aH (aC ⟨b,i,aB⟩) (j-i) (c-i)) W:=by
 have h1:(i:Int)<=(j:Int):=by omega
 have h2:(j:Int)<=(c:Int):=by omega
 go_simp
 intro h;omega
def oQ(M:Nat)(l:List Int)(x:Nat):List Int:=(l.drop (x*(6+3*M))).take (6+3*M)
theorem aDH(M A:Nat)(v:aN)(l:List Int)(po:Int)(x bb:Nat)(w:aJ)(h:fC w bb M A v l po)(hI:∀y∈l,aL y)(hx:x<A):
 aQ aM 97 #[π bb,ν (x:Int)] w λe w'=>e=aT (bB #[ν (fU (sumI (oQ M l x))),ν (dC (sumI (oQ M l x)))])/\β w w':=by
 have hM:=h.hM;have hA:=h.hA;have c0:=h.c0;have c1:=h.c1;have c2:=h.c2;have xy:=η (λW=>Uy M hM W);obtain⟨u,hu⟩:∃u:Nat,u=6+3*M:=⟨_,rfl⟩;have hu6:6<=u:=by omega
 have sA:u<=54:=by omega
 obtain⟨q,hq⟩:∃q:Nat,q=x*u:=⟨_,rfl⟩;have IE:q<=9*54:=by rw [hq];exact vG (by omega) sA
 have kr:=h.len;rw [<-hu] at kr xy;have hqu:q+u<=aA l:=by have h2:=Ec u (show x+1<=A by omega);grind
 have hl9:aA l<=9*54:=by rw [kr];exact vG hA sA
 have s6:(x:Int)*(u:Int)=(q:Int):=by omega
 have vZ:((x:Int)+1)*(u:Int)=((q+u:Nat):Int):=by grind
 have hrow:oQ M l x=(l.drop q).take u:=by grind [oQ]
 rw [hrow];obtain⟨Av,cv,hv⟩:=bL h.own;subst hv;have hne:0<aA l:=by omega
 obtain⟨g,hg,jY⟩:∃g,Av=aC ⟨g,0,aB⟩/\aA l<=cv:=by
  rcases h.own.2 with⟨hv,h0⟩|⟨g,cap,cur,hv,_,hb,h3,h4,_⟩
  ·omega
  grind
 subst hg;have jK:=aKg g (aA l) cv q (q+u) (by omega) hqu jY w;have e1:q+u-q=u:=by omega
 rw [e1] at jK;have Di:aW w w.heap.size (aC ⟨g,q,aB⟩) (((l.drop q).take u).map (aG aF)):=by
  intro j y hy;have hs:=aW.cA h.own;rw [List.getElem?_map,List.getElem?_take] at hy;split at hy
  ·rw [List.getElem?_drop,<-List.getElem?_map] at hy;obtain⟨b,o,e,hb,hc⟩:=hs (q+j) y hy;grind
  simp at hy
 have Df:aA ((l.drop q).take u)=u:=by grind
 have ji:=η (CF ((l.drop q).take u) (aC ⟨g,q,aB⟩) (cv-q) w (λy hy=>hI y (List.mem_of_mem_drop (List.mem_of_mem_take hy))) Di (by omega));rw [Df] at ji;clear Di hrow kr h hq hu;generalize (l.drop q).take u=r at*;go_enter func97,ntmps97
 go_wp2_with (first|(go_at_call 146;refine(xy.o _).mono ?_;rintro e w3 ⟨rfl,rfl⟩)|(go_at_call 104;refine kW ji.o λw3 HB=> ?_))
 go_ret2;exact⟨rfl,HB.o⟩
theorem aDF(M A:Nat)(hM:M<=16)(MR:1<=A)(hA:A<=9)(w:aJ):
 aQ aM 79 #[ν (M:Int),ν (A:Int)] w λe w'=>∃nb v,e=aT (bB #[π nb,ν 0])/\fC w' nb M A v (gR (A*(6+3*M)) 0) 0/\w.heap.size<=nb/\(∀k,v.ownBlock=aC k->w.heap.size<=k)/\β w w':=by
 have xy:=η (λW=>Uy M hM W);obtain⟨u,hu⟩:∃u:Nat,u=6+3*M:=⟨_,rfl⟩;have sA:u<=54:=by omega
 obtain⟨q,hq⟩:∃q:Nat,q=A*u:=⟨_,rfl⟩;have IE:q<=9*54:=by rw [hq];exact vG hA sA
 have s6:(A:Int)*(u:Int)=(q:Int):=by omega
 have HLEN:Hid ((gR (A*(6+3*M)) (0:Int))=gR q 0):=η (by rw [<-hu,<-hq]);have HQL:Hid (q=A*(6+3*M)):=η (by rw [hq,hu]);rw [<-hu] at xy;rw [HLEN.o];have Dg:=XK q (by omega) w;have hM0:(M:Int)<=16:=by omega
 have hA0:¬(A:Int)<1:=by omega
 have hmap:(gR q (0:Int)).map (aG aF)=gR q (aG aF 0):=List.map_replicate;clear hu hq;go_enter func79,ntmps79
 go_wp2_with (go_at_call 146;refine(xy.o _).mono ?_;rintro e w3 ⟨rfl,rfl⟩)
 go_ret2;have rr:(w.alloc (aK (lH q (aG aF 0)) 2)).heap[w.heap.size]? =aC (aK (lH q (aG aF 0)) 2 (0,0)):=cO w _;refine⟨w.heap.size+1,aH (aC ⟨w.heap.size,0,aB⟩) q q,rfl,⟨?_, ?_,by rw [Cs];exact HQL.o,hM,hA⟩,by omega,λk hk=>by grind [dy],σ.alloc (by simp) _⟩
 ·have:=cO (w.alloc (aK (lH q (aG aF 0)) 2)) (aK #[ν (M:Int),ν (A:Int),aH (aC ⟨w.heap.size,0,aB⟩) q q,ν 0] 216);grind [DB]
 rw [Cs,hmap];refine⟨by simp,aU ⟨w.heap.size,q,lH q (aG aF 0),rfl,bK _, ?_,aa _,by simp only [bM];omega,by simp,by simp⟩⟩;grind [fG]
def XM:Int:=9223372036854775807
def pS(a b:Int):Int:=if a<=b then 0 else if aL (a-b) then a-b else XM
theorem VA(a b:Int)(ha:aL a)(hb:aL b)(w:aJ):aQ aM 86 #[aG aF a,aG aF b] w λe w'=>e=aT (aG aF (pS a b))/\aY w.heap.size w w':=by
 have HS:=η (λW=>S7 a b W ha hb);by_cases hab:a<=b
 ·have e:pS a b=0:=by grind [pS]
  rw [e];go_enter Lp,Lr
  go_wp2_with fail
  go_ret;exact⟨rfl,aX _ _⟩
 by_cases hd:aL (a-b)
 ·have e:pS a b=a-b:=by grind [pS]
  obtain⟨h1,h2⟩:=eA hd;rw [h1,h2] at HS;rw [e];obtain⟨d,hdd⟩:∃d,d=a-b:=⟨_,rfl⟩;rw [<-hdd] at HS ⊢;clear e hd h1 h2 hdd;go_enter Lp,Lr
  go_wp2_with (go_at_call 148;refine(HS.o _).mono ?_;rintro e w1 ⟨rfl,hb1⟩;have HB:=η hb1;clear hb1)
  go_ret;exact⟨rfl,by rw [<-HB.o];exact aX _ _⟩
 have e:pS a b=XM:=by grind [pS]
 obtain⟨h1,h2⟩:=gw hd;rw [h1,h2] at HS;rw [e];clear e hd h1 h2;go_enter Lp,Lr
 go_wp2_with (go_at_call 148;refine(HS.o _).mono ?_;rintro e w1 ⟨rfl,hb1⟩;have HB:=η hb1;clear hb1)
 go_ret;exact⟨rfl,by rw [<-HB.o];exact aX _ _⟩
theorem xG(w:aJ):aQ aM 61 #[] w λe w'=>e=aT (bQ #[aG aF 1,aG aF 0])/\aY w.heap.size w w':=by
 go_enter func61,ntmps61
 go_wp2
 refine bodyPost_ret (by simp [results,results61,go_sem];try rfl) rfl ?_;exact⟨rfl,(aX _ _).alloc (aa _) _⟩
theorem Ej(m:Int)(w:aJ):aQ aM 49 #[aG aF m] w λe w'=>e=aT (bQ #[aG aF 7,aG aF m])/\aY w.heap.size w w':=by
 go_enter func49,ntmps49
 go_wp2
 refine bodyPost_ret (by simp [results,results49,go_sem];try rfl) rfl ?_;exact⟨rfl,(aX _ _).alloc (aa _) _⟩
theorem zg(m:Int)(w:aJ):aQ aM 47 #[aG aF m] w λe w'=>e=aT (bQ #[aG aF 8,aG aF m])/\aY w.heap.size w w':=by
 go_enter func47,ntmps47
 go_wp2
 refine bodyPost_ret (by simp [results,results47,go_sem];try rfl) rfl ?_;exact⟨rfl,(aX _ _).alloc (aa _) _⟩
def kU(a:Int):Int:=if a=0 then 288230376151711744 else 274877906944
theorem aEB(a:Int)(w:aJ):aQ aM 106 #[aG aF a] w λe w'=>e=aT (aG aF (kU a))/\w=w':=by
 by_cases h:a=0
 ·subst h;go_enter aAW,aBJ
  go_wp2
  go_ret;exact⟨rfl,rfl⟩
 have e:kU a=274877906944:=by grind [kU]
 have hb:(a==0)=aP:=by simpa using h
 rw [e];go_enter aAW,aBJ
 go_wp2
 go_ret;exact⟨rfl,rfl⟩
structure Bd where
 s:Int
 m:Int
 c:Int
 q:Int
 p:Int
structure Fi where
 b:Bd
 q:Int
 c:Int
def Bd.cells(x:Bd):List aN:= [aG aF x.s,aG aF x.m,aG aF x.c,aG aF x.q,aG aF x.p]
def Fi.cells(x:Fi):List aN:= [aG aF x.b.s,aG aF x.b.m,aG aF x.b.c,aG aF x.b.q,aG aF x.b.p,aG aF x.q,aG aF x.c]
def nR(l:List Bd):List aN:=l.flatMap Bd.cells
def BW(l:List Fi):List aN:=l.flatMap Fi.cells
theorem a3I {w:aJ} {B:Nat} {A:Option aj} {l:List Fi}(h:aW w B A (BW l)) {k:Nat}(hk:k<aA l):
 ∃b o,A=aC ⟨b,o,aB⟩/\b<B/\w.cell? ⟨b,o+k*7,aB⟩=aC (ν l[k].b.s)/\w.cell? ⟨b,o+k*7+1,aB⟩=aC (ν l[k].b.m)/\w.cell? ⟨b,o+k*7+2,aB⟩=aC (ν l[k].b.c)/\w.cell? ⟨b,o+k*7+3,aB⟩=aC (ν l[k].b.q)/\w.cell? ⟨b,o+k*7+4,aB⟩=aC (ν l[k].b.p)/\w.cell? ⟨b,o+k*7+5,aB⟩=aC (ν l[k].q)/\w.cell? ⟨b,o+k*7+6,aB⟩=aC (ν l[k].c):=by
 obtain⟨b,o,e,hb,hc⟩:=h.run (i:=k*7) (y:=ν l[k].b.s) (t:= [ν l[k].b.m,ν l[k].b.c,ν l[k].b.q,ν l[k].b.p,ν l[k].q,ν l[k].c]) (λj u hu=>uV Fi.cells 7 (λ_=>rfl) l k hk j u hu);exact⟨b,o,e,hb,hc 0 _ rfl,hc 1 _ rfl,hc 2 _ rfl,hc 3 _ rfl,hc 4 _ rfl,hc 5 _ rfl,hc 6 _ rfl⟩
def rY(l:List Fi):Int:=l.foldl (λn x=>fW (n+x.c)) 0
theorem aES(l:List Fi)(x:Fi):rY (l++ [x])=fW (rY l+x.c):=by simp [rY]
theorem aET(l:List Fi)(A:Option aj)(c:Nat)(w:aJ)(hs:aW w w.heap.size A (BW l))(hl:aA l<=100000):aQ aM 136 #[aH A (aA l) c] w λe w'=>e=aT (aG aF (rY l))/\aY w.heap.size w w':=by
 have HS:=η hs;have HT:Hid (rY l=rY (l.take (aA l))):=η (by rw [cT]);generalize rY l=R at HT ⊢;go_enter func136,ntmps136
 go_wp2
 go_loopw [3,5,8] (λn _ i wr=>∃k:Nat,k<=aA l/\i=ν (k:Int)/\n=ν (rY (l.take k))/\Hid (β w wr)) (λ_ _ i _=>aA l-(af i).toNat)
 ·exact⟨0,bK _,rfl,rfl,aX _ _⟩
 ·
  obtain⟨k,hk,rfl,rfl,HB⟩:=hrel;have hsz:=HB.o.size;by_cases hlt:k<aA l
  ·obtain⟨b,o,rfl,hb,e0,e1,e2,e3,e4,e5,e6⟩:=a3I ((HS.o.below HB).mono hsz) hlt;have cG:Hid (rY (l.take (k+1))=fW (rY (l.take k)+l[k].c)):=η (by grind [fF,aES]);have hkb:(k:Int)<(aA l:Int):=by omega
   generalize l[k]=x at*;generalize rY (l.take k)=n at*;go_wp2
   go_roundw
   ·exact⟨k+1,by omega,by go_num,by rw [cG.o],HB.o.alloc hsz _⟩
   simp [af];omega
  obtain rfl:k=aA l:=by omega
  go_wp2
  go_ret;exact⟨by rw [HT.o];rfl,HB⟩
section
structure jA(w:aJ)(xb:Nat)(x:ak)(v:aN)(L:List Bd):Prop where
 blk:w.heap[xb]? =aC (aK #[aH x.Am (aA x.ms) x.cm,aH x.As (aA x.ss) x.cs,aH x.Ac (aA x.cy) x.cc,ν x.line,ν x.bV,ν x.lead,ν x.tr,ν x.bT,v] 134 (0,0))
 own:w.ownsRow 0 41 5 v (aA L) (nR L)
section
variable {w w':aJ} {xb:Nat} {x:ak} {v:aN} {L:List Bd}
theorem jA.lt(h:jA w xb x v L):xb<w.heap.size:=(fX.1 h.blk).1
theorem jA.below(h:jA w xb x v L)(hb:aY w.heap.size w w'):jA w' xb x v L:=by have hg:w.grownBy w' aB:=⟨hb.os,hb.tape,hb.output,hb.size,λi hi _=>hb.block i hi⟩;exact⟨(hb.block _ h.lt).trans h.blk,h.own.kept hg (by grind)⟩
theorem jA.c8(h:jA w xb x v L):w.cell? ⟨xb,8,aB⟩=aC v:=bH _ _ _ _ _ (0,0) h.blk
theorem jA.ne(h:jA w xb x v L):v.ownBlock≠aC xb:=by
 rcases h.own.2 with⟨rfl,_⟩|⟨g,cap,cur,rfl,_,hh,_⟩
 ·simp [dy]
 intro e;have e':g=xb:=by grind [dy]
 subst e';rw [h.blk] at hh;grind
end
theorem a1q(L:List Bd):∀u∈nR L,u.oneCell'=aO:=by intro u hu;unfold nR at hu;obtain⟨x,_,hx⟩:=List.mem_flatMap.1 hu;simp [Bd.cells] at hx;rcases hx with rfl|rfl|rfl|rfl|rfl<;>rfl
theorem aM9(x:ak)(v:aN)(L:List Bd)(xb:Nat)(w:aJ)(h:jA w xb x v L)(hl:aA L<=100000):
 aQ aM 193 #[π xb] w (sU 41 5 (aA L) (nR L) w):=by
 have c8:=h.c8;have HC:=η (a2M (aA L) (nR L) v 0 w h.own (a1q L) hl);obtain⟨A,c,hv⟩:=bL h.own;subst hv;go_enter func193,ntmps193
 go_wp2_with (go_at_call 157;refine HC.o.mono ?_)
 rintro e w2 ⟨v2,rfl,eU,hb2⟩;have HO:=η eU;have HB:=η hb2;go_wp2
 go_ret;exact⟨v2,rfl,HO,HB⟩
theorem aMA(x:ak)(v:aN)(L:List Bd)(xb:Nat)(w:aJ)(h:jA w xb x v L):
 aQ aM 77 #[π xb] w λe w'=>e=aT (ν (aA L:Int))/\w'=w.setCell ⟨xb,8,aB⟩ (aH aB 0 0)/\jA w' xb x (aH aB 0 0) []:=by
 have c8:=h.c8;have f8:w.frozen? ⟨xb,8,aB⟩=aP:=by simp [iK,h.blk]
 have H:=η h;obtain⟨A,c,hv⟩:=bL h.own;subst hv;go_enter func77,ntmps77
 go_wp2
 go_ret;exact⟨rfl,rfl,(lu H.o.blk 8 _).trans rfl,fh _ _ _ _⟩
def aAH(x:ak)(L:List Bd)(w:aJ)(e:dU)(w':aJ):Prop:=
 ∃nb v,e=aT (π nb)/\jA w' nb x v L/\w.heap.size<=nb/\(∀k,v.ownBlock=aC k->w.heap.size<=k)/\β w w'
theorem aMB(x:ak)(v:aN)(L:List Bd)(xb:Nat)(w:aJ)(h:jA w xb x v L)(hl:aA L<=100000):
 aQ aM 95 #[π xb] w (aAH x L w):=by
 have HC:=η (λW hW=>a2M (aA L) (nR L) v 0 W (h.below hW).own (a1q L) hl);obtain⟨A,c,hv⟩:=bL h.own;subst hv;have bO:Hid (∀W,β w W->W.cell? ⟨xb,0,aB⟩=aC (aH x.Am (aA x.ms) x.cm)/\W.cell? ⟨xb,1,aB⟩=aC (aH x.As (aA x.ss) x.cs)/\W.cell? ⟨xb,2,aB⟩=aC (aH x.Ac (aA x.cy) x.cc)/\W.cell? ⟨xb,3,aB⟩=aC (ν x.line)/\W.cell? ⟨xb,4,aB⟩=aC (ν x.bV)/\W.cell? ⟨xb,5,aB⟩=aC (ν x.lead)/\W.cell? ⟨xb,6,aB⟩=aC (ν x.tr)/\W.cell? ⟨xb,7,aB⟩=aC (ν x.bT)/\W.cell? ⟨xb,8,aB⟩=aC (aH A (aA L) c)):=η (by intro W hW;have hb:=(h.below hW).blk;exact⟨ρ hb,ρ hb,ρ hb,ρ hb,ρ hb,ρ hb,ρ hb,ρ hb,ρ hb⟩);go_enter func95,ntmps95
 go_wp2
 have bP:β w w.drew:=(aX _ _).drew;go_region_held3 (λW=>W.cell? ⟨xb,0,aB⟩=aC (aH x.Am (aA x.ms) x.cm)/\W.cell? ⟨xb,1,aB⟩=aC (aH x.As (aA x.ss) x.cs)/\W.cell? ⟨xb,2,aB⟩=aC (aH x.Ac (aA x.cy) x.cc)/\W.cell? ⟨xb,3,aB⟩=aC (ν x.line)/\W.cell? ⟨xb,4,aB⟩=aC (ν x.bV)/\W.cell? ⟨xb,5,aB⟩=aC (ν x.lead)/\W.cell? ⟨xb,6,aB⟩=aC (ν x.tr)/\W.cell? ⟨xb,7,aB⟩=aC (ν x.bT)/\W.cell? ⟨xb,8,aB⟩=aC (aH A (aA L) c)) (first|(with_reducible exact bO.o _ bP)|(with_reducible exact bO.o _ hb2)|(with_reducible exact bO.o _ hb3)) ((go_at_call 157;refine(HC.o _ bP).mono ?_;rintro e w2 ⟨v2,rfl,eU,vU⟩;have hb2:β w w2:=bP.trans (vU.mono bP.size);obtain⟨A2,c2,hv2⟩:=bL eU;subst hv2;have hb3:=hb2.alloc hb2.size (aK #[aH x.Am (aA x.ms) x.cm,aH x.As (aA x.ss) x.cs,aH x.Ac (aA x.cy) x.cc,ν x.line,ν x.bV,ν x.lead,ν x.tr,ν x.bT,aH A2 (aA L) c2] 134)))
 have HO:=η eU;have HB:=η hb2;have ag:=η hb3;go_wp2
 go_ret;refine⟨w2.heap.size,aH A2 (aA L) c2,rfl,⟨cO w2 _,iC (HO.o.alloc _) (bK _)⟩,HB.o.size,λk hk=>eF HO.o k hk,ag.o⟩
end
section
structure Hr where
 i:Int
 s:Int
 m:Int
 a:Int
 n:Int
def Hr.cells(x:Hr):List aN:= [aG aF x.i,aG aF x.s,aG aF x.m,aG aF x.a,aG aF x.n]
def s7(l:List Hr):List aN:=l.flatMap Hr.cells
theorem Wo(L:List Hr):∀u∈s7 L,u.oneCell'=aO:=by intro u hu;unfold s7 at hu;obtain⟨x,_,hx⟩:=List.mem_flatMap.1 hu;simp [Hr.cells] at hx;rcases hx with rfl|rfl|rfl|rfl|rfl<;>rfl
structure jE(w:aJ)(tb:Nat)(room:Int)(v:aN)(L:List Hr):Prop where
 blk:w.heap[tb]? =aC (aK #[ν room,v] 218 (0,0))
 own:w.ownsRow 0 188 5 v (aA L) (s7 L)
section
variable {w w':aJ} {tb:Nat} {room:Int} {v:aN} {L:List Hr}
theorem jE.lt(h:jE w tb room v L):tb<w.heap.size:=(fX.1 h.blk).1
theorem jE.below(h:jE w tb room v L)(hb:aY w.heap.size w w'):jE w' tb room v L:=by have hg:w.grownBy w' aB:=⟨hb.os,hb.tape,hb.output,hb.size,λi hi _=>hb.block i hi⟩;exact⟨(hb.block _ h.lt).trans h.blk,h.own.kept hg (by grind)⟩
theorem jE.c0(h:jE w tb room v L):w.cell? ⟨tb,0,aB⟩=aC (aG aF room):=bH _ _ _ _ _ (0,0) h.blk
theorem jE.c1(h:jE w tb room v L):w.cell? ⟨tb,1,aB⟩=aC v:=bH _ _ _ _ _ (0,0) h.blk
end
theorem aLQ(room:Int)(v:aN)(L:List Hr)(tb:Nat)(w:aJ)(h:jE w tb room v L)(hr:0<=room/\room<=1000000000)(hl:aA L<=100000):
 aQ aM 114 #[π tb] w λe w'=>e=aT (ν (room-aA L))/\β w w':=by
 have c0:=h.c0;have c1:=h.c1;obtain⟨A,c,hv⟩:=bL h.own;subst hv;have hw:fW (room-aA L)=room-aA L:=by unfold fW;omega
 go_enter func114,ntmps114
 go_wp2
 go_quiet (fail)
 go_wp2
 go_ret;exact⟨rfl,below_drewN (aX _ _) nq⟩
theorem a8H(room:Int)(v:aN)(L:List Hr)(tb:Nat)(w:aJ)(h:jE w tb room v L)(hl:aA L<=100000):
 aQ aM 125 #[π tb] w (sU 188 5 (aA L) (s7 L) w):=by
 have c1:=h.c1;have HC:=η (a2N (aA L) (s7 L) v 0 w h.own (Wo L) hl);obtain⟨A,c,hv⟩:=bL h.own;subst hv;go_enter func125,ntmps125
 go_wp2_with (go_at_call 181;refine HC.o.mono ?_)
 rintro e w2 ⟨v2,rfl,eU,hb2⟩;have HO:=η eU;have HB:=η hb2;go_wp2
 go_ret;exact⟨v2,rfl,HO,HB⟩
def a0N(room:Int)(L:List Hr)(w:aJ)(e:dU)(w':aJ):Prop:=
 ∃nb v,e=aT (π nb)/\jE w' nb room v L/\w.heap.size<=nb/\(∀k,v.ownBlock=aC k->w.heap.size<=k)/\β w w'
theorem aLR(room:Int)(w:aJ)(hr:0<=room):
 aQ aM 80 #[ν room] w (a0N room [] w):=by
 have hm:max room 0=room:=by omega
 go_enter func80,ntmps80
 go_wp2
 go_ret;refine⟨w.heap.size,aH aB 0 0,rfl,⟨?_,fh _ _ _ _⟩,aa _,λk hk=>by grind [dy],(aX _ _).alloc (aa _) _⟩;rw [cO]
theorem aLJ(room:Int)(v:aN)(L:List Hr)(tb:Nat)(w:aJ)(h:jE w tb room v L)(hl:aA L<=100000):
 aQ aM 156 #[π tb] w (a0N room L w):=by
 have HC:=η (λW hW=>a2N (aA L) (s7 L) v 0 W (h.below hW).own (Wo L) hl);obtain⟨A,c,hv⟩:=bL h.own;subst hv;have bO:Hid (∀W,β w W->W.cell? ⟨tb,0,aB⟩=aC (ν room)/\W.cell? ⟨tb,1,aB⟩=aC (aH A (aA L) c)):=η (by intro W hW;exact⟨(h.below hW).c0,(h.below hW).c1⟩);go_enter func156,ntmps156
 go_wp2
 have bP:β w w.drew:=(aX _ _).drew;go_region_held3 (λW=>W.cell? ⟨tb,0,aB⟩=aC (ν room)/\W.cell? ⟨tb,1,aB⟩=aC (aH A (aA L) c)) (first|(with_reducible exact bO.o _ bP)|(with_reducible exact bO.o _ hb2)|(with_reducible exact bO.o _ hb3)) ((go_at_call 181;refine(HC.o _ bP).mono ?_;rintro e w2 ⟨v2,rfl,eU,vU⟩;have hb2:β w w2:=bP.trans (vU.mono bP.size);obtain⟨A2,c2,hv2⟩:=bL eU;subst hv2;have hb3:=hb2.alloc hb2.size (aK #[ν room,aH A2 (aA L) c2] 218)))
 have HO:=η eU;have HB:=η hb2;have ag:=η hb3;go_wp2
 go_ret;refine⟨w2.heap.size,aH A2 (aA L) c2,rfl,⟨cO w2 _,iC (HO.o.alloc _) (bK _)⟩,HB.o.size,λk hk=>eF HO.o k hk,ag.o⟩
end
def lB(M A:Nat)(q:Int×Int×Int):Option Nat:=plcA M A q.1 q.2.1 q.2.2
def ki(M A:Nat)(l:List Int)(q:Int×Int×Int):Int:=balA M A l q.1 q.2.1 q.2.2
def fB(es:List En)(q:Int×Int×Int):Int:=sumI (gz es q)
structure Ch where
 p:Int
 f:Bool
 b:Int
 n:Int
def Ch.cells(x:Ch):List aN:= [aG aF x.p,bJ x.f,aG aF x.b,aG aF x.n]
def BR(l:List Ch):List aN:=l.flatMap Ch.cells
theorem aDU(l:List Ch)(x:Ch):BR (l++ [x])=BR l++x.cells:=by simp [BR]
theorem a2D {w:aJ} {B:Nat} {A:Option aj} {l:List Ch}(h:aW w B A (BR l)) {k:Nat}(hk:k<aA l):
 ∃b o,A=aC ⟨b,o,aB⟩/\b<B/\w.cell? ⟨b,o+k*4,aB⟩=aC (ν l[k].p)/\w.cell? ⟨b,o+k*4+1,aB⟩=aC (bJ l[k].f)/\w.cell? ⟨b,o+k*4+2,aB⟩=aC (ν l[k].b)/\w.cell? ⟨b,o+k*4+3,aB⟩=aC (ν l[k].n):=by
 obtain⟨b,o,e,hb,hc⟩:=h.run (i:=k*4) (y:=ν l[k].p) (t:= [bJ l[k].f,ν l[k].b,ν l[k].n]) (λj u hu=>uV Ch.cells 4 (λ_=>rfl) l k hk j u hu);exact⟨b,o,e,hb,hc 0 _ rfl,hc 1 _ rfl,hc 2 _ rfl,hc 3 _ rfl⟩
def kD(M A:Nat)(l:List Int)(es:List En)(q:Int×Int×Int):Ch:=⟨((lB M A q).getD 0:Nat),qJ q.1,fB es q,ki M A l q+fB es q⟩
def yl(M A:Nat)(l:List Int)(es:List En)(q:Int×Int×Int):Bool:=dC (fB es q) !=0||dC (ki M A l q+fB es q) !=0
def jW(M A:Nat)(l:List Int)(es:List En):Int:=
 if 1024<(aA es) then 6 else if es.any (λx=>(lB M A x.spot).isNone)=aO then 8 else if (dR 9).any (λi=>sumI (gy es i) !=0)=aO then 17
 else if (dB es).any (yl M A l es)=aO then 2 else 0
def rh(x:Ch):Bool:= !x.f&&decide (x.b<0)&&decide (x.n<0)
def kj(M A:Nat)(l:List Int)(es:List En):List Ch:=(dB es).map (kD M A l es)
def lC(l:List Int)(c:List Ch):List Int:=c.foldl (λl x=>l.set x.p.toNat x.n) l
def kH(M A:Nat)(l:List Int)(es:List En):List Int:=lC l (kj M A l es)
def nT(M A:Nat)(l:List Int)(es:List En):Int:=if jW M A l es≠0 then jW M A l es else if (kj M A l es).any rh=aO then 13 else 0
theorem a6c(l:List Int)(c:List Ch):aA (lC l c)=aA l:=by
 unfold lC;induction c generalizing l with
 |nil=>rfl
 |cons x c ih=>grind
theorem aJk(l:List Int)(c:List Ch)(x:Ch):lC l (c++ [x])=(lC l c).set x.p.toNat x.n:=by simp [lC]
theorem aIL(M A:Nat)(l:List Int)(es:List En):aA (kH M A l es)=aA l:=a6c _ _
def iP(h:List Hr)(k m a:Int):Int:=h.foldl (λn r=>if r.s==k&&r.m==m&&r.a==a then fW (n+r.n) else n) 0
theorem aGP(h:List Hr)(r:Hr)(k m a:Int):iP (h++ [r]) k m a=if r.s==k&&r.m==m&&r.a==a then fW (iP h k m a+r.n) else iP h k m a:=by simp [iP]
def sJ(M A:Nat)(l l':List Int)(h:List Hr)(x:En):Bool:= !qJ x.k&&decide (ki M A l' x.spot<ki M A l x.spot)&&decide (ki M A l' x.spot<iP h x.k x.m x.a)
def lZ(M A:Nat)(l:List Int)(h:List Hr)(es:List En):Int:=if nT M A l es≠0 then nT M A l es else if es.any (sJ M A l (kH M A l es) h)=aO then 13 else 0
theorem aIR {M:Nat} {k m k' m':Int} {n:Nat}(h:jt M k m=aC n)(h':jt M k' m'=aC n):k=k'/\m=m':=by grind [jt]
theorem Xi {M A:Nat} {k m a:Int} {n:Nat}(h:plcA M A k m a=aC n):∃j,jt M k m=aC j/\j<6+3*M/\0<=a/\a<(A:Int)/\n=a.toNat*(6+3*M)+j:=by grind [plcA,jt]
theorem a2j {S a b i j:Nat}(hi:i<S)(hj:j<S)(h:a*S+i=b*S+j):a=b/\i=j:=by
 have h1:(a*S+i) % S=(b*S+j) % S:=by rw [h]
 rw [aA6,aA7,aA6 (b*S),aA7,aAA hi,aAA hj] at h1;subst h1;have h2:a*S=b*S:=by omega
 exact⟨Nat.eq_of_mul_eq_mul_right (by omega) h2,rfl⟩
theorem aJV {M A:Nat} {k m a k' m' a':Int} {n:Nat}(h:plcA M A k m a=aC n)(h':plcA M A k' m' a'=aC n):k=k'/\m=m'/\a=a':=by obtain⟨j,h1,h2,h3,h4,h5⟩:=Xi h;obtain⟨j',uW,uX,Hm,h4',h5'⟩:=Xi h';obtain⟨e1,rfl⟩:=a2j h2 uX (h5.symm.trans h5');grind [aIR]
theorem a6U {M A:Nat} {q q':Int×Int×Int} {n:Nat}(h:lB M A q=aC n)(h':lB M A q'=aC n):q=q':=by obtain⟨k,m,a⟩:=q;obtain⟨k',m',a'⟩:=q';obtain⟨rfl,rfl,rfl⟩:=aJV h h';rfl
theorem KU {es:List En} {q:Int×Int×Int}:q∈dB es↔∃x∈es,x.spot=q:=by
 suffices h:∀n (es:List En),aA es=n->(q∈dB es↔∃x∈es,x.spot=q) from h _ es rfl
 intro n;induction n with
 |zero=>
  grind [dB,ordF]
 |succ n ih=>
  intro es h;rcases P1 es with rfl|⟨l,x,rfl⟩
  ·cases h
  rw [P0] at h ⊢;rw [Rb,gL,ih l (by simpa using h)];constructor
  ·grind
  rintro⟨y,hy,e⟩;rcases gL.1 hy with hy|hy
  ·grind
  obtain rfl:=List.mem_singleton.1 hy;by_cases hx:(gz l y.spot).isEmpty=aO
  ·grind
  left;have mV:gz l y.spot≠ []:=by grind
  obtain⟨u,hu⟩:=List.exists_mem_of_ne_nil _ mV;grind [gz]
theorem a6D(es:List En):(dB es).Nodup:=by
 suffices h:∀n (es:List En),aA es=n->(dB es).Nodup from h _ es rfl
 intro n;induction n with
 |zero=>
  grind [dB,ordF]
 |succ n ih=>
  intro es h;rcases P1 es with rfl|⟨l,x,rfl⟩
  ·cases h
  rw [P0] at h ⊢;rw [Rb];by_cases hx:(gz l x.spot).isEmpty=aO
  ·rw [ifP hx,List.nodup_append];refine⟨ih l (by simpa using h),by simp, ?_⟩;intro a ha b hb e;obtain rfl:=List.mem_singleton.1 hb;subst e;obtain⟨y,hy,e⟩:=KU.1 ha;have:y.n∈gz l x.spot:=by
    grind [gz]
   grind
  grind
theorem aDP {es:List En} {q:Int×Int×Int}(h:q∉dB es):gz es q= []:=by grind [gz,List.filter_eq_nil_iff,KU]
theorem YM {es:List En} {q:Int×Int×Int}(h:q∉dB es):fB es q=0:=by unfold fB;rw [aDP h];rfl
theorem aNC(l:List Int)(i j:Nat)(v:Int)(hi:i<aA l):(l.set i v).getD j 0=if i=j then v else l.getD j 0:=by grind
theorem a6b(M A:Nat)(l:List Int)(es:List En)(q':Int×Int×Int)(n':Nat)(hq':lB M A q'=aC n'):∀(qs:List (Int×Int×Int)) (acc:List Int),aA acc=A*(6+3*M)->(∀q∈qs,∃n,lB M A q=aC n)->(lC acc (qs.map (kD M A l es))).getD n' 0=if q'∈qs then ki M A l q'+fB es q' else acc.getD n' 0
 | [],acc,_,_=>by simp [lC]
 |q::qs,acc,hlen,hp=>by
  obtain⟨n,hn⟩:=hp q (by simp);have hlt:n<aA acc:=by rw [hlen];exact Nb hn
  have hch:(kD M A l es q).p.toNat=n:=by simp [kD,hn]
  have ih:=a6b M A l es q' n' hq' qs (acc.set n (kD M A l es q).n) (by grind) (λq hq=>hp q (dh _ hq));grind [lC,kD,a6U]
structure xt(M A:Nat)(l:List Int)(es:List En):Prop where
 len:aA es<=1024
 Na:∀x∈es,∃n,lB M A x.spot=aC n
 zero:∀i,i<9->sumI (gy es i)=0
 ovr:∀q∈dB es,aL (fB es q)/\aL (ki M A l q+fB es q)
theorem aDk {M A:Nat} {l:List Int} {es:List En}(h:jW M A l es=0):xt M A l es:=by
 unfold jW at h;split at h
 ·cases h
 rename_i h1;split at h
 ·cases h
 rename_i h2;split at h
 ·cases h
 rename_i h3;split at h
 ·cases h
 rename_i h4;refine⟨by omega, ?_, ?_, ?_⟩
 ·intro x hx;cases hp:lB M A x.spot with
  |some n=>exact⟨n,rfl⟩
  |none=>grind
 ·grind
 grind [yl,dC]
theorem a2F {M A:Nat} {l:List Int} {es:List En}(h:xt M A l es):jW M A l es=0:=by
 unfold jW;rw [ifN (by have:=h.len;omega),ifN,ifN,ifN]
 ·intro ha;obtain⟨q,hq,hb⟩:=kA.1 ha;obtain⟨h1,h2⟩:=h.ovr q hq;unfold yl at hb;rw [(eA h1).2,(eA h2).2] at hb;grind
 ·intro ha;obtain⟨i,hi,hb⟩:=kA.1 ha;rw [h.zero i (nP.1 hi)] at hb;grind
 intro ha;obtain⟨x,hx,hb⟩:=kA.1 ha;obtain⟨n,hn⟩:=h.Na x hx;rw [hn] at hb;cases hb
theorem xt.spot {M A:Nat} {l:List Int} {es:List En}(h:xt M A l es):∀q∈dB es,∃n,lB M A q=aC n:=by intro q hq;obtain⟨x,hx,rfl⟩:=KU.1 hq;exact h.Na x hx
theorem aD0 {M A:Nat} {l:List Int} {q:Int×Int×Int} {n:Nat}(h:lB M A q=aC n):ki M A l q=l.getD n 0:=by obtain⟨k,m,a⟩:=q;have h':plcA M A k m a=aC n:=h;grind [ki,balA]
theorem KV {M A:Nat} {l:List Int} {es:List En}(hl:aA l=A*(6+3*M))(h:xt M A l es) {q:Int×Int×Int} {n:Nat}(hn:lB M A q=aC n):ki M A (kH M A l es) q=ki M A l q+fB es q:=by have:=a6b M A l es q n hn (dB es) l hl h.spot;grind [aD0,kH,kj,YM]
theorem a7k:∀(l:List Int) (i:Nat) (v:Int),i<aA l->sumI (l.set i v)=sumI l+(v-l.getD i 0)
 | [],i,_,h=>by simp at h
 |a::l,0,v,_=>by simp [sumI];omega
 |a::l,i+1,v,h=>by have:=a7k l i v (by simpa using h);grind [sumI]
theorem aKE {M A:Nat}(l:List Int)(a j x:Nat)(v:Int)(hl:aA l=A*(6+3*M))(ha:a<A)(hj:j<6+3*M):sumI (oQ M (l.set (a*(6+3*M)+j) v) x)=sumI (oQ M l x)+if a=x then v-l.getD (a*(6+3*M)+j) 0 else 0:=by
 have hlt:(a+1)*(6+3*M)<=A*(6+3*M):=Ec _ ha;rw [Nat.succ_mul] at hlt;unfold oQ;by_cases h:a=x
 ·grind [List.drop_set,List.take_set,a7k]
 rw [ifN h,Int.add_zero];congr 1;apply List.ext_getElem?;intro i;simp only [List.getElem?_take,List.getElem?_drop,List.getElem?_set];by_cases hi:i<6+3*M
 ·rw [ifP hi,ifP hi,ifN];intro e;obtain⟨e1,_⟩:=a2j hj hi e;exact h e1
 grind
def wE(es:List En)(qs:List (Int×Int×Int))(a:Nat):Int:=sumI ((qs.filter λq=>q.2.2==(a:Int)).map (fB es))
theorem YL(es:List En)(q:Int×Int×Int)(qs:List (Int×Int×Int))(a:Nat):wE es (q::qs) a=(if q.2.2=(a:Int) then fB es q else 0)+wE es qs a:=by
 unfold wE;rw [List.filter_cons];by_cases h:q.2.2=(a:Int)
 ·rw [ifP h,ifP (by simpa using h)];rfl
 grind
theorem a6d(M A:Nat)(l:List Int)(es:List En)(x:Nat):∀(qs:List (Int×Int×Int)) (acc:List Int),aA acc=A*(6+3*M)->qs.Nodup->(∀q∈qs,∃n,lB M A q=aC n/\acc.getD n 0=ki M A l q)->sumI (oQ M (lC acc (qs.map (kD M A l es))) x)=sumI (oQ M acc x)+wE es qs x
 | [],acc,_,_,_=>by grind [lC,wE,sumI]
 |q::qs,acc,hlen,vg,hp=>by
  obtain⟨n,hn,hv⟩:=hp q (by simp);have hch:(kD M A l es q).p.toNat=n:=by simp [kD,hn]
  have hlt:n<aA acc:=by rw [hlen];exact Nb hn
  obtain⟨tU,vh⟩:=aA1.1 vg;have e:lC acc ((q::qs).map (kD M A l es))=lC (acc.set n (kD M A l es q).n) (qs.map (kD M A l es)):=by grind [lC]
  have ih:=a6d M A l es x qs (acc.set n (kD M A l es q).n) (by grind) vh (λq2 h2=>by grind [a6U]);obtain⟨j,h1,h2,h3,h4,h5⟩:=Xi hn;rw [e,ih,YL];have hr:=aKE acc q.2.2.toNat j x (kD M A l es q).n hlen (by omega) h2;grind [kD]
theorem Ip(l:List En)(x:En)(q:Int×Int×Int):fB (l++ [x]) q=fB l q+if q=x.spot then x.n else 0:=by
 unfold fB;rw [a1z];by_cases h:q=x.spot
 ·rw [ifP h,ifP h,Nr];simp [sumI]
 grind
theorem a7s(l:List En)(x:En)(a:Nat):∀qs:List (Int×Int×Int),qs.Nodup->wE (l++ [x]) qs a=wE l qs a+if x.spot∈qs/\x.a=(a:Int) then x.n else 0
 | [],_=>by simp [wE,sumI]
 |q::qs,vg=>by
  obtain⟨h1,h2⟩:=aA1.1 vg;rw [YL,YL,a7s l x a qs h2,Ip];by_cases hq:q=x.spot
  ·subst hq;have e:x.spot.2.2=x.a:=rfl;grind
  grind
theorem aL5(es:List En)(a:Nat):wE es (dB es) a=sumI (gy es a):=by
 suffices h:∀n (es:List En),aA es=n->wE es (dB es) a=sumI (gy es a) from h _ es rfl
 intro n;induction n with
 |zero=>
  grind [dB,ordF,wE,gy]
 |succ n ih=>
  intro es h;rcases P1 es with rfl|⟨l,x,rfl⟩
  ·cases h
  rw [P0] at h ⊢;rw [a7s _ _ _ _ (a6D _)];have hi:=ih l (by simpa using h);have hs:sumI (gy (l++ [x]) a)=sumI (gy l a)+if x.a=(a:Int) then x.n else 0:=by
   rw [a1w];by_cases hx:x.a=(a:Int)
   ·rw [ifP hx,ifP hx,Nr];simp [sumI]
   grind
  have hm:x.spot∈dB (l++ [x]):=KU.2 ⟨x,by simp,rfl⟩;have hq:wE l (dB (l++ [x])) a=wE l (dB l) a:=by
   rw [Rb];by_cases hx:(gz l x.spot).isEmpty=aO
   ·rw [ifP hx];unfold wE;rw [List.filter_append,dZ,Nr,List.filter_cons];grind [fB,sumI]
   grind
  grind
theorem aIM {M A:Nat} {l:List Int} {es:List En}(hl:aA l=A*(6+3*M))(h:xt M A l es) {a:Nat}(ha:a<9):sumI (oQ M (kH M A l es) a)=sumI (oQ M l a):=by have h1:=a6d M A l es a (dB es) l hl (a6D _) (λq hq=>by obtain⟨n,hn⟩:=h.spot q hq;refine⟨n,hn, ?_⟩;obtain⟨k,m,b⟩:=q;have KE:plcA M A k m b=aC n:=hn;grind [ki,balA]);unfold kH kj;rw [h1,aL5,h.zero a ha,Int.add_zero]
section
open Go.Maps Go.MapKept Go.ChangeMaps
section
variable {κ:Type} [BEq κ]
def getM(q:κ):List (κ×aN)->Option aN
 | []=>aB
 |p::m=>if p.1==q then aC p.2 else getM q m
def eR(q:κ)(v:aN):List (κ×aN)->List (κ×aN)
 | []=> [(q,v)]
 |p::m=>if p.1==q then (q,v)::m else p::eR q v m
def wG(m:List (κ×aN)):Prop:=m.Pairwise λp q=>p.1≠q.1
theorem a6g {q:κ} {v:aN} {x:κ×aN}:∀ {m:List (κ×aN)},x∈eR q v m->x=(q,v)\/x∈m
 | [],h=>by grind [eR]
 |p::m,h=>by
  unfold eR at h;split at h
  ·grind
  rcases fE.1 h with h|h
  ·grind
  exact(a6g h).imp id λh=>dh _ h
variable [LawfulBEq κ]
theorem getM_none {q:κ}:∀ {m:List (κ×aN)},(∀p∈m,p.1≠q)->getM q m=aB
 | [],_=>rfl
 |p::m,h=>by unfold getM;rw [ifN (by grind)];exact getM_none λx hx=>h x (dh _ hx)
theorem Xo {q:κ}(v:aN):∀ {m:List (κ×aN)},(∀p∈m,p.1≠q)->eR q v m=m++ [(q,v)]
 | [],_=>rfl
 |p::m,h=>by unfold eR;rw [ifN (by grind),Xo v λx hx=>h x (dh _ hx)];rfl
theorem getM_some {q:κ} {v0:aN}:∀ {m:List (κ×aN)} {j:Nat},wG m->m[j]? =aC (q,v0)->getM q m=aC v0
 | [],_,_,h=>by simp at h
 |p::m,0,_,h=>by grind [getM]
 |p::m,j+1,ha,h=>by obtain⟨h1,h2⟩:=kf.1 ha;have hm:=zS (by simpa using h);unfold getM;rw [ifN (by simpa using h1 _ hm)];exact getM_some h2 (by simpa using h)
theorem Xp {q:κ} {v0:aN}(v:aN):∀ {m:List (κ×aN)} {j:Nat},wG m->m[j]? =aC (q,v0)->eR q v m=m.set j (q,v)
 | [],_,_,h=>by simp at h
 |p::m,0,_,h=>by grind [eR]
 |p::m,j+1,ha,h=>by obtain⟨h1,h2⟩:=kf.1 ha;have hm:=zS (by simpa using h);unfold eR;rw [ifN (by simpa using h1 _ hm),Xp v h2 (by simpa using h)];rfl
theorem wG.put {q:κ} {v:aN}:∀ {m:List (κ×aN)},wG m->wG (eR q v m)
 | [],_=>by simp [eR,wG]
 |p::m,ha=>by
  obtain⟨h1,h2⟩:=kf.1 ha;unfold eR;split
  ·rename_i hc;have e:p.1=q:=by simpa using hc
   exact kf.2 ⟨λx hx=>by grind,h2⟩
  rename_i hc;refine kf.2 ⟨λx hx=> ?_,wG.put h2⟩;rcases a6g hx with rfl|hx
  ·simpa using hc
  exact h1 x hx
theorem a3X(q:κ)(v:aN):∀m:List (κ×aN),getM q (eR q v m)=aC v
 | []=>by simp [eR,getM]
 |p::m=>by
  unfold eR;split
  ·simp [getM]
  rename_i hc;unfold getM;rw [ifN hc,a3X q v m]
theorem a3W {q q':κ}(h:q≠q')(v:aN):∀m:List (κ×aN),getM q' (eR q v m)=getM q' m
 | []=>by simp [eR,getM,h]
 |p::m=>by
  unfold eR;split
  ·grind [getM]
  unfold getM;rw [a3W h v m]
end
section
variable {κ:Type} {P:Program} {k:bY} {enc:κ->aN}
structure eX(P:Program)(k:bY)(enc:κ->aN)(w:aJ)(b:Nat)(m:List (κ×aN)):Prop where
 blk:∃es clock,w.heap[b]? =aC (.map es clock)/\es.toList.map (λe=>(e.key,e.val))=m.map λp=>(enc p.1,p.2)
 apart:wG m
structure CN(P:Program)(k:bY)(enc:κ->aN)(jf:κ->Prop):Prop where
 keyed:Keyed P k
 key:∀q,jf q->∃kl,keyOf P k (enc q)=aC kl
 inj:∀q q',enc q=enc q'->q=q'
variable {jf:κ->Prop} {w w':aJ} {b:Nat} {m:List (κ×aN)}
theorem eX.lt(h:eX P k enc w b m):b<w.heap.size:=by obtain⟨es,clock,hb,_⟩:=h.blk;grind
theorem eX.of_block(h:eX P k enc w b m)(e:w'.heap[b]? =w.heap[b]?):eX P k enc w' b m:=by obtain⟨es,clock,hb,hm⟩:=h.blk;exact⟨⟨es,clock,e.trans hb,hm⟩,h.apart⟩
theorem eX.below {B:Nat}(h:eX P k enc w b m)(hb:b<B)(hB:aY B w w'):eX P k enc w' b m:=h.of_block (hB.block b hb)
theorem eX.alloc(h:eX P k enc w b m)(o:Obj):eX P k enc (w.alloc o) b m:=h.of_block (fG w o h.lt)
theorem eX.drew(h:eX P k enc w b m):eX P k enc w.drew b m:=⟨h.blk,h.apart⟩
theorem eX.grown(h:eX P k enc w b m) {row:Option Nat}(hg:w.grownBy w' row)(hne:aC b≠row):eX P k enc w' b m:=h.of_block (hg.block b h.lt hne)
theorem eX.made(P:Program)(k:bY)(enc:κ->aN)(w:aJ):eX P k enc (w.alloc (.map #[] 0)) w.heap.size []:=⟨⟨#[],0,cO w _,by simp⟩,by simp [wG]⟩
theorem eX.find(K:CN P k enc jf) {es:Array MapEntry}(hm:es.toList.map (λe=>(e.key,e.val))=m.map λp=>(enc p.1,p.2))(hd:∀p∈m,jf p.1) {q:κ}(hq:jf q)(w:aJ):
 ((a9i k (enc q) es.toList).run P w= .ok aB w/\∀p∈m,p.1≠q)\/∃j v0,(a9i k (enc q) es.toList).run P w= .ok (aC (j,v0)) w/\m[j]? =aC (q,v0)/\∃e0,es[j]? =aC e0/\e0.key=enc q/\e0.val=v0:=by
 obtain⟨kl,eE⟩:=K.key q hq;have WN:∀x∈es.toList,∃kl,keyOf P k x.key=aC kl:=by
  intro x hx;have h1:(x.key,x.val)∈m.map λp=>(enc p.1,p.2):=by grind
  obtain⟨p,hp,e⟩:=df.1 h1;injection e with e1 e2;obtain⟨kl,h⟩:=K.key p.1 (hd p hp);grind
 rcases K.keyed.find w eE es.toList WN with⟨h1,h2⟩|⟨j,e0,h1,h2,h3⟩
 ·refine aS ⟨h1,λp hp e=> ?_⟩;have h4:(enc p.1,p.2)∈es.toList.map (λe=>(e.key,e.val)):=by grind
  grind
 refine aU ⟨j,e0.val,h1, ?_,e0,by simpa using h2,h3,rfl⟩;have h4:(es.toList.map (λe=>(e.key,e.val)))[j]? =aC (enc q,e0.val):=by grind
 rw [hm,List.getElem?_map] at h4;cases hj:m[j]? with
 |none=>grind
 |some p=>
  rw [hj] at h4;simp at h4;obtain⟨a1,a2⟩:=h4;have:=K.inj _ _ a1;grind
variable [BEq κ] [LawfulBEq κ]
theorem eX.look(c:Bool)(K:CN P k enc jf) {t e:bY}(ht:P.underlying t=aC (.map k e)) {z:aN}(hz:(zeroValue e).run P w= .ok z w)(h:eX P k enc w b m)(hd:∀p∈m,jf p.1) {q:κ}(hq:jf q):
 (Instr.lookup t (.map (aC b)) (enc q) c).run P w= .ok (if c then .tuple #[(getM q m).getD z,.bool (getM q m).isSome] else (getM q m).getD z) w:=by
 obtain⟨es,clock,hb,hm⟩:=h.blk;obtain⟨kl,eE⟩:=K.key q hq;rcases eX.find K hm hd hq w with⟨h1,h2⟩|⟨j,v0,h1,h2,_⟩
 ·rw [getM_none h2];simp [Instr.lookup,run_underlying ht,BM hb,K.keyed.check w _ eE,h1,hz,uN]
 rw [getM_some h.apart h2];simp [Instr.lookup,run_underlying ht,BM hb,K.keyed.check w _ eE,h1,uN]
theorem eX.store(K:CN P k enc jf) {t e:bY}(ht:P.underlying t=aC (.map k e))(h:eX P k enc w b m)(hd:∀p∈m,jf p.1) {q:κ}(hq:jf q)(v:aN):
 ∃w',(EW t (.map (aC b)) (enc q) v).run P w= .ok () w'/\eX P k enc w' b (eR q v m)/\w.grownBy w' (aC b):=by
 obtain⟨es,clock,hb,hm⟩:=h.blk;obtain⟨kl,eE⟩:=K.key q hq;rcases eX.find K hm hd hq w with⟨h1,h2⟩|⟨j,v0,h1,h2,e0,h3,h4,h5⟩
 ·refine⟨setBlock w b (.map (es.push ⟨enc q,v,clock⟩) (clock+1)), ?_,⟨⟨_,_,heap_setBlock_same hb _, ?_⟩,h.apart.put⟩,⟨rfl,rfl,rfl,by simp [setBlock],λi _ hi=>heap_setBlock_other hb _ (λe=>hi (by rw [e]))⟩⟩
  ·simp [EW,run_underlying ht,BM hb,K.keyed.check w aP eE,h1,GR _ hb,uN,setBlock]
  grind [Xo]
 have uX:es.toList[j]? =aC e0:=by simpa using h3
 refine⟨setBlock w b (.map (es.modify j (λe'=> {e' with key:=enc q,val:=v})) clock), ?_,⟨⟨_,_,heap_setBlock_same hb _, ?_⟩,h.apart.put⟩,⟨rfl,rfl,rfl,by simp [setBlock],λi _ hi=>heap_setBlock_other hb _ (λe=>hi (by rw [e]))⟩⟩
 ·simp [EW,run_underlying ht,BM hb,K.keyed.check w aP eE,h1,h3,h4,K.keyed.stays w eE,GR _ hb,uN,setBlock]
 rw [Xp v h.apart h2,Yi,modify_eq_set _ _ _ _ uX,List.map_set,List.map_set,hm]
end
end
section
open Go.Maps Go.MapKept Go.ChangeMaps
def CD {κ:Type} [DecidableEq κ](q:κ)(m:List (κ×aN)):aN:=(getM q m).getD (aH aB 0 0)
structure ur {κ:Type}(kt:bY)(enc:κ->aN)(jf:κ->Prop)(w:aJ)(base b:Nat)(m:List (κ×aN))(f:κ->List Int):Prop where
 map:eX aM kt enc w b m
 yt:∃es clock,w.heap[b]? =aC (.map es clock)/\Stamped es clock
 low:b<base
 rows:∀p∈m,w.ownsRow base 2 1 p.2 (aA (f p.1)) ((f p.1).map (aG aF))
 far:∀p∈m,∀q∈m,p.1≠q.1->p.2.ownBlock=aB\/p.2.ownBlock≠q.2.ownBlock
 off:∀q,(∀p∈m,p.1≠q)->f q= []
 dom:∀p∈m,jf p.1
section
variable {κ:Type} {kt:bY} {enc:κ->aN} {jf:κ->Prop} {w w' w1:aJ} {base b:Nat} {m:List (κ×aN)} {f:κ->List Int}
theorem ur.made(w:aJ):ur kt enc jf (w.alloc (.map #[] 0)) (w.heap.size+1) w.heap.size [] (λ_=> []):=
 ⟨eX.made _ _ _ _,⟨#[],0,cO w _,stamped_empty 0⟩,Nat.lt_succ_self _,by simp,by simp,λ_ _=>rfl,by simp⟩
theorem ur.below {B:Nat}(h:ur kt enc jf w base b m f)(hB:w.heap.size<=B)(hb:aY B w w'):ur kt enc jf w' base b m f:=by obtain⟨es,clock,hb',hs⟩:=h.yt;have hlt:=h.map.lt;refine⟨h.map.below (by omega) hb,⟨es,clock,(hb.block b (by omega)).trans hb',hs⟩,h.low,λp hp=>(h.rows p hp).kept ⟨hb.os,hb.tape,hb.output,hb.size,λk hk _=>hb.block k (cP hk hB)⟩ (by cases p.2.ownBlock<;>simp:p.2.ownBlock=aB\/p.2.ownBlock≠aB),h.far,h.off,h.dom⟩
variable [DecidableEq κ]
theorem RQ {q:κ} {v:aN}:∀ {m:List (κ×aN)},getM q m=aC v->(q,v)∈m
 | [],h=>by simp [getM] at h
 |p::m,h=>by
  unfold getM at h;split at h
  ·grind
  exact dh _ (RQ h)
theorem a3U {q:κ}:∀ {m:List (κ×aN)},getM q m=aB->∀p∈m,p.1≠q
 | [],_,p,hp=>by simp at hp
 |p::m,h,x,hx=>by
  unfold getM at h;split at h
  ·cases h
  rename_i hc;rcases fE.1 hx with rfl|hx
  ·simpa using hc
  exact a3U h x hx
theorem ur.slot(h:ur kt enc jf w base b m f)(q:κ):w.ownsRow base 2 1 (CD q m) (aA (f q)) ((f q).map (aG aF)):=by
 unfold CD;cases hg:getM q m with
 |none=>rw [h.off q (a3U hg)];exact fh _ _ _ _
 |some v=>exact h.rows _ (RQ hg)
theorem ur.look(K:CN aM kt enc jf)(h:ur kt enc jf w base b m f) {q:κ}(hq:jf q) {t:bY}(ht:aM.underlying t=aC (.map kt 53)):(Instr.lookup t (.map (aC b)) (enc q) aP).run aM w= .ok (CD q m) w:=
 eX.look (P:=aM) aP K ht (z:= .slice aB 0 0) (by kernel_rfl) h.map h.dom hq
theorem Kg {q:κ} {v:aN}(ha:wG m) {x:κ×aN}(hx:x∈eR q v m):x=(q,v)\/(x∈m/\x.1≠q):=by
 induction m with
 |nil=>grind [eR]
 |cons p m ih=>
  obtain⟨h1,h2⟩:=kf.1 ha;unfold eR at hx;split at hx
  ·grind
  rename_i hc;rcases fE.1 hx with hx|hx
  ·grind
  rcases ih h2 hx with h|⟨h,h'⟩
  ·exact aS h
  grind
theorem a6e {q:κ} {v:aN}:∀(m:List (κ×aN)),aA (eR q v m)<=aA m+1
 | []=>by simp [eR]
 |p::m=>by
  unfold eR;split
  ·simp
  have:=a6e (q:=q) (v:=v) m;simp;omega
theorem a6f {q:κ} {v:aN} {x:κ×aN}(hx:x∈m):∃u,(x.1,u)∈eR q v m:=by
 induction m with
 |nil=>simp at hx
 |cons p m ih=>
  grind [eR]
theorem Xl {q:κ} {v:aN}:∀(m:List (κ×aN)),(q,v)∈eR q v m
 | []=>by simp [eR]
 |p::m=>by
  unfold eR;split
  ·grind
  exact dh _ (Xl m)
end
end
section
open Go.ChangeShapes Go.WideShapes Go.ChangeAt Go.Joins Go.Deep
theorem aJ9:ownKnob aM.godebug=aB:=by kernel_rfl
theorem XG:laidOutB aM=aO:=by kernel_rfl
section
variable {H:Type} {enc:bY×aN->H} {P:Program}
theorem a8G(hl:laidOutB P=aO) {W W':aJ}(hb:aY W.heap.size W W'):∀(ts:List bY) {vs:List aN} {ds:List (DataW H)} {ps:List MemPlace},
 (ts.all λt=>P.readableRec t&&decide (t<P.types.size))=aO->Ys enc P W 0 (λ_=>aO) aO ts vs ds ps->Ys enc P W' 0 (λb=>decide (b<W.heap.size)) aO ts vs ds ps
 | [],vs,ds,ps,_,h=>by obtain⟨rfl,rfl,rfl⟩:=trodAll_nil h;exact trodAll_mk0
 |t::ts,vs,ds,ps,hr,h=>by
  obtain⟨v,vs',d,Ek,p,q,rfl,rfl,rfl,h0,r⟩:=trodAll_cons h;rw [List.all_cons,je,je] at hr;have lt0:∀x∈p,x.block<W.heap.size:=by obtain⟨m,hm⟩:=h0;exact DataW.trod_lt m _ _ _ hm
  exact trodAll_cons_mk (Below.trod hl hr.1.1 (of_decide_eq_true hr.1.2) h0 hb lt0) (a8G hl hb ts hr.2 r)
theorem aHY(hl:laidOutB P=aO) {f:Func} {s:ChangeSpec} {W W':aJ} {args:Array aN} {ds gs:List (DataW H)} {before:List MemPlace} {tb:bY}(hr:(f.params.toList.all λt=>P.readableRec t&&decide (t<P.types.size))=aO)
 (N4:P.underlying tb=aC .bool) (hrt:f.resultTypes= #[tb]) (hv:s.vars= []) (hW:DataW.Whole enc P f.params.toList s.vars aP W args.toList ds gs before)
 (hsp:∀Ek:List (DataW H),aA Ek=aA f.params.toList->s.fn H Ek= {results:= [.lit (.bool aO)],args:=Ek}) (xE:β W W'):
 s.post enc P f aP aO aP aP W args (.bool aO) W':=by
 have Ex:=hW;obtain⟨p,q,hA,hV,rfl,_,_⟩:=hW;rw [hv] at hV;obtain⟨rfl,rfl⟩:=trodVars_none hV;have hlen:∀(ts:List bY) (vs:List aN) (ds:List (DataW H)) (ps:List MemPlace),Ys enc P W 0 (λ_=>aO) aO ts vs ds ps->aA ds=aA ts:=by
  intro ts;induction ts with
  |nil=>intro vs ds ps h;obtain⟨_,rfl,_⟩:=trodAll_nil h;rfl
  |cons t ts ih=>
   intro vs ds ps h;obtain⟨v,vs',d,Ek,p,q,_,rfl,_,_,r⟩:=trodAll_cons h;simp [ih _ _ _ r]
 have e:=hsp ds (hlen _ _ _ _ hA);refine⟨ds,[],p++ [],[],p,[],Ex, ?_, ?_, ?_, ?_,λh=>by cases h⟩
 ·rw [List.append_nil,e,hrt];exact trodAll_mk1 (shut_bool N4 aO)
 ·grind [a8G]
 ·rw [List.append_nil,e,hv];rfl
 exact xE.frame _
end
end
section
open Go.Maps Go.MapKept Go.ChangeMaps
def zn(q:Int×Int×Int):aN:=bQ #[aG aF q.1,aG aF q.2.1,aG aF q.2.2]
def Fs(q:Int×Int×Int):Prop:=aL q.1/\aL q.2.1/\aL q.2.2
theorem ND {x:Int}(h:aL x):(Lit.int aF x).wf=aO:=by unfold aL at h;have h1:aF.min= -9223372036854775808:=rfl;have h2:aF.max=9223372036854775807:=rfl;grind [Lit.wf]
theorem aFK(q q':Int×Int×Int)(h:zn q=zn q'):q=q':=by grind [zn]
theorem NM(d:Nat)(n:Int)(hn:(Lit.int aF n).wf=aO):aM.keyLits (d+1) 3 [.int aF n]=aC [.int aF n]:=by unfold UJ;grind [xA]
theorem aHO(q:Int×Int×Int)(hq:Fs q):∃kl,keyOf aM 289 (zn q)=aC kl:=by
 have hu:=underlying289;have sA:=underlying51;have h1:aM.keyType 289=aO:=by kernel_rfl
 have w1:=ND hq.1;have w2:=ND hq.2.1;have w3:=ND hq.2.2;have h2:(zn q).formed aM 289=aO:=by kernel_rfl
 have k1:aM.cellsOf 3=1:=by kernel_rfl
 have k2:aM.cellsOf 51=2:=by kernel_rfl
 have k3:aM.cellsOf 289=3:=by kernel_rfl
 have h3:aM.keyLits (aM.types.size+1) 289 (zn q).cells.toList=aC [.int aF q.1,.int aF q.2.1,.int aF q.2.2]:=by
  obtain⟨d,hd⟩:∃d,aM.types.size=d+1+1:=⟨aM.types.size-2,by have:1<aM.types.size:=of_decide_eq_true (by kernel_rfl);omega⟩;rw [hd];have hx:=NM d q.1 w1;have hy:=NM d q.2.1 w2;have hz:=NM (d+1) q.2.2 w3;have hac:aM.keyLits (d+1+1) 51 [.int aF q.1,.int aF q.2.1]=aC [.int aF q.1,.int aF q.2.1]:=by unfold UJ;rw [sA];simp [k1,k2,hx,hy]
  unfold UJ;rw [hu];simp [zn,Value.cells,k1,k2,k3,hac,hz]
 exact⟨_,by unfold keyOf;rw [hu];simp only [h1,h2,Bool.and_self,if_true,h3];rfl⟩
theorem a7Z:CN aM 289 zn Fs where
 keyed:=a8l (deep_law_laid XG (m:=3) (by omega) (of_decide_eq_true (by kernel_rfl)) (by kernel_rfl) (by kernel_rfl))
 key:=aHO
 inj:=aFK
def xL(q:Int×Int):aN:=bQ #[aG aF q.1,aG aF q.2]
def J2(q:Int×Int):Prop:=aL q.1/\aL q.2
theorem a3C(q q':Int×Int)(h:xL q=xL q'):q=q':=by grind [xL]
theorem aHN(q:Int×Int)(hq:J2 q):∃kl,keyOf aM 162 (xL q)=aC kl:=by
 have hu:=underlying162;have h1:aM.keyType 162=aO:=by kernel_rfl
 have w1:=ND hq.1;have w2:=ND hq.2;have h2:(xL q).formed aM 162=aO:=by kernel_rfl
 have k1:aM.cellsOf 3=1:=by kernel_rfl
 have k3:aM.cellsOf 162=2:=by kernel_rfl
 have h3:aM.keyLits (aM.types.size+1) 162 (xL q).cells.toList=aC [.int aF q.1,.int aF q.2]:=by obtain⟨d,hd⟩:∃d,aM.types.size=d+1:=⟨aM.types.size-1,by have:1<aM.types.size:=of_decide_eq_true (by kernel_rfl);omega⟩;rw [hd];have hx:=NM d q.1 w1;have hy:=NM d q.2 w2;unfold UJ;rw [hu];simp [xL,Value.cells,k1,k3,hx,hy]
 exact⟨_,by unfold keyOf;rw [hu];simp only [h1,h2,Bool.and_self,if_true,h3];rfl⟩
theorem a7B:CN aM 162 xL J2 where
 keyed:=a8l (deep_law_laid XG (m:=2) (by omega) (of_decide_eq_true (by kernel_rfl)) (by kernel_rfl) (by kernel_rfl))
 key:=aHN
 inj:=a3C
end
section
open Go.Maps Go.MapKept Go.ChangeMaps
def UQ(w:aJ)(b:Nat):Prop:=∃es clock,w.heap[b]? =aC (.map es clock)/\Stamped es clock
section
variable {κ:Type} [BEq κ] [LawfulBEq κ] {P:Program} {k:bY} {enc:κ->aN} {jf:κ->Prop} {w:aJ} {b:Nat} {m:List (κ×aN)}
theorem eX.entry(K:CN P k enc jf) {t e:bY}(ht:P.underlying t=aC (.map k e)) {z:aN}(hz:∀u:aJ,(zeroValue e).run P u= .ok z u)(h:eX P k enc w b m)(hs:UQ w b)(hd:∀p∈m,jf p.1) {q:κ}(hq:jf q):
 ∃(st:Nat) (w1:aJ),(GL t (.map (aC b)) (enc q)).run P w= .ok (.tuple #[(getM q m).getD z,goInt st]) w1/\w.grownBy w1 (aC b)/\w1.heap.size=w.heap.size/\
  ∀(w2:aJ) (val:aN),w2.heap[b]? =w1.heap[b]?->∃w3,(Ow t (.map (aC b)) (goInt st) val).run P w2= .ok () w3/\eX P k enc w3 b (eR q val m)/\UQ w3 b/\w2.grownBy w3 (aC b):=by
 obtain⟨es,clock,hb,hm⟩:=h.blk;obtain⟨Hg,Gx,hb0,hst⟩:=hs;obtain⟨rfl,rfl⟩:es=Hg/\clock=Gx:=by grind
 obtain⟨kl,eE⟩:=K.key q hq;rcases eX.find K hm hd hq w with⟨h1,h2⟩|⟨j,v0,h1,h2,e0,h3,h4,h5⟩
 ·have hnk:∀x∈es.toList,x.key≠enc q:=by
   intro x hx e;have h6:(x.key,x.val)∈m.map λp=>(enc p.1,p.2):=by grind
   obtain⟨p,hp,e'⟩:=df.1 h6;injection e' with e1 e2;exact h2 p hp (K.inj _ _ (e1.trans e))
  have Qv:Stamped (es.push ⟨enc q,z,clock⟩) (clock+1):=stamped_push hst hnk;refine⟨clock,setBlock w b (.map (es.push ⟨enc q,z,clock⟩) (clock+1)), ?_,⟨rfl,rfl,rfl,by simp [setBlock],λi _ hi=>heap_setBlock_other hb _ (λe=>hi (by rw [e]))⟩,by simp [setBlock], ?_⟩
  ·rw [getM_none h2];simp [GL,run_underlying ht,BM hb,K.keyed.check w aP eE,h1,hz,GR _ hb,uN,setBlock]
  intro w2 val hw2;rw [heap_setBlock_same hb] at hw2;have WH:(es.push ⟨enc q,z,clock⟩).findIdx? (λe=>(e.born:Int)==(clock:Int))=aC es.size:=by
   rw [a8n];have hl:(es.push (⟨enc q,z,clock⟩:MapEntry)).toList[es.size]? =aC ⟨enc q,z,clock⟩:=by simp
   exact a8o Qv.2.1 hl
  have aGj:(es.push (⟨enc q,z,clock⟩:MapEntry)).modify es.size (λe=> {e with val})=es.push ⟨enc q,val,clock⟩:=by grind
  refine⟨setBlock w2 b (.map (es.push ⟨enc q,val,clock⟩) (clock+1)), ?_,⟨⟨_,_,heap_setBlock_same hw2 _, ?_⟩,h.apart.put⟩,⟨_,_,heap_setBlock_same hw2 _,stamped_push hst hnk⟩,⟨rfl,rfl,rfl,by simp [setBlock],λi _ hi=>heap_setBlock_other hw2 _ (λe=>hi (by rw [e]))⟩⟩
  ·simp only [Ow,aAR,BM hw2,uN];simp [asInt,goInt,asIntOf,WH,aGj,GR _ hw2,setBlock]
  grind [Xo]
 have uX:es.toList[j]? =aC e0:=by simpa using h3
 have hkey:∀e',es[j]? =aC e'->({e' with key:=enc q}:MapEntry).key=e'.key:=λe' Mi=>by grind
 have Qv:Stamped (es.modify j (λe'=> {e' with key:=enc q})) clock:=stamped_modify hst j (λe'=> {e' with key:=enc q}) (λ_ _=>rfl) (λe' _ Mi=>hkey e' Mi);refine⟨e0.born,setBlock w b (.map (es.modify j (λe'=> {e' with key:=enc q})) clock), ?_,⟨rfl,rfl,rfl,by simp [setBlock],λi _ hi=>heap_setBlock_other hb _ (λe=>hi (by rw [e]))⟩,by simp [setBlock], ?_⟩
 ·rw [getM_some h.apart h2];simp [GL,run_underlying ht,BM hb,K.keyed.check w aP eE,h1,h3,h4,K.keyed.stays w eE,GR _ hb,uN,setBlock]
 intro w2 val hw2;rw [heap_setBlock_same hb] at hw2;have h1e:(es.modify j (λe'=> {e' with key:=enc q})).toList[j]? =aC {e0 with key:=enc q}:=by grind
 have WH:(es.modify j (λe'=> {e' with key:=enc q})).findIdx? (λe=>(e.born:Int)==(e0.born:Int))=aC j:=by rw [a8n];exact a8o (e0:= {e0 with key:=enc q}) Qv.2.1 h1e
 have a4V:Stamped ((es.modify j (λe'=> {e' with key:=enc q})).modify j (λe=> {e with val})) clock:=stamped_modify Qv j (λe=> {e with val}) (λ_ _=>rfl) (λ_ _ _=>rfl);refine⟨setBlock w2 b (.map ((es.modify j (λe'=> {e' with key:=enc q})).modify j (λe=> {e with val})) clock), ?_,⟨⟨_,_,heap_setBlock_same hw2 _, ?_⟩,h.apart.put⟩,⟨_,_,heap_setBlock_same hw2 _,a4V⟩,⟨rfl,rfl,rfl,by simp [setBlock],λi _ hi=>heap_setBlock_other hw2 _ (λe=>hi (by rw [e]))⟩⟩
 ·simp only [Ow,aAR,BM hw2,uN];simp [asInt,goInt,asIntOf,WH,GR _ hw2,setBlock]
 rw [Xp val h.apart h2,Yi,modify_eq_set _ _ _ _ h1e,Yi,modify_eq_set _ _ _ _ uX,List.set_set,List.map_set,List.map_set,hm]
end
end
section
def iD {ι α:Type} [DecidableEq ι](f:ι->α)(i:ι)(v:α):ι->α:=λj=>if j=i then v else f j
theorem Nu {ι α:Type} [DecidableEq ι](f:ι->α)(i:ι)(v:α):iD f i v i=v:=ifP rfl
theorem Ab {ι α:Type} [DecidableEq ι](f:ι->α) {i j:ι}(v:α)(h:j≠i):iD f i v j=f j:=ifN h
structure uB {ι:Type}(w:aJ)(base:Nat)(cf:ι->aN)(f:ι->List Int):Prop where
 rows:∀i,w.ownsRow base 2 1 (cf i) (aA (f i)) ((f i).map (aG aF))
 far:∀i j,i≠j->(cf i).ownBlock=aB\/(cf i).ownBlock≠(cf j).ownBlock
section
variable {ι:Type} {w w1:aJ} {base:Nat} {cf:ι->aN} {f:ι->List Int}
theorem uB.made(w:aJ)(base:Nat):uB w base (λ_:ι=>aH aB 0 0) (λ_=> []):=⟨λ_=>fh _ _ _ _,λ_ _ _=>aS rfl⟩
theorem uB.kept(h:uB w base cf f) {row:Option Nat}(hg:w.grownBy w1 row)(hr:∀g,row=aC g->∀i,(cf i).ownBlock≠aC g):uB w1 base cf f:=by
 refine⟨λi=>(h.rows i).kept hg ?_,h.far⟩;cases FM:row with
 |none=>grind
 |some g=>grind
theorem uB.new(h:uB w base cf f) {g:Nat}(hg:w.heap.size<=g)(i:ι):(cf i).ownBlock≠aC g:=λe=>by have:=((h.rows i).lt _ e).2;omega
theorem uB.below(h:uB w base cf f)(hb:aY w.heap.size w w1):uB w1 base cf f:=
 h.kept (row:=aB) ⟨hb.os,hb.tape,hb.output,hb.size,λk hk _=>hb.block k hk⟩ (λ_ e=>by cases e)
theorem uB.grow [DecidableEq ι](h:uB w base cf f)(i:ι)(hg:w.grownBy w1 (cf i).ownBlock) {v':aN} {ys:List Int}(hown:w1.ownsRow base 2 1 v' (aA ys) (ys.map (aG aF)))
 (hloc:v'.ownBlock=(cf i).ownBlock\/∃g,v'.ownBlock=aC g/\w.heap.size<=g):uB w1 base (iD cf i v') (iD f i ys):=by
 have apart:∀j,j≠i->(cf j).ownBlock=aB\/(cf j).ownBlock≠v'.ownBlock:=by
  intro j hj;rcases hloc with e|⟨g,e,zw⟩
  ·rw [e];exact h.far j i hj
  exact aU λe'=>h.new zw j (e'.trans e)
 refine⟨λj=> ?_,λj k hjk=> ?_⟩
 ·by_cases hj:j=i
  ·grind [Nu]
  rw [Ab _ _ hj,Ab _ _ hj];exact(h.rows j).kept hg (h.far j i hj)
 by_cases hj:j=i
 ·grind [Nu,Ab]
 rw [Ab _ _ hj];by_cases hk:k=i
 ·grind [Nu]
 rw [Ab _ _ hk];exact h.far j k hjk
end
end
section
section
variable {w0 wr w1 w':aJ} {e:bY} {s n m n' g cap:Nat} {u v:aN} {xs ys xs':List aN}
theorem none_or(x:aN):x.ownBlock=aB\/x.ownBlock≠aB:=by grind
theorem gh {wr w1:aJ} {base:Nat} {e:bY} {s n:Nat} {u:aN} {xs:List aN}(h:wr.ownsRow base e s u n xs)(hb:aY wr.heap.size wr w1):w1.ownsRow base e s u n xs:=
 h.kept ⟨hb.os,hb.tape,hb.output,hb.size,λk hk _=>hb.block k hk⟩ (none_or u)
end
end
section
open Go.Maps Go.MapKept Go.ChangeMaps
abbrev Ix:=(Int×Int×Int) ⊕ Nat
def gthF(l:List En):Ix->List Int
 | .inl q=>gz l q
 | .inr i=>if i<9 then gy l i else []
def tI(cf:Ix->aN):Array aN:= #[cf (.inr 0),cf (.inr 1),cf (.inr 2),cf (.inr 3),cf (.inr 4),cf (.inr 5),cf (.inr 6),cf (.inr 7),cf (.inr 8)]
structure lK(w:aJ)(base b ab:Nat)(cf:Ix->aN)(ov:aN)(g:Ix->List Int)(os:List (Int×Int×Int))(W:aJ):Prop where
 map:∃m,eX aM 289 zn W b m/\(∀q,(getM q m).getD (aH aB 0 0)=cf (.inl q))/\∀p∈m,Fs p.1
 yt:UQ W b
 blk:W.heap[ab]? =aC (aK (tI cf) 53 (0,0))
 tP:uB W base cf g
 ord:W.ownsRow base 289 3 ov (aA os) (Im os)
 low:w.heap.size<=b/\w.heap.size<=ab/\b≠ab/\b<base/\ab<base/\base<=W.heap.size
 b:β w W
theorem Bv {w:aJ} {b1 b2:Nat} {e1 e2:bY} {s1 s2 n1 n2:Nat} {v1 v2:aN} {x1 x2:List aN}(h1:w.ownsRow b1 e1 s1 v1 n1 x1)(h2:w.ownsRow b2 e2 s2 v2 n2 x2)(he:e1≠e2):v1.ownBlock=aB\/v1.ownBlock≠v2.ownBlock:=by
 rcases h1.2 with⟨rfl,_⟩|⟨g1,c1,u1,rfl,_,hb1,_⟩
 ·exact .inl rfl
 rcases h2.2 with⟨rfl,_⟩|⟨g2,c2,u2,rfl,_,hb2,_⟩
 ·exact .inr (by simp [dy])
 refine .inr λe=> ?_
 have e':g1=g2:=by simpa [dy] using e
 subst e';rw [hb1] at hb2;injection hb2 with hb2;injection hb2 with _ hb2;exact he hb2
theorem a6h {κ:Type} [BEq κ] [LawfulBEq κ] {q:κ} {v:aN} {x:κ×aN}:∀(m:List (κ×aN)),x∈eR q v m->x=(q,v)\/x∈m
 | [],h=>by simp [eR] at h;exact .inl h
 |p::m,h=>by
  unfold eR at h;split at h
  ·rcases fE.1 h with h|h
   ·exact .inl h
   exact .inr (dh _ h)
  rcases fE.1 h with h|h
  ·exact .inr (h▸pE ..)
  exact(a6h m h).imp id (dh _)
section
variable {w W w2:aJ} {base b ab:Nat} {cf:Ix->aN} {ov:aN} {g:Ix->List Int} {os:List (Int×Int×Int)}
theorem lK.below {W':aJ}(h:lK w base b ab cf ov g os W)(hb:aY W.heap.size W W'):lK w base b ab cf ov g os W':=by obtain⟨m,hm,hv,hd⟩:=h.map;obtain⟨l1,l2,l3,l4,l5,l6⟩:=h.low;have hg:W.grownBy W' aB:=⟨hb.os,hb.tape,hb.output,hb.size,λi hi _=>hb.block i hi⟩;obtain⟨es,clock,h1,h2⟩:=h.yt;exact⟨⟨m,hm.of_block (hb.block b (by omega)),hv,hd⟩,⟨es,clock,(hb.block b (by omega)).trans h1,h2⟩,(hb.block ab (by omega)).trans h.blk,h.tP.below hb,h.ord.kept hg (by cases ov.ownBlock<;>simp),⟨l1,l2,l3,l4,l5,bz l6 hb.size⟩,h.b.trans (hb.mono h.b.size)⟩
theorem lK.lo(h:lK w base b ab cf ov g os W) {i:Ix} {k:Nat}(hk:(cf i).ownBlock=aC k):base<=k:=eF (h.tP.rows i) k hk
theorem lK.aIw(h:lK w base b ab cf ov g os W) {ov':aN} {os':List (Int×Int×Int)}(hg:W.grownBy w2 ov.ownBlock)(hown:w2.ownsRow base 289 3 ov' (aA os') (Im os')):lK w base b ab cf ov' g os' w2:=by
 obtain⟨m,hm,hv,hd⟩:=h.map;obtain⟨l1,l2,l3,l4,l5,l6⟩:=h.low;obtain⟨es,clock,h1,h2⟩:=h.yt;have hb:aC b≠ov.ownBlock:=λe=>by have:=eF h.ord b e.symm;omega
 have ha:aC ab≠ov.ownBlock:=λe=>by have:=eF h.ord ab e.symm;omega
 have hs:=hg.size;refine⟨⟨m,hm.of_block (hg.block b (by omega) hb),hv,hd⟩,⟨es,clock,(hg.block b (by omega) hb).trans h1,h2⟩,(hg.block ab (by omega) ha).trans h.blk,h.tP.kept hg λk hk i e=> ?_,hown,⟨l1,l2,l3,l4,l5,by omega⟩,h.b.grown hg h.b.size (λk hk=>by have:=eF h.ord k hk;omega)⟩;rcases Bv (h.tP.rows i) h.ord (by decide) with h3|h3
 ·rw [h3] at e;cases e
 exact h3 (e.trans hk.symm)
theorem lK.entry(h:lK w base b ab cf ov g os W) {q:Int×Int×Int}(hq:Fs q):
 ∃st w1,(GL 284 (.map (aC b)) (zn q)).run aM W= .ok (bB #[cf (.inl q),goInt st]) w1/\W.grownBy w1 (aC b)/\w1.heap.size=W.heap.size/\w1.ownsRow base 2 1 (cf (.inl q)) (aA (g (.inl q))) ((g (.inl q)).map (aG aF))/\
  ∀(w2:aJ) (v':aN) (ys:List Int),w1.grownBy w2 (cf (.inl q)).ownBlock->w2.ownsRow base 2 1 v' (aA ys) (ys.map (aG aF))->(v'.ownBlock=(cf (.inl q)).ownBlock\/v'.ownBlock=aC w1.heap.size)->
   ∃w3,(Ow 284 (.map (aC b)) (goInt st) v').run aM w2= .ok () w3/\lK w base b ab (iD cf (.inl q) v') ov (iD g (.inl q) ys) os w3/\
    (∀k,k<W.heap.size->k≠b->aC k≠(cf (.inl q)).ownBlock->w3.heap[k]? =W.heap[k]?)/\W.heap.size<=w3.heap.size:=by
 obtain⟨m,hm,hv,hd⟩:=h.map;obtain⟨l1,l2,l3,l4,l5,l6⟩:=h.low;obtain⟨st,w1,hr,hg1,hs1,hf⟩:=hm.entry (t:=284) (e:=53) a7Z aC9 (z:=aH aB 0 0) (λu=>by kernel_rfl) h.yt hd hq;rw [hv] at hr;have Hx:∀i,(cf i).ownBlock≠aC b:=λi e=>by have:=h.lo e;omega
 have QV:∀i,(cf i).ownBlock≠aC ab:=λi e=>by have:=h.lo e;omega
 have Mv:ov.ownBlock=aB\/ov.ownBlock≠aC b:= .inr λe=>by have:=eF h.ord b e;omega
 have W4:=h.tP.kept hg1 (λk hk i=>by injection hk with hk;subst hk;exact Hx i);refine⟨st,w1,hr,hg1,hs1,W4.rows _,λw2 v' ys hg2 hown hloc=> ?_⟩;have hs2:=hg2.size;obtain⟨w3,hr3,Be,Wt,hg3⟩:=hf w2 v' (hg2.block b (by rw [hs1];omega) (λe=>Hx _ e.symm));have hs3:=hg3.size;have QW:=W4.grow (.inl q) hg2 hown (hloc.imp id λe=>⟨_,e,aa _⟩);have Vu:∀i,((iD cf (.inl q) v') i).ownBlock≠aC b:=λi e=>by
  by_cases hi:i= .inl q
  ·subst hi;rw [Nu] at e;rcases hloc with h4|h4
   ·exact Hx _ (h4.symm.trans e)
   rw [h4] at e;injection e with e;omega
  rw [Ab _ _ hi] at e;exact Hx i e
 refine⟨w3,hr3,⟨⟨_,Be,λq'=> ?_,λp hp=> ?_⟩,Wt, ?_,QW.kept hg3 (λk hk i=>by injection hk with hk;subst hk;exact Vu i), ?_,⟨l1,l2,l3,l4,l5,by omega⟩, ?_⟩,λk hk hkb WQ=> ?_,by omega⟩
 ·by_cases e:q'=q
  ·subst e;rw [Nu,a3X];rfl
  rw [Ab _ _ (λe'=>e (by injection e')),a3W (Ne.symm e)];exact hv q'
 ·rcases a6h _ hp with e|hp
  ·rw [e];exact hq
  exact hd p hp
 ·have h5:tI (iD cf (.inl q) v')=tI cf:=by
   unfold tI;simp [iD]
  rw [h5];refine((hg3.block ab (by omega) (by simp;omega)).trans ((hg2.block ab (by omega) (λe=>QV _ e.symm)).trans (hg1.block ab (by omega) (by simp;omega)))).trans h.blk
 ·have eK:=h.ord.kept hg1 Mv;have eU:=eK.kept hg2 (Bv eK (W4.rows (.inl q)) (by decide));exact eU.kept hg3 Mv
 ·exact((h.b.grown hg1 h.b.size (λk hk=>by injection hk with hk;omega)).grown hg2 (by rw [hs1];exact h.b.size) (λk hk=>by have:=h.lo hk;omega)).grown hg3 (by have:=h.b.size;omega) (λk hk=>by injection hk with hk;omega)
 exact(hg3.block k (by omega) (by simp;omega)).trans ((hg2.block k (by omega) WQ).trans (hg1.block k hk (by simp;omega)))
theorem lK.look(h:lK w base b ab cf ov g os W) {q:Int×Int×Int}(hq:Fs q):(Instr.lookup 284 (.map (aC b)) (zn q) aP).run aM W= .ok (cf (.inl q)) W:=by obtain⟨m,hm,hv,hd⟩:=h.map;have h1:=eX.look (P:=aM) aP a7Z aC9 (z:=aH aB 0 0) (by kernel_rfl) hm hd hq;rw [<-hv q];exact h1
theorem Uz(cf:Ix->aN) {i:Nat}(hi:i<9):(tI cf)[i]? =aC (cf (.inr i)):=by
 match i,hi with
 |0,_=>rfl
 |1,_=>rfl
 |2,_=>rfl
 |3,_=>rfl
 |4,_=>rfl
 |5,_=>rfl
 |6,_=>rfl
 |7,_=>rfl
 |8,_=>rfl
theorem aDT(cf:Ix->aN) {i:Nat}(hi:i<9)(v:aN):(tI cf).setIfInBounds i v=tI (iD cf (.inr i) v):=by
 match i,hi with
 |0,_=>simp [tI,iD]
 |1,_=>simp [tI,iD]
 |2,_=>simp [tI,iD]
 |3,_=>simp [tI,iD]
 |4,_=>simp [tI,iD]
 |5,_=>simp [tI,iD]
 |6,_=>simp [tI,iD]
 |7,_=>simp [tI,iD]
 |8,_=>simp [tI,iD]
theorem lK.a1j(h:lK w base b ab cf ov g os W) {i:Nat}(hi:i<9) {v':aN} {ys:List Int}(hg:W.grownBy w2 (cf (.inr i)).ownBlock)(hown:w2.ownsRow base 2 1 v' (aA ys) (ys.map (aG aF)))
 (hloc:v'.ownBlock=(cf (.inr i)).ownBlock\/∃k,v'.ownBlock=aC k/\W.heap.size<=k):lK w base b ab (iD cf (.inr i) v') ov (iD g (.inr i) ys) os (w2.setCell ⟨ab,i,aB⟩ v'):=by
 obtain⟨m,hm,hv,hd⟩:=h.map;obtain⟨l1,l2,l3,l4,l5,l6⟩:=h.low;obtain⟨es,clock,h1,h2⟩:=h.yt;have hb:aC b≠(cf (.inr i)).ownBlock:=λe=>by have:=h.lo e.symm;omega
 have ha:aC ab≠(cf (.inr i)).ownBlock:=λe=>by have:=h.lo e.symm;omega
 have hs:=hg.size;have FQ:∀k,k≠ab->(w2.setCell ⟨ab,i,aB⟩ v').heap[k]? =w2.heap[k]? :=λk hk=>nK _ _ _ _ hk
 have hgs:w2.grownBy (w2.setCell ⟨ab,i,aB⟩ v') (aC ab):=⟨rfl,rfl,rfl,by simp,λk _ hk=>FQ k (λe=>hk (by rw [e]))⟩;have QW:=h.tP.grow (.inr i) hg hown hloc;have Vu:∀j,((iD cf (.inr i) v') j).ownBlock≠aC ab:=λj e=>by have:=eF (QW.rows j) ab e;omega
 have hb2:=(hg.block ab (by omega) ha).trans h.blk;refine⟨⟨m,hm.of_block ((FQ b l3).trans (hg.block b (by omega) hb)),λq=> ?_,hd⟩,⟨es,clock,(FQ b l3).trans ((hg.block b (by omega) hb).trans h1),h2⟩, ?_,QW.kept hgs (λk hk j=>by injection hk with hk;subst hk;exact Vu j), ?_,⟨l1,l2,l3,l4,l5,by simp;omega⟩,(h.b.grown hg h.b.size (λk hk=>by have:=h.lo hk;omega)).setCell (p:=⟨ab,i,aB⟩) l2 _⟩
 ·rw [Ab _ _ (by simp)];exact hv q
 ·rw [<-aDT cf hi];exact lu hb2 i v'
 have ho:=h.ord.kept hg (Bv h.ord (h.tP.rows (.inr i)) (by decide));exact ho.kept hgs (.inr λe=>by have:=eF ho ab e;omega)
end
theorem a3i(pre:List En)(x:En)(i:Nat)(hi:i<9)(hx:x.a=(i:Int)):iD (iD (gthF pre) (.inl x.spot) (gz pre x.spot++ [x.n])) (.inr i) (gy pre i++ [x.n])=gthF (pre++ [x]):=by
 funext j;cases j with
 |inl q=>
  rw [Ab _ _ (by simp)];unfold iD;simp only [gthF,a1z,Sum.inl.injEq];split
  ·rename_i e;subst e;rfl
  rfl
 |inr k=>
  unfold iD;simp only [gthF,a1w,Sum.inr.injEq,hx,Int.natCast_inj,reduceCtorEq,if_false];by_cases e:k=i
  ·subst e;simp [hi]
  simp [e,Ne.symm e]
theorem aG2:gthF []=λ_=> []:=by
 funext i;cases i with
 |inl q=>rfl
 |inr i=>unfold gthF;simp only;split<;>rfl
end
end Go.Proofs.YtdokipdchlcmeaaGreat
