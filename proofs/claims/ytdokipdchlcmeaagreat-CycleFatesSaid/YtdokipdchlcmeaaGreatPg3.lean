/-
  Several texts in one, for one claim (printed by pack.py).
-/
import Derived.Test.YtdokipdchlcmeaaGreatPg2
import Derived.Deep.RegionLaw
import Derived.Maps.OwnSet
import Derived.Maps.OwnRows
import Derived.WideShapes
import Derived.Test.YtdokipdchlcmeaaGreatRows
import Derived.ProofKit
import Derived.OpenShut
import Derived.Lib.SmallJoins
import Derived.Deep.Slices
import Derived.Deep.Fields
import Derived.Deep.DeepHandedRow
import Derived.DeepKeys4
import Derived.WideKeyEntry
import Derived.Maps.AppendAt
import Derived.OneCell
set_option linter.all false
set_option maxRecDepth 100000
set_option maxHeartbeats 12800000
open Array renaming getElem?_eq_some_iff→fW,replicate→lB,toList_modify→Yh
open Bool renaming true→aO,false→aP,and_eq_true→jb,eq_iff_iff→Fj
open Go renaming World→aJ,Value→aN,Calls→aQ,Addr→aj,cell_of_row→bH,maxLen→bM,TypeId→bY,heap_alloc_new→cO,info_parts→dL,Ending→dU,wpList_append_own→j9,wpAnyH_take→js,wpAnyH_ready→pW,step_append_lies→AW,wpAnyH_done→Nv
open Go.Addr renaming block→Fg
open Go.AllReadyH renaming cons→ma,nil→oV
open Go.DataW renaming TrodAll→Yp
open Go.Ending renaming returned→aT
open Go.Instr renaming mapUpdate→EP,mapEntry→GI,entryStore→Ot,findKey→a9j
open Go.IntKind renaming i64→aF
open Go.IntWalk renaming i64_in→sR
open Go.MapKept renaming run_getObj_map→BH,run_setObj_map→GM
open Go.Maps.Keyed renaming of_law→a8m
open Go.Obj renaming cells→aK
open Go.Program renaming keyLits→UH
open Go.Proofs renaming intOf→ag
open Go.Proofs.Tryz renaming prog→aM,underlying53→mP,underlying3→xA,underlying46→yO,underlying56→Gh,func86→Ln,ntmps86→Lq,underlying132→PH,underlying185→PI,func54→UX,ntmps54→Ue,func106→aAW,func120→aAa,func124→aAb,func143→aAg,func157→aAh,func168→aAj,func181→aAm,func34→aB2,func60→aB7,func81→aBA,func82→aBB,func83→aBC,func84→aBD,func96→aBF,ntmps106→aBJ,ntmps120→aBN,ntmps124→aBO,ntmps143→aBT,ntmps157→aBU,ntmps168→aBW,ntmps181→aBZ,ntmps34→aBn,ntmps40→aBp,ntmps60→aBt,ntmps81→aBx,ntmps82→aBy,ntmps83→aBz,ntmps84→aC0,ntmps96→aC2,underlying284→aC9
open Go.Result renaming andThen→uH
open Go.RowKit renaming Below→aa,wrap64→fS
open Go.RowKit.Below renaming refl→aX,heap_setCell→nK
open Go.Sem renaming run_bind→aAS
open Go.Value renaming int→aG,slice→aH,tuple→bB,pointer→bF,bool→bJ,agg→bU,ownBlock→dy
open Go.WideElems renaming findIdx_arr→a8o,findIdx_born→a8p
open Go.World renaming ownsRow_nil→gC,cell?_of_block→gh,frozen?→iJ,ownsRow→jw,cell?_alloc_lt→qg,size_alloc→Cz,setCell→EY,cell?_setCell_other→Gj,frozen?_of_block→Lv
open List renaming length→aA,getElem_mem→cK,length_append→cN,take_length→cT,range→dQ,mem_map→dW,map_append→df,mem_cons_of_mem→dh,mem_cons→fC,take_succ_eq_append_getElem→fE,mem_append→gJ,replicate→gP,getElem?_eq_getElem→iD,mem_filter→jD,any_eq_true→jv,pairwise_cons→kX,eq_nil_of_length_eq_zero→nO,mem_range→nP,mem_cons_self→pD,length_filter_le→qd,mem_iff_getElem→sW,length_singleton→uG,flatMap_cons→wZ,any_eq_false→zO,getElem?_eq_some_iff→zP,mem_of_getElem?→zQ,length_replicate→Cl,getElem_modify→GJ,getElem?_eq_none→Lc,concat_eq_append→Ox,eq_nil_or_concat→Oy,findIdx_getElem→U8,length_modify→a9y,nodup_cons→aA2
open Nat renaming le_refl→aZ,zero_le→bL,le_trans→bz,lt_of_lt_of_le→cP,lt_or_ge→rQ,mul_le_mul→yN,mul_le_mul_right→GX,add_comm→aA7,add_mul_mod_self_right→aA8,mod_eq_of_lt→aAB
open Option renaming none→aB,some→aC
open Option.some renaming inj→pE
open Or renaming inl→aS,inr→aU
namespace Go.Proofs.YtdokipdchlcmeaaGreat
open Go.Proofs.Tryz Go.RowKit
theorem KX:(aM.info? 59).map (λi=>(i.zero,i.size,i.bytes))=aC (aC (bU #[aG aF 0,aG aF 0,aG aF 0,aG aF 0,aG aF 0,aG aF 0]),6,48):=by kernel_rfl
theorem aIU(L:List Ob):∀u∈fK L,u.oneCell'=aO:=by intro u hu;unfold fK at hu;obtain⟨x,_,hx⟩:=List.mem_flatMap.1 hu;simp [Ob.cells] at hx;rcases hx with rfl|rfl|rfl|rfl|rfl|rfl<;>rfl
theorem aIS(L:List Ob):aA (fK L)=aA L*6:=by
 unfold fK;induction L with
 |nil=>rfl
 |cons a l ih=>rw [wZ,cN,ih];simp [Ob.cells];omega
def yx(w:aJ)(L:List Ob)(e:dU)(w':aJ):Prop:=
 ∃v,e=aT v/\w'.ownsRow w.heap.size 59 6 v (aA L) (fK L)/\β w w'
theorem a5r(L:List Ob)(v:aN)(base:Nat)(w:aJ)(hown:w.ownsRow base 59 6 v (aA L) (fK L))(hl:aA L<=1000000):
 aQ aM 96 #[v] w (yx w L):=by
 obtain⟨i0,bu,hz0,hz1,hz2⟩:=dL KX;have hq:=Ds Gh;rcases hown.2 with⟨rfl,h0⟩|⟨g,cap,cur,rfl,hg,hh,xS,hcm,hcs,II⟩
 ·have hL:L= []:=nO h0;subst hL;go_enter aBF,aC2
  go_wp2
  go_ret;exact⟨_,rfl,⟨by simp [fK],aS ⟨rfl,rfl⟩⟩,aX _ _⟩
 have aGC:=hown.cells (g:=g) rfl;have HC:=η aGC;have hlt:g<w.heap.size:=(fW.1 hh).1;have HL:=η (aIS L);go_enter aBF,aC2
 go_wp2_with (at_builtin;refine j9 _ rfl _ _ 56 rfl w.heap.size 59 i0 _ 6 48 Gh bu hz0 hz1 hz2 rfl (by decide) _ 0 [] rfl ?c0 ⟨g,0,aB⟩ (aA L) cap (fK L) rfl HL.o ?c1 (aIU L) ?c3 ?c4 ?c5 ?_)
 case c0=>exact Dm w _ 6
 case c1=>exact λj u hu=>(qg _ _ _ (by rw [aCT];exact hlt)).trans (HC.o j u hu)
 case c3=>simp only [bM];omega
 case c4=>omega
 case c5=>simp
 intro v' w1 hown1 dF _;have cE:=η hown1;have lH:=η dF;go_wp2
 go_ret;refine⟨_,rfl,by simpa using cE.o,σ.grown lH.o (by simp) ?_⟩;intro k hk;simp [dy] at hk;omega
theorem aFY {α:Type}(p:α->Bool)(l:List α)(k:Nat)(h:(l.take k).any p=aP):k<=aA l->k<=l.findIdx p:=by
 intro hk;rw [zO] at h;rcases rQ (l.findIdx p) k with hlt|zt
 ·exfalso;have hl:l.findIdx p<aA l:=by omega
  have h1:=U8 (xs:=l) (p:=p) (w:=hl);have:l[l.findIdx p]∈l.take k:=by rw [List.mem_take_iff_getElem];exact⟨_,by omega,rfl⟩
  exact h _ this h1
 exact zt
def uV {α:Type}(p:α->Bool)(l:List α):Int:=if l.findIdx p<(aA l) then (l.findIdx p:Int) else-1
theorem RB {α:Type}(p:α->Bool) {l:List α} {k:Nat}(hk:k<aA l)(h:(l.take k).any p=aP)(hp:p l[k]=aO):(k:Int)=uV p l:=by
 have h1:=aFY p l k h (by omega);have h2:l.findIdx p<=k:=by
  rcases rQ k (l.findIdx p) with hlt|zt
  ·have:=List.not_of_lt_findIdx hlt;simp [hp] at this
  exact zt
 have e:l.findIdx p=k:=by omega
 unfold uV;rw [e,ifP hk]
theorem RD {α:Type}(p:α->Bool) {l:List α}(h:l.any p=aP):(-1:Int)=uV p l:=by unfold uV;rw [ifN];intro hl;have h1:=U8 (xs:=l) (p:=p) (w:=hl);rw [zO] at h;exact h _ (cK hl) h1
theorem aH5(L:List Ob)(A:Option aj)(c:Nat)(c1 c2:aN)(p:Ob->Bool)(w:aJ)(hs:aW w w.heap.size A (fK L))(hl:aA L<=1000000)
 (hp:∀(x:Ob) (W:aJ),aa w.heap.size w W->aQ aM 216 #[x.val,c1,c2] W λe w'=>e=aT (bJ (p x))/\aa W.heap.size W w'):
 aQ aM 168 #[aH A (aA L) c,.func (.func 216) #[] #[c1,c2]] w λe w'=>e=aT (aG aF (uV p L))/\aa w.heap.size w w':=by
 have HS:=η hs;have HP:=η hp;go_enter aAj,aBW
 go_wp2
 go_loopw [5,8] (λ_ i wr=>∃k:Nat,k<=aA L/\i=aG aF k/\Hid (aa w.heap.size w wr)/\Hid ((L.take k).any p=aP)) (λ_ i _=>aA L-(ag i).toNat)
 case atStart=>exact⟨0,bL _,rfl,aX _ _,rfl⟩
 case round=>
  obtain⟨k,hk,rfl,HB,HK⟩:=hrel;have hsz:=HB.o.size;by_cases hlt:k<aA L
  ·obtain⟨b,o,rfl,hb,d0,d1,d2,d3,d4,d5⟩:=vw (HS.o.below HB.o) hlt;have HA:=η (zW p hlt);cases hp:p L[k]
   ·go_wp2_with (go_at_call 216;refine mG (HP.o L[k] _ HB.o) λw1 aR=> ?_)
    go_roundw
    case rel=>exact⟨k+1,by omega,by go_num,HB.o.trans (aR.o.mono hsz),η (by rw [HA.o,HK.o,hp];rfl)⟩
    case measure=>simp [ag];omega
   have HF:=η (RB p hlt HK.o hp);go_wp2_with (go_at_call 216;refine mG (HP.o L[k] _ HB.o) λw1 aR=> ?_)
   go_ret;exact⟨cW HF.o,HB.o.trans (aR.o.mono hsz)⟩
  obtain rfl:k=aA L:=by omega
  have hn:=HK.o;rw [cT] at hn;have HN:=η (RD p hn);go_wp2
  go_ret;exact⟨cW HN.o,HB.o⟩
theorem aH4(L:List Ob)(A:Option aj)(c:Nat)(c1:aN)(p:Ob->Bool)(w:aJ)(hs:aW w w.heap.size A (fK L))(hl:aA L<=1000000)
 (hp:∀(x:Ob) (W:aJ),aa w.heap.size w W->aQ aM 109 #[x.val,c1] W λe w'=>e=aT (bJ (p x))/\aa W.heap.size W w'):
 aQ aM 168 #[aH A (aA L) c,.func (.func 109) #[] #[c1]] w λe w'=>e=aT (aG aF (uV p L))/\aa w.heap.size w w':=by
 have HS:=η hs;have HP:=η hp;go_enter aAj,aBW
 go_wp2
 go_loopw [5,8] (λ_ i wr=>∃k:Nat,k<=aA L/\i=aG aF k/\Hid (aa w.heap.size w wr)/\Hid ((L.take k).any p=aP)) (λ_ i _=>aA L-(ag i).toNat)
 case atStart=>exact⟨0,bL _,rfl,aX _ _,rfl⟩
 case round=>
  obtain⟨k,hk,rfl,HB,HK⟩:=hrel;have hsz:=HB.o.size;by_cases hlt:k<aA L
  ·obtain⟨b,o,rfl,hb,d0,d1,d2,d3,d4,d5⟩:=vw (HS.o.below HB.o) hlt;have HA:=η (zW p hlt);cases hp:p L[k]
   ·go_wp2_with (go_at_call 109;refine mG (HP.o L[k] _ HB.o) λw1 aR=> ?_)
    go_roundw
    case rel=>exact⟨k+1,by omega,by go_num,HB.o.trans (aR.o.mono hsz),η (by rw [HA.o,HK.o,hp];rfl)⟩
    case measure=>simp [ag];omega
   have HF:=η (RB p hlt HK.o hp);go_wp2_with (go_at_call 109;refine mG (HP.o L[k] _ HB.o) λw1 aR=> ?_)
   go_ret;exact⟨cW HF.o,HB.o.trans (aR.o.mono hsz)⟩
  obtain rfl:k=aA L:=by omega
  have hn:=HK.o;rw [cT] at hn;have HN:=η (RD p hn);go_wp2
  go_ret;exact⟨cW HN.o,HB.o⟩
theorem aH6(L:List Lg)(A:Option aj)(c:Nat)(c1:aN)(p:Lg->Bool)(w:aJ)(hs:aW w w.heap.size A (bA L))(hl:aA L<=1000000)
 (hp:∀(x:Lg) (W:aJ),aa w.heap.size w W->aQ aM 171 #[x.val,c1] W λe w'=>e=aT (bJ (p x))/\aa W.heap.size W w'):
 aQ aM 210 #[aH A (aA L) c,.func (.func 171) #[] #[c1]] w λe w'=>e=aT (aG aF (uV p L))/\aa w.heap.size w w':=by
 have HS:=η hs;have HP:=η hp;go_enter func210,ntmps210
 go_wp2
 go_loopw [5,8] (λ_ i wr=>∃k:Nat,k<=aA L/\i=aG aF k/\Hid (aa w.heap.size w wr)/\Hid ((L.take k).any p=aP)) (λ_ i _=>aA L-(ag i).toNat)
 case atStart=>exact⟨0,bL _,rfl,aX _ _,rfl⟩
 case round=>
  obtain⟨k,hk,rfl,HB,HK⟩:=hrel;have hsz:=HB.o.size;by_cases hlt:k<aA L
  ·obtain⟨b,o,rfl,hb,d0,d1,d2⟩:=oL (HS.o.below HB.o) hlt;have HA:=η (zW p hlt);cases hp:p L[k]
   ·go_wp2_with (go_at_call 171;refine mG (HP.o L[k] _ HB.o) λw1 aR=> ?_)
    go_roundw
    case rel=>exact⟨k+1,by omega,by go_num,HB.o.trans (aR.o.mono hsz),η (by rw [HA.o,HK.o,hp];rfl)⟩
    case measure=>simp [ag];omega
   have HF:=η (RB p hlt HK.o hp);go_wp2_with (go_at_call 171;refine mG (HP.o L[k] _ HB.o) λw1 aR=> ?_)
   go_ret;exact⟨cW HF.o,HB.o.trans (aR.o.mono hsz)⟩
  obtain rfl:k=aA L:=by omega
  have hn:=HK.o;rw [cT] at hn;have HN:=η (RD p hn);go_wp2
  go_ret;exact⟨cW HN.o,HB.o⟩
section
structure fN(w:aJ)(bs base:Nat)(v:aN)(L:List Ob):Prop where
 s:w.heap[bs]? =aC (aK #[v] 146 (0,0))
 own:w.ownsRow base 59 6 v (aA L) (fK L)
section
variable {w w':aJ} {bs base:Nat} {v:aN} {L:List Ob}
theorem fN.lt(h:fN w bs base v L):bs<w.heap.size:=(fW.1 h.s).1
theorem fN.c0(h:fN w bs base v L):w.cell? ⟨bs,0,aB⟩=aC v:=bH _ _ _ _ _ (0,0) h.s
theorem fN.f0(h:fN w bs base v L):w.frozen? ⟨bs,0,aB⟩=aP:=by simp [iJ,h.s]
theorem fN.below(h:fN w bs base v L)(hb:aa w.heap.size w w'):fN w' bs base v L:=by refine⟨(hb.block _ h.lt).trans h.s, ?_⟩;have hg:w.grownBy w' aB:=⟨hb.os,hb.tape,hb.output,hb.size,λi hi _=>hb.block i hi⟩;exact h.own.kept hg (by cases v.ownBlock<;>simp)
theorem fN.ne(h:fN w bs base v L):v.ownBlock≠aC bs:=by
 rcases h.own.2 with⟨rfl,_⟩|⟨g,cap,cur,rfl,_,hh,_⟩
 ·simp [dy]
 intro e;have e':g=bs:=by simpa [dy] using e
 subst e';rw [h.s] at hh;injection hh with hh;injection hh with _ ht;exact absurd ht (by decide)
end
theorem KV(L:List Ob)(v:aN)(bs base:Nat)(w:aJ)(h:fN w bs base v L)(hl:aA L<=1000000):
 aQ aM 43 #[bF (aC ⟨bs,0,aB⟩)] w (yx w L):=by
 have c0:=h.c0;have HO:=η h.own;go_enter func43,ntmps43
 go_wp2_with (go_at_call 96;refine(a5r L v base _ HO.o hl).mono ?_;rintro e w1 ⟨v1,rfl,eB,hb1⟩;have cE:=η eB;have aR:=η hb1)
 go_ret;exact⟨v1,rfl,cE.o,aR.o⟩
def xH(s:Int)(L:List Ob):Int:=aA (L.filter λx=>x.st==s)
theorem aES(s:Int) {L:List Ob} {k:Nat}(hk:k<aA L):xH s (L.take (k+1))=xH s (L.take k)+(if L[k].st==s then 1 else 0):=by unfold xH;rw [fE hk,List.filter_append,cN];by_cases h:(L[k].st==s)=aO<;>simp [h]
theorem aEQ(s:Int)(L:List Ob)(k:Nat):0<=xH s (L.take k)/\xH s (L.take k)<=k:=by unfold xH;have h1:=qd (λx:Ob=>x.st==s) (L.take k);have h2:=List.length_take_le k L;omega
theorem aER(L:List Ob):(decide (0<xH 1 L))=L.any eZ:=by
 rw [Fj];unfold xH;rw [decide_eq_true_eq,jv];constructor
 ·intro h;have hp:0<aA (L.filter λx=>x.st==1):=by omega
  obtain⟨x,hx⟩:=List.exists_mem_of_length_pos hp;exact⟨x,(jD.1 hx).1,(jD.1 hx).2⟩
 rintro⟨x,hx,hp⟩;have:0<aA (L.filter λx=>x.st==1):=List.length_pos_of_mem (jD.2 ⟨hx,hp⟩);omega
theorem XR(L:List Ob)(s:Int)(v:aN)(bs base:Nat)(w:aJ)(h:fN w bs base v L)(hl:aA L<=1000000):
 aQ aM 107 #[bF (aC ⟨bs,0,aB⟩),aG aF s] w λe w'=>e=aT (aG aF (xH s L))/\aa w.heap.size w w':=by
 have HH:=η h;go_enter func107,ntmps107
 go_wp2_with fail
 refine(KV L v bs base _ HH.o hl).mono ?_;rintro e w1 ⟨v1,rfl,eB,hb1⟩;obtain⟨A1,c1,rfl⟩:=bK eB;have HS:=η (aW.cA eB);have aR:=η hb1;go_wp2_with fail
 go_loopw [5,11] (λn i wr=>∃k:Nat,k<=aA L/\i=aG aF k/\n=aG aF (xH s (L.take k))/\Hid (aa w1.heap.size w1 wr)) (λ_ i _=>aA L-(ag i).toNat)
 case atStart=>exact⟨0,bL _,rfl,rfl,aX _ _⟩
 case round=>
  obtain⟨k,hk,rfl,rfl,HB⟩:=hrel;have hsz:=HB.o.size;obtain⟨n0,n1⟩:=aEQ s L k;by_cases hlt:k<aA L
  ·obtain⟨b,o,rfl,hb,d0,d1,d2,d3,d4,d5⟩:=vw (HS.o.below HB.o) hlt;have HC:=η (aES s hlt);cases hp:(L[k].st==s)
   ·go_wp2_with fail
    go_roundw
    case rel=>exact⟨k+1,by omega,by go_num,by rw [HC.o,hp];go_num,HB.o.alloc hsz _⟩
    case measure=>simp [ag];omega
   go_wp2_with fail
   go_roundw
   case rel=>exact⟨k+1,by omega,by go_num,by rw [HC.o,hp];go_num,HB.o.alloc hsz _⟩
   case measure=>simp [ag];omega
  obtain rfl:k=aA L:=by omega
  rw [cT];go_wp2_with fail
  go_ret;exact⟨rfl,aR.o.trans (HB.o.mono aR.o.size)⟩
theorem aFX(x:Ob)(m a:Int)(bm ba:Nat)(w:aJ)(hm:w.cell? ⟨bm,0,aB⟩=aC (aG aF m))(ha:w.cell? ⟨ba,0,aB⟩=aC (aG aF a))(h1:bm<w.heap.size)(h2:ba<w.heap.size):
 aQ aM 216 #[x.val,π bm,π ba] w λe w'=>e=aT (bJ (yg m a x))/\aa w.heap.size w w':=by
 obtain⟨c,xm,xa,az,done,st⟩:=x;unfold Ob.val;go_enter func216,ntmps216
 go_wp2
 all_goals
  go_ret;refine⟨fQ ?_,(aX _ _).alloc (aZ _) _⟩;rw [Fj];simp_all [yg]
theorem KW(L:List Ob)(m a:Int)(v:aN)(bs base:Nat)(w:aJ)(h:fN w bs base v L)(hl:aA L<=1000000):
 aQ aM 175 #[bF (aC ⟨bs,0,aB⟩),aG aF m,aG aF a] w λe w'=>e=aT (aG aF (uV (yg m a) L))/\aa w.heap.size w w':=by
 have hlt:=h.lt;have hb2:aa w.heap.size w ((w.alloc (aK #[aG aF m] 3)).alloc (aK #[aG aF a] 3)):=σ.alloc (by simp) _;have h':=h.below hb2;have c0:=h.c0;obtain⟨A,c,rfl⟩:=bK h'.own;have HS:=η (aW.cA h'.own)
 have hp:∀(x:Ob) (W:aJ),aa ((w.alloc (aK #[aG aF m] 3)).alloc (aK #[aG aF a] 3)).heap.size ((w.alloc (aK #[aG aF m] 3)).alloc (aK #[aG aF a] 3)) W->
  aQ aM 216 #[x.val,bF (aC ⟨w.heap.size,0,aB⟩),bF (aC ⟨w.heap.size+1,0,aB⟩)] W λe w'=>e=aT (bJ (yg m a x))/\aa W.heap.size W w':=by
  intro x W hb;have hz:=hb.size;simp at hz;refine aFX x m a _ _ W ?_ ?_ (by omega) (by omega)
  ·rw [hb.cell (p:=⟨w.heap.size,0,aB⟩) (by simp;omega),BM _ _ _ (by simp),cL _ _ _ _ rfl];rfl
  rw [hb.cell (p:=⟨w.heap.size+1,0,aB⟩) (by simp),cL _ _ _ _ (by simp)];rfl
 have HP:=η hp;have aV:=η hb2;go_enter func175,ntmps175
 go_wp2_with (go_at_call 168;refine mG (aH5 L A c _ _ (yg m a) _ HS.o hl HP.o) λw1 aR=> ?_)
 go_ret;exact⟨rfl,aV.o.trans (aR.o.mono (by simp;omega))⟩
end
theorem a3L {L:List Ob} {i:Nat} {f:Ob->Ob}(h:sM L)(dR:∀x,L[i]? =aC x->(f x).ok)(WJ:∀x,(f x).m=x.m/\(f x).a=x.a/\(eZ (f x)=aO->eZ x=aO)):sM (L.modify i f):=by
 refine⟨?_, ?_,by simpa using h.len⟩
 ·intro y hy;obtain⟨k,hk,rfl⟩:=sW.1 hy;rw [GJ];have lu:k<aA L:=by simpa using hk
  split
  ·rename_i e;subst e;exact dR _ (iD lu)
  exact h.each _ (cK lu)
 intro j k hj hk hjk oj ok' Qp;have hj':j<aA L:=by simpa using hj
 have lu:k<aA L:=by simpa using hk
 rw [GJ] at oj ok' Qp;rw [GJ] at Qp;have fact:∀(q:Nat) (hq:q<aA L),(eZ (if i=q then f L[q] else L[q])=aO->eZ L[q]=aO)/\(if i=q then f L[q] else L[q]).m=L[q].m/\(if i=q then f L[q] else L[q]).a=L[q].a:=by
  intro q hq;split
  ·exact⟨(WJ _).2.2,(WJ _).1,(WJ _).2.1⟩
  exact⟨id,rfl,rfl⟩
 rw [(fact j hj').2.1,(fact j hj').2.2,(fact k lu).2.1,(fact k lu).2.2] at Qp;exact h.once j k hj' lu hjk ((fact j hj').1 oj) ((fact k lu).1 ok') Qp
theorem a7g(L:List Ob):PA L L:=⟨aZ _,λ_ h _=>iD h⟩
theorem a7f {L:List Ob} {i:Nat} {f:Ob->Ob}(h:∀x,L[i]? =aC x->eZ x=aO):PA L (L.modify i f):=by
 refine⟨by simp,λk hk ho=> ?_⟩;rw [List.getElem?_modify];by_cases e:i=k
 ·subst e;rw [h _ (iD hk)] at ho;cases ho
 simp [e,hk]
theorem MI {m a:Int} {L:List Ob} {x:Ob}(h:L[dS m a L]? =aC x):eZ x=aO/\x.m=m/\x.a=a:=by
 obtain⟨hl,e⟩:=zP.1 h;have hp:=U8 (xs:=L) (p:=yg m a) (w:=hl);have ni:yg m a x=aO:=by rw [<-e];exact hp
 simp [yg] at ni;exact⟨by simp [eZ,ni.1.1],ni.1.2,ni.2⟩
theorem aFa {L:List Ob}(m a n:Int)(h:sM L):sM (kS m a n L)/\PA L (kS m a n L):=by
 unfold kS;split
 ·rename_i he;have hx:∀x,L[dS m a L]? =aC x->0<=x.az/\1<=n/\n<=x.az-x.done:=by
   intro x hx;unfold j6 at he;rw [hx] at he;simp only at he;split at he
   ·cases he
   split at he
   ·cases he
   split at he
   ·cases he
   omega
  refine⟨a3L h (λx hq=> ?_) (λx=>⟨rfl,rfl,id⟩),a7f λx hq=>(MI hq).1⟩;obtain⟨h1,h2,h3⟩:=hx x hq;have ho:=h.each x (zQ hq);have hs:x.size=x.az:=by unfold Ob.size;rw [ifN (by omega)]
  have d0:=ho.d0;refine⟨ho.lo,ho.hi,ho.ne,by simp only;omega, ?_⟩;show x.done+n<=x.size;rw [hs];omega
 exact⟨h,a7g _⟩
theorem aFb {L:List Ob}(m a n:Int)(h:sM L):sM (nu m a n L)/\PA L (nu m a n L):=by
 unfold nu;split
 ·rename_i he;have hx:∀x,L[dS m a L]? =aC x->1<=n/\n<=x.done:=by
   intro x hx;unfold lA at he;rw [hx] at he;simp only at he;split at he
   ·cases he
   split at he
   ·cases he
   split at he
   ·cases he
   omega
  refine⟨a3L h (λx hq=> ?_) (λx=>⟨rfl,rfl,id⟩),a7f λx hq=>(MI hq).1⟩;obtain⟨h2,h3⟩:=hx x hq;have ho:=h.each x (zQ hq);have d1:=ho.d1;refine⟨ho.lo,ho.hi,ho.ne,by simp only;omega, ?_⟩;show x.done-n<=x.size;omega
 exact⟨h,a7g _⟩
structure Only(bs:Nat)(v:aN)(w w':aJ):Prop where
 os:w'.os=w.os
 tape:w'.tape=w.tape
 output:w'.output=w.output
 size:w.heap.size<=w'.heap.size
 block:∀k,k<w.heap.size->k≠bs->aC k≠v.ownBlock->w'.heap[k]? =w.heap[k]?
theorem Only.bZ {bs:Nat} {v:aN} {w w':aJ}(h:aa w.heap.size w w'):Only bs v w w':=⟨h.os,h.tape,h.output,h.size,λk hk _ _=>h.block k hk⟩
theorem Only.set {bs g i:Nat} {v:aN} {w w':aJ}(h:Only bs v w w')(hg:v.ownBlock=aC g)(u:aN):Only bs v w (w'.setCell ⟨g,i,aB⟩ u):=
 ⟨h.os,h.tape,h.output,by simpa [EY] using h.size,λk hk h1 h2=>(nK _ _ _ _ (λe=>h2 (by rw [hg,e]))).trans (h.block k hk h1 h2)⟩
theorem Only.drewN {bs:Nat} {v:aN} {w w':aJ}(h:Only bs v w w')(q:Nat):Only bs v w (w'.drewN q):=⟨h.os,h.tape,h.output,h.size,h.block⟩
theorem Only.drew' {bs:Nat} {v:aN} {w w':aJ}(h:Only bs v w w'):Only bs v w w'.drew:=⟨h.os,h.tape,h.output,h.size,h.block⟩
def From(w:aJ)(v v':aN):Prop:=∀j,v'.ownBlock=aC j->v.ownBlock=aC j\/w.heap.size<=j
theorem qo {w:aJ} {v v':aN}(h:v'.ownBlock=v.ownBlock):From w v v':=λ_ hj=>aS (h▸hj)
def Ga(bs base:Nat)(v:aN)(L':List Ob)(E:Int)(w:aJ)(e:dU)(w':aJ):Prop:=
 ∃v',e=aT (ν E)/\fN w' bs base v' L'/\Only bs v w w'/\From w v v'
theorem VO {m a:Int} {L:List Ob}(h:dS m a L<aA L):uV (yg m a) L=(dS m a L:Int):=by unfold dS at h ⊢;unfold uV;rw [ifP h]
theorem VP {m a:Int} {L:List Ob}(h:¬dS m a L<aA L):uV (yg m a) L= -1:=by unfold dS at h;unfold uV;rw [ifN h]
theorem Kh {w:aJ} {bs base:Nat} {v:aN} {L:List Ob}(h:fN w bs base v L) {i:Nat}(hi:i<aA L):
 ∃g cap,v=aH (aC ⟨g,0,aB⟩) (aA L) cap/\g<w.heap.size/\g≠bs/\aA L<=cap/\(∀j,w.frozen? ⟨g,j,aB⟩=aP)/\
  w.cell? ⟨g,i*6,aB⟩=aC (ν L[i].c)/\w.cell? ⟨g,i*6+1,aB⟩=aC (ν L[i].m)/\w.cell? ⟨g,i*6+2,aB⟩=aC (ν L[i].a)/\
  w.cell? ⟨g,i*6+3,aB⟩=aC (ν L[i].az)/\w.cell? ⟨g,i*6+4,aB⟩=aC (ν L[i].done)/\w.cell? ⟨g,i*6+5,aB⟩=aC (ν L[i].st):=by
 rcases h.own.2 with⟨rfl,h0⟩|⟨g,cap,cur,rfl,hg,hh,xS,hcm,hcs,II⟩
 ·omega
 have hlt:=(fW.1 hh).1;have hs:=aW.cA h.own;obtain⟨b,o,e,_,d⟩:=vw hs hi;injection e with e;injection e with e1 e2;subst e1 e2;simp only [Nat.zero_add] at d;refine⟨g,cap,rfl,hlt, ?_,xS, ?_,d⟩
 ·intro e;exact h.ne (by simp [dy,e])
 intro j;simp [iJ,hh]
theorem a6x:∀(L:List Ob) (i:Nat) (hi:i<aA L) (f:Ob->Ob) (j:Nat) (u:aN) (_:j<6) (_:(f L[i]).cells=(L[i]).cells.set j u),fK (L.modify i f)=(fK L).set (i*6+j) u
 | [],i,hi,_,_,_,_,_=>absurd hi (by simp)
 |x::L,0,_,f,j,u,hj,hf=>by have hl:=hj;rw [List.modify_zero_cons];unfold fK;rw [wZ,wZ,Nat.zero_mul,Nat.zero_add,List.set_append_left _ _ hl];rw [show (f x).cells=x.cells.set j u from hf]
 |x::L,i+1,hi,f,j,u,hj,hf=>by
  rw [List.modify_succ_cons];have ih:=a6x L i (by simpa using hi) f j u hj hf;unfold fK at ih ⊢;have e:(i+1)*6+j=6+(i*6+j):=by omega
  rw [wZ,wZ,ih,e,List.set_append_right _ _ (by simp [Ob.cells])];simp [Ob.cells]
theorem fN.store {w:aJ} {bs base:Nat} {L:List Ob} {g cap:Nat}(h:fN w bs base (aH (aC ⟨g,0,aB⟩) (aA L) cap) L) {i j:Nat}(hi:i<aA L)(hj:j<6)(u:aN)(f:Ob->Ob)(hf:(f L[i]).cells=(L[i]).cells.set j u):
 fN (w.setCell ⟨g,i*6+j,aB⟩ u) bs base (aH (aC ⟨g,0,aB⟩) (aA (L.modify i f)) cap) (L.modify i f):=by
 have hne:=h.ne;refine⟨?_, ?_⟩
 ·rw [nK _ _ _ _ (λe=>hne (by simp only [dy];exact congrArg aC e.symm)),a9y];exact h.s
 rw [a6x L i hi f j u hj hf,a9y];exact(h.own.stored (i*6+j) u).1
theorem fN.drewN {w:aJ} {bs base:Nat} {v:aN} {L:List Ob}(h:fN w bs base v L)(q:Nat):fN (w.drewN q) bs base v L:=⟨h.s,h.own⟩
def Jr(m a n:Int)(L:List Ob):Int:=if debtE m a n L=0 then (dS m a L:Int) else 0
theorem RU(L:List Ob)(m a n:Int)(v:aN)(bs base:Nat)(w:aJ)(h:fN w bs base v L)(hl:aA L<=1000000):
 aQ aM 120 #[bF (aC ⟨bs,0,aB⟩),aG aF m,aG aF a,aG aF n] w λe w'=>
  e=aT (bB #[aG aF (Jr m a n L),aG aF (debtE m a n L)])/\aa w.heap.size w w':=by
 have HH:=η h;have hlt:=h.lt;by_cases hi:dS m a L<aA L
 ·have HI:=η (VO hi);have hx:L[dS m a L]? =aC L[dS m a L]:=iD hi;have hE:debtE m a n L=if L[dS m a L].az<0 then 8 else if n<1 then 1 else 0:=by unfold debtE;rw [hx]
  have HE:=η hE;have hJ:Jr m a n L=if debtE m a n L=0 then (dS m a L:Int) else 0:=rfl
  have HJ:=η hJ;generalize dS m a L=i at*;go_enter aAa,aBN
  go_wp2_with fail
  refine(KW L m a v bs base _ HH.o hl).mono ?_;rintro e w1 ⟨rfl,hb1⟩;obtain⟨g,cap,rfl,hg,_,Ex,_,d0,d1,d2,d3,d4,d5⟩:=Kh (HH.o.below hb1) hi;have c0:=(HH.o.below hb1).c0;have aR:=η hb1;rw [HI.o];by_cases KD:L[i].az<0
  ·go_wp2_with fail
   go_ret2;refine⟨?_,aR.o⟩;have hv:debtE m a n L=8:=by rw [HE.o,ifP KD]
   rw [HJ.o,hv];rfl
  by_cases kB:n<1
  ·go_wp2_with fail
   go_ret2;refine⟨?_,aR.o⟩;have hv:debtE m a n L=1:=by rw [HE.o,ifN (by omega),ifP kB]
   rw [HJ.o,hv];rfl
  go_wp2_with fail
  go_ret2;refine⟨?_,aR.o⟩;have hv:debtE m a n L=0:=by rw [HE.o,ifN (by omega),ifN (by omega)]
  rw [HJ.o,hv];rfl
 have HI:=η (VP hi);have hx:L[dS m a L]? =aB:=Lc (by omega);have hE:debtE m a n L=8:=by unfold debtE;rw [hx]
 have HE:=η hE;go_enter aAa,aBN
 go_wp2_with fail
 refine(KW L m a v bs base _ HH.o hl).mono ?_;rintro e w1 ⟨rfl,hb1⟩;have aR:=η hb1;rw [HI.o];go_wp2_with fail
 go_ret2;refine⟨?_,aR.o⟩;rw [Jr,HE.o];rfl
theorem a6M {m a n:Int} {L:List Ob}(h:debtE m a n L≠0):j6 m a n L=debtE m a n L/\lA m a n L=debtE m a n L:=by
 unfold j6 lA debtE at*;cases hq:L[dS m a L]? with
 |none=>exact⟨rfl,rfl⟩
 |some x=>
  rw [hq] at h;simp only at h ⊢;split
  ·exact⟨rfl,rfl⟩
  split
  ·exact⟨rfl,rfl⟩
  rename_i h1 h2;rw [ifN h1,ifN h2] at h;exact absurd rfl h
theorem a2f {m a n:Int} {L:List Ob}(h:debtE m a n L=0):∃hi:dS m a L<aA L,0<=L[dS m a L].az/\1<=n/\Jr m a n L=(dS m a L:Int)/\
 j6 m a n L=(if L[dS m a L].az-L[dS m a L].done<n then 12 else 0)/\lA m a n L=(if L[dS m a L].done<n then 12 else 0):=by
 have hj:Jr m a n L=(dS m a L:Int):=by unfold Jr;rw [ifP h]
 unfold debtE j6 lA at*;by_cases hi:dS m a L<aA L
 ·rw [iD hi] at h ⊢;simp only at h ⊢;split at h
  ·cases h
  rename_i h1;split at h
  ·cases h
  rename_i h2;rw [ifN h1,ifN h2,ifN h1,ifN h2];exact⟨hi,by omega,by omega,hj,rfl,rfl⟩
 rw [Lc (by omega)] at h;cases h
theorem aIW(L:List Ob)(m a n:Int)(v:aN)(bs base:Nat)(w:aJ)(h:fN w bs base v L)(hL:sM L)(hn:n<=9223372036854775807):
 aQ aM 60 #[bF (aC ⟨bs,0,aB⟩),aG aF m,aG aF a,aG aF n] w (Ga bs base v (kS m a n L) (j6 m a n L) w):=by
 have hl:aA L<=1000000:=by have:=hL.len;omega
 have HH:=η h;by_cases hd:debtE m a n L=0
 ·obtain⟨hi,ly,kB,hJ,hP,_⟩:=a2f hd;have dR:=hL.each _ (cK hi);obtain⟨o1,o2,o3,o4,o5⟩:=dR;have hsz:L[dS m a L].size=L[dS m a L].az:=by unfold Ob.size;rw [ifN (by omega)]
  rw [hsz] at o5;have hpl:kS m a n L=if j6 m a n L=0 then L.modify (dS m a L) (λx=> {x with done:=x.done+n}) else L:=rfl
  have HD:=η hd;have HJ:=η hJ;have HP:=η hP;have eI:=η hpl;generalize dS m a L=i at*;clear hd hJ hP hpl h hsz o1 o3;go_enter aB7,aBt
  go_wp2_with fail
  refine(RU L m a n v bs base _ HH.o hl).mono ?_;rintro e w1 ⟨rfl,hb1⟩;rw [HJ.o,HD.o];obtain⟨g,cap,rfl,hg,hgb,Ex,vU,d0,d1,d2,d3,d4,d5⟩:=Kh (HH.o.below hb1) hi;have c0:=(HH.o.below hb1).c0;have cY:=η (HH.o.below hb1);have aR:=η hb1;clear hb1;have hkb:(i:Int)<(aA L:Int):=by omega
  have eY:(0:Int)<=(i:Int):=by omega
  have yb:aF.wrap (L[i].az-L[i].done)=L[i].az-L[i].done:=sR _ (by omega);have yI:=η yb;by_cases hm:L[i].az-L[i].done<n
  ·go_wp2_with fail
   go_quiet (fail)
   clear yb;go_wp2_with fail
   go_ret;have hE:j6 m a n L=12:=by rw [HP.o,ifP hm]
   refine⟨aH (aC ⟨g,0,aB⟩) (aA L) cap,cW hE.symm, ?_,Only.bZ (below_drewN aR.o _),qo rfl⟩;rw [eI.o,hE];exact cY.o.drewN _
  go_wp2_with fail
  go_quiet (fail)
  clear yb;have hf4:=vU (i*6+4);clear vU;go_wp2_with fail
  go_ret;have hE:j6 m a n L=0:=by rw [HP.o,ifN (by omega)]
  refine⟨aH (aC ⟨g,0,aB⟩) (aA (L.modify i (λx=> {x with done:=x.done+n}))) cap,cW hE.symm, ?_,((Only.bZ aR.o).drewN _).set rfl _,qo rfl⟩;rw [eI.o,hE];exact(cY.o.drewN _).store hi (by decide) _ (λx=> {x with done:=x.done+n}) rfl
 have hP:=(a6M hd).1;have hpl:kS m a n L=L:=by unfold kS;rw [ifN (by rw [hP];exact hd)]
 have HP:=η hP;have eI:=η hpl;have BV:(debtE m a n L !=0)=aO:=by simpa using hd
 clear hP hpl h hd;go_enter aB7,aBt
 go_wp2_with fail
 refine(RU L m a n v bs base _ HH.o hl).mono ?_;rintro e w1 ⟨rfl,hb1⟩;have aR:=η hb1;clear hb1;go_wp2_with fail
 go_ret;refine⟨v,cW HP.o.symm, ?_,Only.bZ aR.o,qo rfl⟩;rw [eI.o];exact HH.o.below aR.o
theorem aIX(L:List Ob)(m a n:Int)(v:aN)(bs base:Nat)(w:aJ)(h:fN w bs base v L)(hL:sM L)(hn:n<=9223372036854775807):
 aQ aM 84 #[bF (aC ⟨bs,0,aB⟩),aG aF m,aG aF a,aG aF n] w (Ga bs base v (nu m a n L) (lA m a n L) w):=by
 have hl:aA L<=1000000:=by have:=hL.len;omega
 have HH:=η h;by_cases hd:debtE m a n L=0
 ·obtain⟨hi,ly,kB,hJ,_,hP⟩:=a2f hd;have dR:=hL.each _ (cK hi);obtain⟨o1,o2,o3,o4,o5⟩:=dR;have hsz:L[dS m a L].size=L[dS m a L].az:=by unfold Ob.size;rw [ifN (by omega)]
  rw [hsz] at o5;have hpl:nu m a n L=if lA m a n L=0 then L.modify (dS m a L) (λx=> {x with done:=x.done-n}) else L:=rfl
  have HD:=η hd;have HJ:=η hJ;have HP:=η hP;have eI:=η hpl;generalize dS m a L=i at*;clear hd hJ hP hpl h hsz o1 o3;go_enter aBD,aC0
  go_wp2_with fail
  refine(RU L m a n v bs base _ HH.o hl).mono ?_;rintro e w1 ⟨rfl,hb1⟩;rw [HJ.o,HD.o];obtain⟨g,cap,rfl,hg,hgb,Ex,vU,d0,d1,d2,d3,d4,d5⟩:=Kh (HH.o.below hb1) hi;have c0:=(HH.o.below hb1).c0;have cY:=η (HH.o.below hb1);have aR:=η hb1;clear hb1;have hkb:(i:Int)<(aA L:Int):=by omega
  have eY:(0:Int)<=(i:Int):=by omega
  by_cases hm:L[i].done<n
  ·go_wp2_with fail
   go_ret;have hE:lA m a n L=12:=by rw [HP.o,ifP hm]
   refine⟨aH (aC ⟨g,0,aB⟩) (aA L) cap,cW hE.symm, ?_,Only.bZ (aR.o),qo rfl⟩;rw [eI.o,hE];exact cY.o
  have hf4:=vU (i*6+4);clear vU;go_wp2_with fail
  go_ret;have hE:lA m a n L=0:=by rw [HP.o,ifN (by omega)]
  refine⟨aH (aC ⟨g,0,aB⟩) (aA (L.modify i (λx=> {x with done:=x.done-n}))) cap,cW hE.symm, ?_,(Only.bZ aR.o).set rfl _,qo rfl⟩;rw [eI.o,hE];exact cY.o.store hi (by decide) _ (λx=> {x with done:=x.done-n}) rfl
 have hP:=(a6M hd).2;have hpl:nu m a n L=L:=by unfold nu;rw [ifN (by rw [hP];exact hd)]
 have HP:=η hP;have eI:=η hpl;have BV:(debtE m a n L !=0)=aO:=by simpa using hd
 clear hP hpl h hd;go_enter aBD,aC0
 go_wp2_with fail
 refine(RU L m a n v bs base _ HH.o hl).mono ?_;rintro e w1 ⟨rfl,hb1⟩;have aR:=η hb1;clear hb1;go_wp2_with fail
 go_ret;refine⟨v,cW HP.o.symm, ?_,Only.bZ aR.o,qo rfl⟩;rw [eI.o];exact HH.o.below aR.o
theorem a7N(x:Ob):max x.az (-x.az)=x.size:=by unfold Ob.size;split<;>omega
theorem a5t(x:Ob)(w:aJ)(h0:fJ<x.az)(h1:x.az<=9223372036854775807):
 aQ aM 176 #[x.val] w λe w'=>e=aT (aG aF x.size)/\aa w.heap.size w w':=by
 have HM:=η (a7N x);unfold fJ at h0;obtain⟨c,m,a,az,done,st⟩:=x;simp only at h0 h1;unfold Ob.val;go_enter func176,ntmps176
 go_wp2
 all_goals
  go_ret;refine⟨cW ?_,(aX _ _).alloc (aZ _) _⟩;rw [<-HM.o];try omega
theorem aIT(w:aJ):aQ aM 33 #[] w λe w'=>e=aT (bF (aC ⟨w.heap.size,0,aB⟩))/\w.alloc (aK #[aH aB 0 0] 146)=w':=by
 go_enter func33,ntmps33
 go_wp2
 go_ret;exact⟨rfl,rfl⟩
def KS(s n z:Int):Bool:=decide (s<2)||decide (5<s)||decide (n<0)||decide (z<n)||(s==2&&n !=z)
theorem aHo {m a s n:Int} {L:List Ob}(hi:dS m a L<aA L):vu m a s n L=if KS s n L[dS m a L].size then 1 else 0:=by
 unfold vu;rw [iD hi];simp only;by_cases h:s<2\/5<s\/n<0\/L[dS m a L].size<n\/(s=2/\n≠L[dS m a L].size)
 ·rw [ifP h,ifP];unfold KS;simp only [Bool.or_eq_true,decide_eq_true_eq,jb,beq_iff_eq,bne_iff_ne];omega
 rw [ifN h,ifN];unfold KS;simp only [Bool.or_eq_true,decide_eq_true_eq,jb,beq_iff_eq,bne_iff_ne];omega
theorem a5j(L:List Ob)(i:Nat)(s n:Int):(L.modify i (λx=> {x with st:=s})).modify i (λx=> {x with done:=n})=L.modify i (λx=> {x with st:=s,done:=n}):=by rw [List.modify_modify_eq];rfl
theorem NP(L:List Ob)(m a s n:Int)(v:aN)(bs base:Nat)(w:aJ)(h:fN w bs base v L)(hL:sM L):
 aQ aM 124 #[bF (aC ⟨bs,0,aB⟩),aG aF m,aG aF a,aG aF s,aG aF n] w (Ga bs base v (lS m a s n L) (vu m a s n L) w):=by
 have hl:aA L<=1000000:=by have:=hL.len;omega
 have HH:=η h;by_cases hi:dS m a L<aA L
 ·have HI:=η (VO hi);have hP:=aHo (s:=s) (n:=n) hi;have hpl:lS m a s n L=if vu m a s n L=0 then L.modify (dS m a L) (λx=> {x with st:=s,done:=n}) else L:=rfl
  obtain⟨o1,o2,o3,o4,o5⟩:=hL.each _ (cK hi);have HP:=η hP;have eI:=η hpl;generalize dS m a L=i at*;have cE:=η o1;clear hP hpl h o1 o3;go_enter aAb,aBO
  go_wp2_with fail
  refine(KW L m a v bs base _ HH.o hl).mono ?_;rintro e w1 ⟨rfl,hb1⟩;rw [HI.o];obtain⟨g,cap,rfl,hg,hgb,Ex,vU,d0,d1,d2,d3,d4,d5⟩:=Kh (HH.o.below hb1) hi;have c0:=(HH.o.below hb1).c0;have aR:=η hb1;have hz1:=hb1.size;clear hb1;go_wp2_with fail
  refine(a5t L[i] _ cE.o o2).mono ?_;rintro e w2 ⟨rfl,hb2⟩;clear d0 d1 d2 d3 d4 d5 c0 vU;have Mb:aa w.heap.size w w2:=aR.o.trans (hb2.mono hz1);obtain⟨g',cap',ev,DU,hgb',aMa,vU,d0,d1,d2,d3,d4,d5⟩:=Kh (HH.o.below Mb) hi;injection ev with ME _ ev2;injection ME with ME;injection ME with ME _;subst ME ev2;have c0:=(HH.o.below Mb).c0;have cM:=η (HH.o.below Mb);have aV:=η Mb;clear hb2 Mb;have hkb:(i:Int)<(aA L:Int):=by omega
  have eY:(0:Int)<=(i:Int):=by omega
  have hf4:=vU (i*6+4);have DO:=vU (i*6+5);clear vU;generalize hz:L[i].size=z at*;have HZ:=η hz;clear hz;cases vY:KS s n z
  ·have hE:vu m a s n L=0:=by rw [HP.o,vY];rfl
   have HE:=η hE;unfold KS at vY;simp only [Bool.or_eq_false_iff,decide_eq_false_iff_not] at vY;obtain⟨⟨⟨⟨m1,m2⟩,m3⟩,m4⟩,m5⟩:=vY;have OP:=η m5;clear m5 hE;cases hs2:(s==2)
   ·go_wp2_with fail
    go_region
    go_wp2_with fail
    go_ret;refine⟨aH (aC ⟨g,0,aB⟩) (aA ((L.modify i (λx=> {x with st:=s})).modify i (λx=> {x with done:=n}))) cap,cW HE.o.symm, ?_,(((Only.bZ aV.o).drew').set rfl _).set rfl _,qo rfl⟩;rw [eI.o,HE.o];have h1:=(cM.o.drewN 1).store (i:=i) (j:=5) hi (by decide) (aG aF s) (λx=> {x with st:=s}) rfl;have h2:=h1.store (i:=i) (j:=4) (by simpa using hi) (by decide) (aG aF n) (λx=> {x with done:=n}) (by simp [Ob.cells]);rw [a5j] at h2 ⊢;exact h2
   have hnz:(n !=z)=aP:=by have:=OP.o;rw [hs2] at this;simpa using this
   go_wp2_with fail
   go_region
   go_wp2_with fail
   go_ret;refine⟨aH (aC ⟨g,0,aB⟩) (aA ((L.modify i (λx=> {x with st:=s})).modify i (λx=> {x with done:=n}))) cap,cW HE.o.symm, ?_,(((Only.bZ aV.o).drew').set rfl _).set rfl _,qo rfl⟩;rw [eI.o,HE.o];have h1:=(cM.o.drewN 1).store (i:=i) (j:=5) hi (by decide) (aG aF s) (λx=> {x with st:=s}) rfl;have h2:=h1.store (i:=i) (j:=4) (by simpa using hi) (by decide) (aG aF n) (λx=> {x with done:=n}) (by simp [Ob.cells]);rw [a5j] at h2 ⊢;exact h2
  have hE:vu m a s n L=1:=by rw [HP.o,vY];rfl
  have HE:=η hE;have MV:lS m a s n L=L:=by rw [eI.o,hE];rfl
  have wU:=η MV;clear hE MV;unfold KS at vY;by_cases m1:s<2
  ·go_wp2_with fail
   go_ret;exact⟨_,cW HE.o.symm,by rw [wU.o];exact cM.o,Only.bZ aV.o,qo rfl⟩
  by_cases m2:5<s
  ·go_wp2_with fail
   go_ret;exact⟨_,cW HE.o.symm,by rw [wU.o];exact cM.o,Only.bZ aV.o,qo rfl⟩
  by_cases m3:n<0
  ·go_wp2_with fail
   go_ret;exact⟨_,cW HE.o.symm,by rw [wU.o];exact cM.o,Only.bZ aV.o,qo rfl⟩
  by_cases m4:z<n
  ·go_wp2_with fail
   go_ret;exact⟨_,cW HE.o.symm,by rw [wU.o];exact cM.o,Only.bZ aV.o,qo rfl⟩
  rw [decide_eq_false m1,decide_eq_false m2,decide_eq_false m3,decide_eq_false m4] at vY;simp only [Bool.false_or,jb] at vY;obtain⟨hs2,hnz⟩:=vY;go_wp2_with fail
  go_ret;exact⟨_,cW HE.o.symm,by rw [wU.o];exact cM.o,Only.bZ aV.o,qo rfl⟩
 have HI:=η (VP hi);have hE:vu m a s n L=8:=by unfold vu;rw [Lc (by omega)]
 have MV:lS m a s n L=L:=by unfold lS;rw [hE];rfl
 have HE:=η hE;have wU:=η MV;clear hE MV h;go_enter aAb,aBO
 go_wp2_with fail
 refine(KW L m a v bs base _ HH.o hl).mono ?_;rintro e w1 ⟨rfl,hb1⟩;rw [HI.o];have aR:=η hb1;clear hb1;go_wp2_with fail
 go_ret;exact⟨v,cW HE.o.symm,by rw [wU.o];exact HH.o.below aR.o,Only.bZ aR.o,qo rfl⟩
theorem a2X(x:Ob)(cy:Int)(bc:Nat)(w:aJ)(hc:w.cell? ⟨bc,0,aB⟩=aC (aG aF cy))(h1:bc<w.heap.size):
 aQ aM 109 #[x.val,π bc] w λe w'=>e=aT (bJ (decide (cy<=x.c)))/\aa w.heap.size w w':=by
 obtain⟨c,xm,xa,az,done,st⟩:=x;unfold Ob.val;go_enter func109,ntmps109
 go_wp2
 go_ret;exact⟨rfl,(aX _ _).alloc (aZ _) _⟩
theorem X6 {α:Type}(p:α->Bool)(l:List α):decide (0<=uV p l)=l.any p:=by
 rw [Fj,decide_eq_true_eq,jv];unfold uV;constructor
 ·intro h;split at h
  ·rename_i hl;exact⟨_,cK hl,U8 (w:=hl)⟩
  omega
 rintro⟨x,hx,hp⟩;rw [ifP (List.findIdx_lt_length_of_exists ⟨x,hx,hp⟩)];omega
theorem a3y(L:List Ob)(A:Option aj)(c:Nat)(c1:aN)(p:Ob->Bool)(w:aJ)(hs:aW w w.heap.size A (fK L))(hl:aA L<=1000000)
 (hp:∀(x:Ob) (W:aJ),aa w.heap.size w W->aQ aM 109 #[x.val,c1] W λe w'=>e=aT (bJ (p x))/\aa W.heap.size W w'):
 aQ aM 108 #[aH A (aA L) c,.func (.func 109) #[] #[c1]] w λe w'=>e=aT (bJ (L.any p))/\aa w.heap.size w w':=by
 have HI:=η (aH4 L A c c1 p w hs hl hp);have HA:=η (X6 p L);go_enter func108,ntmps108
 go_wp2_with (go_at_call 168;refine mG HI.o λw1 aR=> ?_)
 go_ret;exact⟨fQ HA.o,aR.o⟩
theorem aG7(L:List Lg)(A:Option aj)(c:Nat)(c1:aN)(p:Lg->Bool)(w:aJ)(hs:aW w w.heap.size A (bA L))(hl:aA L<=1000000)
 (hp:∀(x:Lg) (W:aJ),aa w.heap.size w W->aQ aM 171 #[x.val,c1] W λe w'=>e=aT (bJ (p x))/\aa W.heap.size W w'):
 aQ aM 170 #[aH A (aA L) c,.func (.func 171) #[] #[c1]] w λe w'=>e=aT (bJ (L.any p))/\aa w.heap.size w w':=by
 have HI:=η (aH6 L A c c1 p w hs hl hp);have HA:=η (X6 p L);go_enter func170,ntmps170
 go_wp2_with (go_at_call 210;refine mG HI.o λw1 aR=> ?_)
 go_ret;exact⟨fQ HA.o,aR.o⟩
theorem aHc(x y:Lg)(Pb:Nat)(w:aJ)(h0:w.cell? ⟨Pb,0,aB⟩=aC (aG aF y.m))(h1:w.cell? ⟨Pb,1,aB⟩=aC (aG aF y.a))(hb:Pb<w.heap.size):
 aQ aM 171 #[x.val,π Pb] w λe w'=>e=aT (bJ (KR y x))/\aa w.heap.size w w':=by
 obtain⟨xm,xa,xn⟩:=x;unfold Lg.val;go_enter func171,ntmps171
 go_wp2
 all_goals
  go_ret;refine⟨fQ ?_,(aX _ _).alloc (aZ _) _⟩;rw [Fj];simp_all [KR]
theorem aCd(n:Int)(h:aL n):(dM (-n) !=0)=(n==fJ):=by
 rw [Fj];unfold dM fJ;unfold aL at h;by_cases hI:aL (-n)
 ·rw [ifP hI];unfold aL at hI;simp;omega
 rw [ifN hI];unfold aL at hI;simp;omega
theorem aW.left {w:aJ} {B:Nat} {A:Option aj} {xs ys:List aN}(h:aW w B A (xs++ys)):aW w B A xs:=λj u hu=>
 h j u (by rw [List.getElem?_append_left (zP.1 hu).1];exact hu)
theorem aHb(bD:List Lg)(i:Nat):bA bD=bA (bD.take i)++bA (bD.drop i):=by unfold bA;rw [<-List.flatMap_append,List.take_append_drop]
theorem a5u(bD:List Lg)(A:Option aj)(c i:Nat)(w:aJ)(hs:aW w w.heap.size A (bA bD))(hi:i<aA bD)(hl:aA bD<=1000000)(hc:aA bD<=c)(hI:aL bD[i].n):
 aQ aM 110 #[aH A (aA bD) c,aG aF i] w λe w'=>e=aT (bJ (yt bD i hi))/\aa w.heap.size w w':=by
 have HS:=η hs;have HI:=η hI;have HE:=η (aCd _ hI);obtain⟨b,o,rfl,hb,d0,d1,d2⟩:=oL hs hi;clear hs hI;have hl2:aA (bD.take i)=i:=List.length_take_of_le (by omega);have a4H:aQ aM 170 #[aH (aC ⟨b,o,aB⟩) i c,.func (.func 171) #[] #[bF (aC ⟨w.heap.size,0,aB⟩)]] (w.alloc (aK #[aG aF bD[i].m,aG aF bD[i].a,aG aF bD[i].n] 76)) λe w'=>e=aT (bJ ((bD.take i).any (KR bD[i])))/\aa (w.heap.size+1) (w.alloc (aK #[aG aF bD[i].m,aG aF bD[i].a,aG aF bD[i].n] 76)) w':=by
  have KL:aW (w.alloc (aK #[aG aF bD[i].m,aG aF bD[i].a,aG aF bD[i].n] 76)) (w.alloc (aK #[aG aF bD[i].m,aG aF bD[i].a,aG aF bD[i].n] 76)).heap.size (aC ⟨b,o,aB⟩) (bA (bD.take i)):=by have h1:=HS.o;rw [aHb bD i] at h1;exact(h1.left.below σ).mono (by simp)
  have h:=aG7 (bD.take i) (aC ⟨b,o,aB⟩) c (bF (aC ⟨w.heap.size,0,aB⟩)) (KR bD[i]) (w.alloc (aK #[aG aF bD[i].m,aG aF bD[i].a,aG aF bD[i].n] 76)) KL (by omega) (λx W oJ=>by
   have hz:=oJ.size;simp at hz;have hcell:=λj=>(oJ.cell (p:=⟨w.heap.size,j,aB⟩) (by simp)).trans (cL _ _ _ j rfl)
   exact aHc x bD[i] _ W (hcell 0) (hcell 1) (by omega))
  rw [hl2] at h;exact h.mono λe w' ⟨h1,h2⟩=>⟨h1,h2.mono (by simp)⟩
 have HC:=η a4H;have hW0:aa w.heap.size w (w.alloc (aK #[aG aF bD[i].m,aG aF bD[i].a,aG aF bD[i].n] 76)):=(aX _ _).alloc (aZ _) _;have mL:=η hW0;clear a4H hl2 hW0;go_enter func110,ntmps110
 go_wp2_with fail
 refine(RS bD[i].n _ HI.o).mono ?_;rintro e w1 ⟨rfl,rfl⟩;cases hz:(bD[i].n==0)
 ·cases hm:(bD[i].n==fJ)
  ·have hE:(dM (-bD[i].n) !=0)=aP:=HE.o.trans hm;have hT:(bD.take i).any (KR bD[i])=yt bD i hi:=by unfold yt SS;rw [hz,hm];rfl
   have HT:=η hT;clear hT;go_wp2_with (go_at_call 170;refine HC.o.mono ?_;rintro e w2 ⟨rfl,hb2⟩;have aV:=η hb2;clear hb2)
   go_ret;exact⟨fQ HT.o,mL.o.trans (aV.o.mono (by omega))⟩
  have hE:(dM (-bD[i].n) !=0)=aO:=HE.o.trans hm;have hT:aO=yt bD i hi:=by unfold yt SS;rw [hz,hm];rfl
  have HT:=η hT;clear hT;go_wp2_with fail
  go_ret;exact⟨fQ HT.o,mL.o⟩
 have hT:aO=yt bD i hi:=by unfold yt SS;rw [hz];rfl
 have HT:=η hT;clear hT;go_wp2_with fail
 go_ret;exact⟨fQ HT.o,mL.o⟩
theorem gM {w:aJ} {base:Nat} {e t:bY} {size n g:Nat} {v:aN} {xs:List aN} {cs:Array aN}(h:w.ownsRow base e size v n xs)(hg:w.heap[g]? =aC (aK cs t (0,0)))(hne:t≠e):v.ownBlock≠aC g:=by
 rcases h.2 with⟨rfl,_⟩|⟨g',cap,cur,rfl,_,hh,_⟩
 ·simp [dy]
 intro e';have e2:g'=g:=by simpa [dy] using e'
 subst e2;rw [hg] at hh;injection hh with hh;injection hh with _ ht;exact hne ht
theorem aCw {bD:List Lg} {i:Nat} {hi:i<aA bD}(h:yt bD i hi=aO):Ea bD=aO:=by unfold Ea;rw [jv];exact⟨i,nP.2 hi,by rw [dif_pos hi];exact h⟩
theorem aCv {bD:List Lg}(h:∀i (hi:i<aA bD),yt bD i hi=aP):Ea bD=aP:=by unfold Ea;rw [zO];intro i hi;rw [dif_pos (nP.1 hi),h];simp
theorem NN(L:List Ob)(x:Ob):fK (L++ [x])=fK L++x.cells:=by unfold fK;simp
theorem aHn {α β:Type}(f:α->β) {l:List α} {k:Nat}(hk:k<aA l):(l.take (k+1)).map f=(l.take k).map f++ [f l[k]]:=by rw [fE hk,df];rfl
theorem aW.only {w w':aJ} {bs:Nat} {v:aN} {A:Option aj} {xs:List aN}(h:aW w w.heap.size A xs)(hA:xs≠ []->∀p,A=aC p->p.block≠bs/\aC p.block≠v.ownBlock)(ho:Only bs v w w'):aW w' w.heap.size A xs:=λj u hu=>by obtain⟨b,o,e,hb,hc⟩:=h j u hu;obtain⟨h1,h2⟩:=hA (λe=>by rw [e] at hu;simp at hu) _ e;exact⟨b,o,e,hb,(gh (w:=w) (a:=⟨b,o+j,aB⟩) (ho.block b hb h1 h2)).trans hc⟩
theorem MO {wr w3:aJ} {o1 o2:Obj} {row:Option Nat}(hg:((wr.alloc o1).alloc o2).drew.grownBy w3 row) {k:Nat}(hk:k<wr.heap.size)(hne:aC k≠row):w3.heap[k]? =wr.heap[k]? :=by have h1:=hg.block k (by show k<((wr.alloc o1).alloc o2).heap.size;simp;omega) hne;rw [h1];show ((wr.alloc o1).alloc o2).heap[k]? =_;rw [fF _ _ (by simp;omega),fF _ _ hk]
theorem a3i {wr w3:aJ} {o1 o2:Obj} {row:Option Nat}(hg:((wr.alloc o1).alloc o2).drew.grownBy w3 row)(hne:aC wr.heap.size≠row):w3.heap[wr.heap.size]? =aC o1:=by have h1:=hg.block wr.heap.size (by show wr.heap.size<((wr.alloc o1).alloc o2).heap.size;simp;omega) hne;rw [h1];show ((wr.alloc o1).alloc o2).heap[wr.heap.size]? =_;rw [fF _ _ (by simp)];exact cO wr o1
theorem a6C {L:List Ob} {cy:Int} {bD:List Lg} {k:Nat} {eF:k<aA bD} {bs base g cap:Nat} {v v1:aN} {w wr w3:aJ} {o1 o2:Obj}
 (Mr:Only bs v w wr) (hb3:w3.heap[bs]? =aC (aK #[v1] 146 (0,0))) (hr3:w3.heap[w.heap.size]? =aC (aK #[ν cy] 3 (0,0)))
 (iz:w3.ownsRow base 59 6 (aH (aC ⟨g,0,aB⟩) (aA (L++(bD.take k).map (ft cy))+1) cap) (aA (L++(bD.take k).map (ft cy))+1) (fK (L++(bD.take k).map (ft cy))++(ft cy bD[k]).cells))
 (hg3:((wr.alloc o1).alloc o2).drew.grownBy w3 v1.ownBlock) (DR:From w v v1) (hat:v1.ownBlock=aC g\/g=wr.heap.size+1+1) (Wa:(bD.take (k+1)).map (ft cy)=(bD.take k).map (ft cy)++ [ft cy bD[k]]) (Ew:bs≠w.heap.size):
 (∃v',fN (w3.setCell ⟨bs,0,aB⟩ (aH (aC ⟨g,0,aB⟩) (aA (L++(bD.take k).map (ft cy))+1) cap)) bs base v' (L++(bD.take (k+1)).map (ft cy))/\From w v v')/\
  Only bs v w (w3.setCell ⟨bs,0,aB⟩ (aH (aC ⟨g,0,aB⟩) (aA (L++(bD.take k).map (ft cy))+1) cap))/\
  (w3.setCell ⟨bs,0,aB⟩ (aH (aC ⟨g,0,aB⟩) (aA (L++(bD.take k).map (ft cy))+1) cap)).heap[w.heap.size]? =aC (aK #[ν cy] 3 (0,0)):=by
 have hrow:fK (L++(bD.take (k+1)).map (ft cy))=fK (L++(bD.take k).map (ft cy))++(ft cy bD[k]).cells:=by rw [Wa,<-List.append_assoc,NN]
 have aGZ:aA (L++(bD.take (k+1)).map (ft cy))=aA (L++(bD.take k).map (ft cy))+1:=by rw [Wa,<-List.append_assoc,cN,uG]
 have aGh:=gM iz hb3 (by decide);have hz2:=Mr.size;refine⟨⟨aH (aC ⟨g,0,aB⟩) (aA (L++(bD.take k).map (ft cy))+1) cap,⟨?_, ?_⟩, ?_⟩,⟨hg3.os.trans Mr.os,hg3.tape.trans Mr.tape,hg3.output.trans Mr.output, ?_, ?_⟩, ?_⟩
 ·rw [lf hb3];rfl
 ·rw [hrow,aGZ];exact kF iz aGh _
 ·intro j hj;have e:g=j:=by simpa [dy] using hj
  subst e;rcases hat with h|h
  ·exact DR g h
  right;omega
 ·have h2:=hg3.size;have h4:((wr.alloc o1).alloc o2).drew.heap.size=wr.heap.size+2:=by show ((wr.alloc o1).alloc o2).heap.size=_;simp
  simp only [EY,Array.size_modify];omega
 ·intro j hj hjb hjo;rw [nK _ _ _ _ hjb,MO hg3 (by omega) (λe=> ?_)]
  ·exact Mr.block j hj hjb hjo
  rcases DR j e.symm with h|h
  ·exact hjo h.symm
  omega
 rw [nK _ _ _ _ (λe=>Ew e.symm)];exact hr3
theorem aIV(L:List Ob)(cy:Int)(bD:List Lg)(A:Option aj)(c:Nat)(v:aN)(bs base:Nat)(w:aJ)(h:fN w bs base v L)(hL:sM L)(hs:aW w w.heap.size A (bA bD))(hA:bD≠ []->∀p,A=aC p->p.block≠bs/\aC p.block≠v.ownBlock)(hbase:base<=w.heap.size)
 (hn:aA bD<=100000) (hc:aA bD<=c) (hI:∀y∈bD,aL y.n):
 aQ aM 54 #[bF (aC ⟨bs,0,aB⟩),aG aF cy,aH A (aA bD) c] w (Ga bs base v (np cy bD L) (qy cy bD L) w):=by
 have aMh:=hL.len;have hl:aA L<=1000000:=by omega
 have hlt:=h.lt;have hW0:aa w.heap.size w (w.alloc (aK #[aG aF cy] 3)):=(aX _ _).alloc (aZ _) _;have HH:=η (h.below hW0);have mL:=η hW0;have HS:=η hs;have HI:=η hI;have HA:=η hA;have c0:=(h.below hW0).c0;obtain⟨A0,k0,hv⟩:=bK h.own;have a3m:qy cy bD L=if 1024-(aA L:Int)<(aA bD) then 6 else if L.any eZ then 17 else if L.any (λx=>decide (cy<=x.c)) then 7 else if Ea bD then 1 else 0:=rfl
 have HE:=η a3m;have a3r:np cy bD L=if qy cy bD L=0 then L++bD.map (ft cy) else L:=rfl
 have HL:=η a3r;have CI:=η (aER L);subst hv;clear h hs hI hA hW0 a3m a3r;by_cases h6:1024-(aA L:Int)<aA bD
 ·have hE:qy cy bD L=6:=by rw [HE.o,ifP h6]
  have hO:np cy bD L=L:=by rw [HL.o,hE];rfl
  have CL:=η hE;have kL:=η hO;clear hE hO;go_enter UX,Ue
  go_wp2_with fail
  go_ret;exact⟨_,cW CL.o.symm,by rw [kL.o];exact HH.o,Only.bZ mL.o,qo rfl⟩
 cases DK:L.any eZ
 ·cases h7:L.any (λx=>decide (cy<=x.c))
  ·have a3k:decide (0<xH 1 L)=aP:=CI.o.trans DK;have MU:qy cy bD L=if Ea bD then 1 else 0:=by rw [HE.o,ifN h6,DK,h7];rfl
   have ZB:=η MU;have H7:=η h7;clear MU DK h7;obtain⟨i0,bu,hz0,fj,hz2⟩:=dL KX;go_enter UX,Ue
   go_wp2_with fail
   refine(XR L 1 _ bs base _ HH.o hl).mono ?_;rintro e w1 ⟨rfl,hb1⟩;have yB:=η (HH.o.below hb1);have c1:=(HH.o.below hb1).c0;have aR:=η hb1;have hz1:=hb1.size;simp at hz1;clear hb1;go_wp2_with fail
   refine(a3y L A0 k0 _ (λx=>decide (cy<=x.c)) _ (aW.cA yB.o.own) hl ?_).mono ?_
   ·intro x W oJ;have hzW:=oJ.size;refine a2X x cy _ W ?_ (by omega);rw [oJ.cell (p:=⟨w.heap.size,0,aB⟩) (by simp;omega),aR.o.cell (p:=⟨w.heap.size,0,aB⟩) (by simp),cL _ _ _ _ rfl];rfl
   rintro e w2 ⟨rfl,hb2⟩;have aV:=η hb2;have xV:=hb2.size;clear hb2;rw [H7.o];have gB:Hid (aa w.heap.size w w2):=mL.o.trans ((aR.o.mono (by simp)).trans (aV.o.mono (by omega)));have JD:=η (yB.o.below aV.o);have bT:w2.heap[w.heap.size]? =aC (aK #[aG aF cy] 3 (0,0)):=by rw [aV.o.block _ (by omega),aR.o.block _ (by simp)];exact cO w _
   have dH:=η bT;have cM:Hid (aW w2 w2.heap.size A (bA bD)):=(HS.o.below gB.o).mono (by omega);clear bT c1 c0;go_wp2_with fail
   go_loopw [7,36] (λ_ i wr=>∃k:Nat,k<=aA bD/\i=aG aF k/\Hid (aa w2.heap.size w2 wr)/\Hid (∀j (hj:j<aA bD),j<k->yt bD j hj=aP)) (λ_ i _=>aA bD-(ag i).toNat)
   case atStart=>exact⟨0,bL _,rfl,aX _ _,λ_ _ h=>absurd h (by omega)⟩
   case round=>
    obtain⟨k,hk,rfl,HB,HK⟩:=hrel;have hsz:=HB.o.size;by_cases eF:k<aA bD
    ·have OE:=η (HI.o bD[k] (cK eF));cases ht:yt bD k eF
     ·go_wp2_with (go_at_call 110;refine(a5u bD A c k _ ((cM.o.below HB.o).mono hsz) eF (by omega) hc OE.o).mono ?_;rintro e w3 ⟨rfl,hb3⟩;have af:=η hb3;clear hb3)
      go_roundw
      case rel=>exact⟨k+1,by omega,by go_num,HB.o.trans (af.o.mono hsz),η (λj hj hjk=>by
       rcases rQ j k with h1|h1
       ·exact HK.o j hj h1
       obtain rfl:j=k:=by omega
       exact ht)⟩
      case measure=>simp [ag];omega
     have hE:qy cy bD L=1:=by rw [ZB.o,aCw ht];rfl
     have hO:np cy bD L=L:=by rw [HL.o,hE];rfl
     have CL:=η hE;have kL:=η hO;clear hE hO;go_wp2_with (go_at_call 110;refine(a5u bD A c k _ ((cM.o.below HB.o).mono hsz) eF (by omega) hc OE.o).mono ?_;rintro e w3 ⟨rfl,hb3⟩;have af:=η hb3;clear hb3)
     go_ret;have iy:aa w2.heap.size w2 w3:=HB.o.trans (af.o.mono hsz);exact⟨_,cW CL.o.symm,by rw [kL.o];exact JD.o.below iy,Only.bZ (gB.o.trans (iy.mono (by omega))),qo rfl⟩
    obtain rfl:k=aA bD:=by omega
    have hE:qy cy bD L=0:=by rw [ZB.o,aCv (λj hj=>HK.o j hj hj)];rfl
    have hO:np cy bD L=L++bD.map (ft cy):=by rw [HL.o,hE];rfl
    have CL:=η hE;have kL:=η hO;clear hE hO;obtain⟨wo,rfl⟩:∃wo:aJ,wo=wr:=⟨_,rfl⟩;have HHo:=η (JD.o.below HB.o);have a9F:Hid (wo.heap[w.heap.size]? =aC (aK #[aG aF cy] 3 (0,0))):=(HB.o.block _ (by omega)).trans dH.o;have HWo:Hid (aa w.heap.size w wo):=gB.o.trans (HB.o.mono (by omega));go_wp2_with fail
    go_loopw [9,45] (λ_ i wr=>∃k:Nat,k<=aA bD/\i=aG aF k/\Hid (∃v',fN wr bs base v' (L++(bD.take k).map (ft cy))/\From w (aH A0 (aA L) k0) v')/\Hid (Only bs (aH A0 (aA L) k0) w wr)/\Hid (wr.heap[w.heap.size]? =aC (aK #[aG aF cy] 3 (0,0)))) (λ_ i _=>aA bD-(ag i).toNat)
    case atStart=>exact⟨0,bL _,rfl,⟨aH A0 (aA L) k0,by simpa using HHo.o,λj hj=>aS hj⟩,Only.bZ HWo.o,a9F.o⟩
    case round=>
     obtain⟨k,hk,rfl,HSh,LM,J5⟩:=hrel;obtain⟨v1,rr,DR⟩:=HSh.o;have wR:=η DR;clear DR;by_cases eF:k<aA bD
     ·have a3l:=HS.o.only (λhx=>HA.o λe=>hx (by rw [e];rfl)) LM.o;have aMv:=LM.o.size;have hlen:aA (L++(bD.take k).map (ft cy))=aA L+k:=by simp;omega
      have JG:=η hlen;obtain⟨b,o,rfl,hb,n0,n1,n2⟩:=oL a3l eF;have a4A:wr.cell? ⟨w.heap.size,0,aB⟩=aC (aG aF cy):=ρ J5.o;have a4C:w.heap.size<wr.heap.size:=(fW.1 J5.o).1;have s0:=rr.c0;have sf:=rr.f0;have Rt:=rr.lt;have QL:bs≠w.heap.size:=by omega
      have yF:=η rr;have JJ:=η (aHn (ft cy) eF);have aMT:b≠bs:=(HA.o (λe=>by rw [e] at eF;simp at eF) _ rfl).1;have hbr:bs≠wr.heap.size:=by omega
      have aMW:wr.heap.size≠bs:=by omega
      have aMX:w.heap.size≠bs:=by omega
      have QT:∀o,(wr.alloc o).frozen? ⟨bs,0,aB⟩=aP:=λo=>(Lv (w:=wr) (fF _ _ Rt)).trans sf
      have Hv:∀o o',((wr.alloc o).alloc o').frozen? ⟨bs,0,aB⟩=aP:=λo o'=>(Lv (w:=wr) ((fF _ _ (by simp;omega)).trans (fF _ _ Rt))).trans sf
      clear rr a3l hlen;go_wp2_with fail
      refine wp_region_held_drew (S:=(λw'=>w'.cell? ⟨w.heap.size,0,aB⟩=aC (aG aF cy)/\w'.cell? ⟨wr.heap.size,0,aB⟩=aC (aG aF bD[k].m)/\w'.cell? ⟨wr.heap.size,1,aB⟩=aC (aG aF bD[k].a)/\w'.cell? ⟨wr.heap.size,2,aB⟩=aC (aG aF bD[k].n))) (by kernel_rfl) (by go_keep) (λhHeld=> ?_);refine js (i:=0) (v:=bF (aC ⟨bs,0,aB⟩)) rfl (by kernel_rfl) (by kernel_rfl) (by kernel_rfl) (λ_ _ _ h=>h) (aS ⟨by rfl,λw' hSw=>by dsimp only at hSw;go_simp⟩) hHeld ?_;refine js (i:=1) (v:=bF (aC ⟨bs,0,aB⟩)) rfl (by kernel_rfl) (by kernel_rfl) (by kernel_rfl) (λ_ _ _ h=>h) (aS ⟨by rfl,λw' hSw=>by dsimp only at hSw;go_simp⟩) hHeld ?_;refine js (i:=2) (v:=bF (aC ⟨bs,0,aB⟩)) rfl (by kernel_rfl) (by kernel_rfl) (by kernel_rfl) (λ_ _ _ h=>h) (aS ⟨by rfl,λw' hSw=>by dsimp only at hSw;go_simp⟩) hHeld ?_;refine js (i:=3) (v:=bF (aC ⟨bs,0,aB⟩)) rfl (by kernel_rfl) (by kernel_rfl) (by kernel_rfl) (λ_ _ _ h=>h) (aS ⟨by rfl,λw' hSw=>by dsimp only at hSw;go_simp⟩) hHeld ?_;refine js (i:=5) (v:=aG aF cy) rfl (by kernel_rfl) (by kernel_rfl) (by kernel_rfl) (λ_ _ _ h=>h) (aS ⟨by rfl,λw' hSw=>by dsimp only at hSw;go_simp⟩) hHeld ?_;refine js (i:=6) (v:=bF (aC ⟨wr.heap.size,0,aB⟩)) rfl (by kernel_rfl) (by kernel_rfl) (by kernel_rfl) (λ_ _ _ h=>h) (aS ⟨by rfl,λw' hSw=>by dsimp only at hSw;go_simp⟩) hHeld ?_;refine js (i:=7) (v:=aG aF bD[k].m) rfl (by kernel_rfl) (by kernel_rfl) (by kernel_rfl) (λ_ _ _ h=>h) (aS ⟨by rfl,λw' hSw=>by dsimp only at hSw;go_simp⟩) hHeld ?_;refine js (i:=8) (v:=bF (aC ⟨wr.heap.size,1,aB⟩)) rfl (by kernel_rfl) (by kernel_rfl) (by kernel_rfl) (λ_ _ _ h=>h) (aS ⟨by rfl,λw' hSw=>by dsimp only at hSw;go_simp⟩) hHeld ?_;refine js (i:=9) (v:=aG aF bD[k].a) rfl (by kernel_rfl) (by kernel_rfl) (by kernel_rfl) (λ_ _ _ h=>h) (aS ⟨by rfl,λw' hSw=>by dsimp only at hSw;go_simp⟩) hHeld ?_;refine js (i:=10) (v:=bF (aC ⟨wr.heap.size,2,aB⟩)) rfl (by kernel_rfl) (by kernel_rfl) (by kernel_rfl) (λ_ _ _ h=>h) (aS ⟨by rfl,λw' hSw=>by dsimp only at hSw;go_simp⟩) hHeld ?_;refine js (i:=11) (v:=aG aF bD[k].n) rfl (by kernel_rfl) (by kernel_rfl) (by kernel_rfl) (λ_ _ _ h=>h) (aS ⟨by rfl,λw' hSw=>by dsimp only at hSw;go_simp⟩) hHeld ?_;refine js (i:=12) (v:=bU #[aG aF cy,aG aF bD[k].m,aG aF bD[k].a,aG aF bD[k].n,aG aF 0,aG aF 1]) rfl (by kernel_rfl) (by kernel_rfl) (by kernel_rfl) (λ_ _ _ h=>h) (aS ⟨by rfl,λw' hSw=>by dsimp only at hSw;go_simp⟩) hHeld ?_;refine pW (rs:= [4,13]) (by kernel_rfl) (by simp) ?_;refine ma rfl (λK hK=> ?_) (ma rfl (λK hK=> ?_) oV)
      ·go_simp
       refine hK.o _ _ hHeld (λhHeld=> ?_);clear hK K;refine pW (rs:= [13]) (by kernel_rfl) (by simp) ?_;refine ma rfl (λK hK=> ?_) oV;go_simp
       refine hK.o _ _ (by go_keep) (λhHeld=> ?_);clear hK K;refine pW (rs:= [14]) (by kernel_rfl) (by simp) ?_;refine ma rfl (λK hK=> ?_) oV;refine AW _ rfl (.tmp 53) (.tmp 62) 56 rfl base 59 i0 _ 6 48 Gh bu hz0 fj hz2 rfl (by decide) v1 _ _ rfl ((yF.o.own.alloc _).alloc _) ⟨wr.heap.size+1,0,aB⟩ 1 1 (ft cy bD[k]).cells rfl rfl (dN _ _ #[_,_,_,_,_,_] (by simp)) (by intro u hu;simp [Ob.cells] at hu;rcases hu with rfl|rfl|rfl|rfl|rfl|rfl<;>rfl) (by decide) (by rw [JG.o];simp only [bM];omega) (by rw [JG.o];omega) (by simp;omega) (wr.heap.size+1+1) (by simp) ?_;intro g cap w3 mS gL Et _;have b3:=(MO gL Rt (λe=>yF.o.ne e.symm)).trans yF.o.s;have q3:=a3i gL (λe=>by have:=(yF.o.own.lt _ e.symm).2;omega);have r3:=(MO gL a4C (λe=>gM yF.o.own J5.o (by decide) e.symm)).trans J5.o;have s3:w3.cell? ⟨bs,0,aB⟩=aC v1:=ρ b3;have f3:w3.frozen? ⟨bs,0,aB⟩=aP:=by simp [iJ,b3]
       have x3:w3.cell? ⟨w.heap.size,0,aB⟩=aC (aG aF cy):=ρ r3;have m3:w3.cell? ⟨wr.heap.size,0,aB⟩=aC (aG aF bD[k].m):=ρ q3;have a3:w3.cell? ⟨wr.heap.size,1,aB⟩=aC (aG aF bD[k].a):=ρ q3;have n3:w3.cell? ⟨wr.heap.size,2,aB⟩=aC (aG aF bD[k].n):=ρ q3;have cD:=η mS;have tq:=η gL;have lF:=η Et;have af:=η b3;have Tg:=η r3;clear mS gL Et b3 q3 r3;refine hK.o _ _ ⟨x3,m3,a3,n3⟩ (λhHeld=> ?_);clear hK K;refine js (i:=15) (v:=bF (aC ⟨bs,0,aB⟩)) rfl (by kernel_rfl) (by kernel_rfl) (by kernel_rfl) (λ_ _ _ h=>h) (aS ⟨by rfl,λw' hSw=>by dsimp only at hSw;go_simp⟩) hHeld ?_;refine js (i:=16) (v:=bF (aC ⟨bs,0,aB⟩)) rfl (by kernel_rfl) (by kernel_rfl) (by kernel_rfl) (λ_ _ _ h=>h) (aS ⟨by rfl,λw' hSw=>by dsimp only at hSw;go_simp⟩) hHeld ?_;refine pW (rs:= [17]) (by kernel_rfl) (by simp) ?_;refine ma rfl (λK hK=> ?_) oV;go_simp
       refine hK.o _ _ ⟨(Gj _ _ _ _ (λe=>QL (congrArg Fg e))).trans x3,(Gj _ _ _ _ (λe=>hbr (congrArg Fg e))).trans m3,(Gj _ _ _ _ (λe=>hbr (congrArg Fg e))).trans a3,(Gj _ _ _ _ (λe=>hbr (congrArg Fg e))).trans n3⟩ (λhHeld=> ?_);clear hK K hHeld;refine Nv (by kernel_rfl) ?_ _;have ID:=a6C LM.o af.o Tg.o cD.o tq.o wR.o lF.o JJ.o QL;rw [JG.o] at ID;have Fy:=η ID;clear ID;clear s3 f3 x3 m3 a3 n3 s0 sf QT Hv a4A n0 n1 n2;go_wp2_with fail
       go_roundw
       case rel=>exact⟨k+1,by omega,by go_num,Fy.o.1,Fy.o.2.1,Fy.o.2.2⟩
       case measure=>simp [ag];omega
      go_simp
      refine hK.o _ _ (by go_keep) (λhHeld=> ?_);clear hK K;refine pW (rs:= [4]) (by kernel_rfl) (by simp) ?_;refine ma rfl (λK hK=> ?_) oV;go_simp
      refine hK.o _ _ hHeld (λhHeld=> ?_);clear hK K;refine pW (rs:= [14]) (by kernel_rfl) (by simp) ?_;refine ma rfl (λK hK=> ?_) oV;refine AW _ rfl (.tmp 53) (.tmp 62) 56 rfl base 59 i0 _ 6 48 Gh bu hz0 fj hz2 rfl (by decide) v1 _ _ rfl ((yF.o.own.alloc _).alloc _) ⟨wr.heap.size+1,0,aB⟩ 1 1 (ft cy bD[k]).cells rfl rfl (dN _ _ #[_,_,_,_,_,_] (by simp)) (by intro u hu;simp [Ob.cells] at hu;rcases hu with rfl|rfl|rfl|rfl|rfl|rfl<;>rfl) (by decide) (by rw [JG.o];simp only [bM];omega) (by rw [JG.o];omega) (by simp;omega) (wr.heap.size+1+1) (by simp) ?_;intro g cap w3 mS gL Et _;have b3:=(MO gL Rt (λe=>yF.o.ne e.symm)).trans yF.o.s;have q3:=a3i gL (λe=>by have:=(yF.o.own.lt _ e.symm).2;omega);have r3:=(MO gL a4C (λe=>gM yF.o.own J5.o (by decide) e.symm)).trans J5.o;have s3:w3.cell? ⟨bs,0,aB⟩=aC v1:=ρ b3;have f3:w3.frozen? ⟨bs,0,aB⟩=aP:=by simp [iJ,b3]
      have x3:w3.cell? ⟨w.heap.size,0,aB⟩=aC (aG aF cy):=ρ r3;have m3:w3.cell? ⟨wr.heap.size,0,aB⟩=aC (aG aF bD[k].m):=ρ q3;have a3:w3.cell? ⟨wr.heap.size,1,aB⟩=aC (aG aF bD[k].a):=ρ q3;have n3:w3.cell? ⟨wr.heap.size,2,aB⟩=aC (aG aF bD[k].n):=ρ q3;have cD:=η mS;have tq:=η gL;have lF:=η Et;have af:=η b3;have Tg:=η r3;clear mS gL Et b3 q3 r3;refine hK.o _ _ ⟨x3,m3,a3,n3⟩ (λhHeld=> ?_);clear hK K;refine js (i:=15) (v:=bF (aC ⟨bs,0,aB⟩)) rfl (by kernel_rfl) (by kernel_rfl) (by kernel_rfl) (λ_ _ _ h=>h) (aS ⟨by rfl,λw' hSw=>by dsimp only at hSw;go_simp⟩) hHeld ?_;refine js (i:=16) (v:=bF (aC ⟨bs,0,aB⟩)) rfl (by kernel_rfl) (by kernel_rfl) (by kernel_rfl) (λ_ _ _ h=>h) (aS ⟨by rfl,λw' hSw=>by dsimp only at hSw;go_simp⟩) hHeld ?_;refine pW (rs:= [17]) (by kernel_rfl) (by simp) ?_;refine ma rfl (λK hK=> ?_) oV;go_simp
      refine hK.o _ _ ⟨(Gj _ _ _ _ (λe=>QL (congrArg Fg e))).trans x3,(Gj _ _ _ _ (λe=>hbr (congrArg Fg e))).trans m3,(Gj _ _ _ _ (λe=>hbr (congrArg Fg e))).trans a3,(Gj _ _ _ _ (λe=>hbr (congrArg Fg e))).trans n3⟩ (λhHeld=> ?_);clear hK K hHeld;refine Nv (by kernel_rfl) ?_ _;have ID:=a6C LM.o af.o Tg.o cD.o tq.o wR.o lF.o JJ.o QL;rw [JG.o] at ID;have Fy:=η ID;clear ID;clear s3 f3 x3 m3 a3 n3 s0 sf QT Hv a4A n0 n1 n2;go_wp2_with fail
      go_roundw
      case rel=>exact⟨k+1,by omega,by go_num,Fy.o.1,Fy.o.2.1,Fy.o.2.2⟩
      case measure=>simp [ag];omega
     obtain rfl:k=aA bD:=by omega
     have yF:=η rr;clear rr;go_wp2_with fail
     go_ret;refine⟨v1,cW CL.o.symm, ?_,LM.o,wR.o⟩;rw [kL.o];have:=yF.o;rw [cT] at this;exact this
  have hE:qy cy bD L=7:=by rw [HE.o,ifN h6,DK,h7];rfl
  have hO:np cy bD L=L:=by rw [HL.o,hE];rfl
  have CL:=η hE;have kL:=η hO;have a3k:decide (0<xH 1 L)=aP:=CI.o.trans DK;have H7:=η h7;clear hE hO DK h7;go_enter UX,Ue
  go_wp2_with fail
  refine(XR L 1 _ bs base _ HH.o hl).mono ?_;rintro e w1 ⟨rfl,hb1⟩;have yB:=η (HH.o.below hb1);have c1:=(HH.o.below hb1).c0;have aR:=η hb1;have hz1:=hb1.size;simp at hz1;clear hb1;go_wp2_with fail
  refine(a3y L A0 k0 _ (λx=>decide (cy<=x.c)) _ (aW.cA yB.o.own) hl ?_).mono ?_
  ·intro x W oJ;have hzW:=oJ.size;refine a2X x cy _ W ?_ (by omega);rw [oJ.cell (p:=⟨w.heap.size,0,aB⟩) (by simp;omega),aR.o.cell (p:=⟨w.heap.size,0,aB⟩) (by simp),cL _ _ _ _ rfl];rfl
  rintro e w2 ⟨rfl,hb2⟩;have aV:=η hb2;clear hb2;rw [H7.o];go_wp2_with fail
  go_ret;exact⟨_,cW CL.o.symm,by rw [kL.o];exact yB.o.below aV.o,Only.bZ (mL.o.trans ((aR.o.mono (by simp)).trans (aV.o.mono (by omega)))),qo rfl⟩
 have hE:qy cy bD L=17:=by rw [HE.o,ifN h6,DK];rfl
 have hO:np cy bD L=L:=by rw [HL.o,hE];rfl
 have CL:=η hE;have kL:=η hO;have a3k:decide (0<xH 1 L)=aO:=CI.o.trans DK;clear hE hO DK;go_enter UX,Ue
 go_wp2_with fail
 refine(XR L 1 _ bs base _ HH.o hl).mono ?_;rintro e w1 ⟨rfl,hb1⟩;have aR:=η hb1;clear hb1;go_wp2_with fail
 go_ret;exact⟨_,cW CL.o.symm,by rw [kL.o];exact HH.o.below aR.o,Only.bZ (mL.o.trans (aR.o.mono (by simp))),qo rfl⟩
theorem aEr(x:Ob)(w:aJ):
 aQ aM 174 #[x.val] w λe w'=>e=aT (bJ (decide (0<x.az)))/\β w w':=by
 obtain⟨c,m,a,az,done,st⟩:=x;unfold Ob.val;go_enter func174,ntmps174
 go_wp2
 go_ret;exact⟨rfl,(aX _ _).alloc (aZ _) _⟩
theorem aDo(x:Ob)(w:aJ):
 aQ aM 144 #[x.val] w λe w'=>e=aT (bJ (decide (x.az<0)))/\β w w':=by
 obtain⟨c,m,a,az,done,st⟩:=x;unfold Ob.val;go_enter func144,ntmps144
 go_wp2
 go_ret;exact⟨rfl,(aX _ _).alloc (aZ _) _⟩
theorem aIo(L:List Ob)(p:Ob->Bool)(v:aN)(bs base:Nat)(w:aJ)(h:fN w bs base v L)(hl:aA L<=1000000)
 (hp:∀(x:Ob) (W:aJ),aQ aM 174 #[x.val] W λe w'=>e=aT (bJ (p x))/\aa W.heap.size W w'):
 aQ aM 143 #[bF (aC ⟨bs,0,aB⟩),.func (.func 174) #[] #[]] w (yx w (L.filter λx=>x.st==1&&p x)):=by
 have HH:=η h;have HP:=η hp;obtain⟨i0,bu,hz0,fj,hz2⟩:=dL KX;go_enter aAg,aBT
 go_wp2_with fail
 refine(KV L v bs base _ HH.o hl).mono ?_;rintro e w1 ⟨v1,rfl,eB,hb1⟩;obtain⟨A1,c1,rfl⟩:=bK eB;have HS:=η (aW.cA eB);have aR:=η hb1;have hz1:=hb1.size;go_wp2_with fail
 go_loopw [5,7,11] (λu _ i wr=>∃k:Nat,k<=aA L/\i=aG aF k/\Hid (wr.ownsRow w1.heap.size 59 6 u (aA ((L.take k).filter λx=>x.st==1&&p x)) (fK ((L.take k).filter λx=>x.st==1&&p x)))/\Hid (aa w1.heap.size w1 wr)) (λ_ _ i _=>aA L-(ag i).toNat)
 case atStart=>exact⟨0,bL _,rfl,⟨by simp [fK],aS ⟨rfl,rfl⟩⟩,aX _ _⟩
 case round=>
  obtain⟨k,hk,rfl,HO,HB⟩:=hrel;have hsz:=HB.o.size;have gV:=Px (λx:Ob=>x.st==1&&p x) L k;by_cases hlt:k<aA L
  ·obtain⟨b,o,rfl,hb,d0,d1,d2,d3,d4,d5⟩:=vw (HS.o.below HB.o) hlt;have HF:=η (Py (λx:Ob=>x.st==1&&p x) hlt);cases h1:(L[k].st==1)
   ·have hF:(L.take (k+1)).filter (λx=>x.st==1&&p x)=(L.take k).filter (λx=>x.st==1&&p x):=by rw [HF.o,h1];simp
    have jh:=HO.o;rw [<-hF] at jh;have cE:=η jh;go_wp2_with fail
    go_roundw
    case rel=>exact⟨k+1,by omega,by go_num,cE.o.alloc _,HB.o.alloc hsz _⟩
    case measure=>simp [ag];omega
   cases h2:p L[k]
   ·have hF:(L.take (k+1)).filter (λx=>x.st==1&&p x)=(L.take k).filter (λx=>x.st==1&&p x):=by rw [HF.o,h1,h2];simp
    have jh:=HO.o;rw [<-hF] at jh;have cE:=η jh;have uB:Hid (∀W:aJ,aQ aM 174 #[L[k].val] W λe w'=>e=aT (bJ aP)/\aa W.heap.size W w'):=λW=>by have:=HP.o L[k] W;rw [h2] at this;exact this
    go_wp2_with fail
    refine(uB.o _).mono ?_;rintro e w3 ⟨rfl,hb3⟩;have af:Hid (aa w1.heap.size w1 w3):=(HB.o.alloc hsz _).trans (hb3.mono (by simp;omega));have hg3:wr.grownBy w3 aB:=⟨hb3.os,hb3.tape,hb3.output,by have:=hb3.size;simp at this;omega,λi hi _=>(hb3.block i (by simp;omega)).trans (fF _ _ hi)⟩;have cD:=η (cE.o.kept hg3 (by cases (dy _)<;>simp));go_wp2_with fail
    go_roundw
    case rel=>exact⟨k+1,by omega,by go_num,cD,af⟩
    case measure=>simp [ag];omega
   have hF:(L.take (k+1)).filter (λx=>x.st==1&&p x)=(L.take k).filter (λx=>x.st==1&&p x)++ [L[k]]:=by rw [HF.o,h1,h2];simp
   have jM:=η hF;have uB:Hid (∀W:aJ,aQ aM 174 #[L[k].val] W λe w'=>e=aT (bJ aO)/\aa W.heap.size W w'):=λW=>by have:=HP.o L[k] W;rw [h2] at this;exact this
   generalize (L.take k).filter (λx=>x.st==1&&p x)=ys at*;go_wp2_with fail
   refine(uB.o _).mono ?_;rintro e w3 ⟨rfl,hb3⟩;have af:Hid (aa w1.heap.size w1 w3):=(HB.o.alloc hsz _).trans (hb3.mono (by simp;omega));have hz3:=hb3.size;simp at hz3;have hg3:wr.grownBy w3 aB:=⟨hb3.os,hb3.tape,hb3.output,by omega,λi hi _=>(hb3.block i (by simp;omega)).trans (fF _ _ hi)⟩;have cD:=η (HO.o.kept hg3 (by cases (dy _)<;>simp));have hc:=λj=>(hb3.cell (p:=⟨wr.heap.size,j,aB⟩) (by simp)).trans (cL _ _ _ j rfl)
   have e0:=hc 0;have e1:=hc 1;have e2:=hc 2;have e3:=hc 3;have e4:=hc 4;have e5:=hc 5;simp at e0 e1 e2 e3 e4 e5;go_wp2_with (at_builtin;refine j9 _ rfl _ _ 56 rfl w1.heap.size 59 i0 _ 6 48 Gh bu hz0 fj hz2 rfl (by decide) _ (aA ys) (fK ys) rfl (cD.o.alloc _) ⟨w3.heap.size,0,aB⟩ 1 1 L[k].cells rfl rfl ?c1 ?c2 ?c3 ?c4 ?c5 ?_)
   case c1=>exact dN _ _ #[_,_,_,_,_,_] rfl
   case c2=>intro u hu;simp [Ob.cells] at hu;rcases hu with rfl|rfl|rfl|rfl|rfl|rfl<;>rfl
   case c3=>simp only [bM];omega
   case c4=>omega
   case c5=>simp;omega
   intro v' w4 hown1 dF _;have dV:Hid (w4.ownsRow w1.heap.size 59 6 v' (aA ((L.take (k+1)).filter λx=>x.st==1&&p x)) (fK ((L.take (k+1)).filter λx=>x.st==1&&p x))):=by show jw _ _ _ _ _ _ _;rw [jM.o,NN,cN,uG];exact hown1
   have pj:Hid (aa w1.heap.size w1 w4):=(af.o.alloc (by omega) _).grown dF (by simp;omega) (λj hj=>eT cD.o j hj);go_wp2_with fail
   go_roundw
   case rel=>exact⟨k+1,by omega,by go_num,dV,pj⟩
   case measure=>simp [ag];omega
  obtain rfl:k=aA L:=by omega
  have hO:=HO.o;rw [cT] at hO;have dD:=η hO;go_wp2_with fail
  go_ret;refine⟨_,rfl, ?_,aR.o.trans (HB.o.mono hz1)⟩;exact iB dD.o hz1
theorem aIn(L:List Ob)(p:Ob->Bool)(v:aN)(bs base:Nat)(w:aJ)(h:fN w bs base v L)(hl:aA L<=1000000)
 (hp:∀(x:Ob) (W:aJ),aQ aM 144 #[x.val] W λe w'=>e=aT (bJ (p x))/\aa W.heap.size W w'):
 aQ aM 143 #[bF (aC ⟨bs,0,aB⟩),.func (.func 144) #[] #[]] w (yx w (L.filter λx=>x.st==1&&p x)):=by
 have HH:=η h;have HP:=η hp;obtain⟨i0,bu,hz0,fj,hz2⟩:=dL KX;go_enter aAg,aBT
 go_wp2_with fail
 refine(KV L v bs base _ HH.o hl).mono ?_;rintro e w1 ⟨v1,rfl,eB,hb1⟩;obtain⟨A1,c1,rfl⟩:=bK eB;have HS:=η (aW.cA eB);have aR:=η hb1;have hz1:=hb1.size;go_wp2_with fail
 go_loopw [5,7,11] (λu _ i wr=>∃k:Nat,k<=aA L/\i=aG aF k/\Hid (wr.ownsRow w1.heap.size 59 6 u (aA ((L.take k).filter λx=>x.st==1&&p x)) (fK ((L.take k).filter λx=>x.st==1&&p x)))/\Hid (aa w1.heap.size w1 wr)) (λ_ _ i _=>aA L-(ag i).toNat)
 case atStart=>exact⟨0,bL _,rfl,⟨by simp [fK],aS ⟨rfl,rfl⟩⟩,aX _ _⟩
 case round=>
  obtain⟨k,hk,rfl,HO,HB⟩:=hrel;have hsz:=HB.o.size;have gV:=Px (λx:Ob=>x.st==1&&p x) L k;by_cases hlt:k<aA L
  ·obtain⟨b,o,rfl,hb,d0,d1,d2,d3,d4,d5⟩:=vw (HS.o.below HB.o) hlt;have HF:=η (Py (λx:Ob=>x.st==1&&p x) hlt);cases h1:(L[k].st==1)
   ·have hF:(L.take (k+1)).filter (λx=>x.st==1&&p x)=(L.take k).filter (λx=>x.st==1&&p x):=by rw [HF.o,h1];simp
    have jh:=HO.o;rw [<-hF] at jh;have cE:=η jh;go_wp2_with fail
    go_roundw
    case rel=>exact⟨k+1,by omega,by go_num,cE.o.alloc _,HB.o.alloc hsz _⟩
    case measure=>simp [ag];omega
   cases h2:p L[k]
   ·have hF:(L.take (k+1)).filter (λx=>x.st==1&&p x)=(L.take k).filter (λx=>x.st==1&&p x):=by rw [HF.o,h1,h2];simp
    have jh:=HO.o;rw [<-hF] at jh;have cE:=η jh;have uB:Hid (∀W:aJ,aQ aM 144 #[L[k].val] W λe w'=>e=aT (bJ aP)/\aa W.heap.size W w'):=λW=>by have:=HP.o L[k] W;rw [h2] at this;exact this
    go_wp2_with fail
    refine(uB.o _).mono ?_;rintro e w3 ⟨rfl,hb3⟩;have af:Hid (aa w1.heap.size w1 w3):=(HB.o.alloc hsz _).trans (hb3.mono (by simp;omega));have hg3:wr.grownBy w3 aB:=⟨hb3.os,hb3.tape,hb3.output,by have:=hb3.size;simp at this;omega,λi hi _=>(hb3.block i (by simp;omega)).trans (fF _ _ hi)⟩;have cD:=η (cE.o.kept hg3 (by cases (dy _)<;>simp));go_wp2_with fail
    go_roundw
    case rel=>exact⟨k+1,by omega,by go_num,cD,af⟩
    case measure=>simp [ag];omega
   have hF:(L.take (k+1)).filter (λx=>x.st==1&&p x)=(L.take k).filter (λx=>x.st==1&&p x)++ [L[k]]:=by rw [HF.o,h1,h2];simp
   have jM:=η hF;have uB:Hid (∀W:aJ,aQ aM 144 #[L[k].val] W λe w'=>e=aT (bJ aO)/\aa W.heap.size W w'):=λW=>by have:=HP.o L[k] W;rw [h2] at this;exact this
   generalize (L.take k).filter (λx=>x.st==1&&p x)=ys at*;go_wp2_with fail
   refine(uB.o _).mono ?_;rintro e w3 ⟨rfl,hb3⟩;have af:Hid (aa w1.heap.size w1 w3):=(HB.o.alloc hsz _).trans (hb3.mono (by simp;omega));have hz3:=hb3.size;simp at hz3;have hg3:wr.grownBy w3 aB:=⟨hb3.os,hb3.tape,hb3.output,by omega,λi hi _=>(hb3.block i (by simp;omega)).trans (fF _ _ hi)⟩;have cD:=η (HO.o.kept hg3 (by cases (dy _)<;>simp));have hc:=λj=>(hb3.cell (p:=⟨wr.heap.size,j,aB⟩) (by simp)).trans (cL _ _ _ j rfl)
   have e0:=hc 0;have e1:=hc 1;have e2:=hc 2;have e3:=hc 3;have e4:=hc 4;have e5:=hc 5;simp at e0 e1 e2 e3 e4 e5;go_wp2_with (at_builtin;refine j9 _ rfl _ _ 56 rfl w1.heap.size 59 i0 _ 6 48 Gh bu hz0 fj hz2 rfl (by decide) _ (aA ys) (fK ys) rfl (cD.o.alloc _) ⟨w3.heap.size,0,aB⟩ 1 1 L[k].cells rfl rfl ?c1 ?c2 ?c3 ?c4 ?c5 ?_)
   case c1=>exact dN _ _ #[_,_,_,_,_,_] rfl
   case c2=>intro u hu;simp [Ob.cells] at hu;rcases hu with rfl|rfl|rfl|rfl|rfl|rfl<;>rfl
   case c3=>simp only [bM];omega
   case c4=>omega
   case c5=>simp;omega
   intro v' w4 hown1 dF _;have dV:Hid (w4.ownsRow w1.heap.size 59 6 v' (aA ((L.take (k+1)).filter λx=>x.st==1&&p x)) (fK ((L.take (k+1)).filter λx=>x.st==1&&p x))):=by show jw _ _ _ _ _ _ _;rw [jM.o,NN,cN,uG];exact hown1
   have pj:Hid (aa w1.heap.size w1 w4):=(af.o.alloc (by omega) _).grown dF (by simp;omega) (λj hj=>eT cD.o j hj);go_wp2_with fail
   go_roundw
   case rel=>exact⟨k+1,by omega,by go_num,dV,pj⟩
   case measure=>simp [ag];omega
  obtain rfl:k=aA L:=by omega
  have hO:=HO.o;rw [cT] at hO;have dD:=η hO;go_wp2_with fail
  go_ret;refine⟨_,rfl, ?_,aR.o.trans (HB.o.mono hz1)⟩;exact iB dD.o hz1
theorem aIR(L:List Ob)(v:aN)(bs base:Nat)(w:aJ)(h:fN w bs base v L)(hl:aA L<=1000000):
 aQ aM 116 #[bF (aC ⟨bs,0,aB⟩)] w (yx w (L.filter λx=>x.st==1&&(λx=>decide (0<x.az)) x)):=by
 have HC:=η (aIo L (λx=>decide (0<x.az)) v bs base w h hl aEr);go_enter func116,ntmps116
 go_wp2_with fail
 refine HC.o.mono ?_;rintro e w1 ⟨v1,rfl,eB,hb1⟩;have cE:=η eB;have aR:=η hb1;go_wp2_with fail
 go_ret;exact⟨v1,rfl,cE.o,aR.o⟩
theorem aIP(L:List Ob)(v:aN)(bs base:Nat)(w:aJ)(h:fN w bs base v L)(hl:aA L<=1000000):
 aQ aM 73 #[bF (aC ⟨bs,0,aB⟩)] w (yx w (L.filter λx=>x.st==1&&(λx=>decide (x.az<0)) x)):=by
 have HC:=η (aIn L (λx=>decide (x.az<0)) v bs base w h hl aDo);go_enter func73,ntmps73
 go_wp2_with fail
 refine HC.o.mono ?_;rintro e w1 ⟨v1,rfl,eB,hb1⟩;have cE:=η eB;have aR:=η hb1;go_wp2_with fail
 go_ret;exact⟨v1,rfl,cE.o,aR.o⟩
def a9A(w:aJ)(L:List Ob)(e:dU)(w':aJ):Prop:=∃bc v,e=aT (bF (aC ⟨bc,0,aB⟩))/\fN w' bc w.heap.size v L/\w.heap.size<=bc/\aa w.heap.size w w'
theorem aIQ(L:List Ob)(v:aN)(bs base:Nat)(w:aJ)(h:fN w bs base v L)(hl:aA L<=1000000):
 aQ aM 94 #[bF (aC ⟨bs,0,aB⟩)] w (a9A w L):=by
 have c0:=h.c0;have HO:=η h.own;go_enter func94,ntmps94
 go_wp2_with fail
 refine(a5r L v base _ HO.o hl).mono ?_;rintro e w1 ⟨v1,rfl,eB,hb1⟩;have cE:=η eB;have aR:=η hb1;have hz:=hb1.size;obtain⟨A1,c1,rfl⟩:=bK eB;go_wp2_with fail
 go_ret;exact⟨w1.heap.size,_,rfl,⟨cO _ _,cE.o.alloc _⟩,hz,aR.o.alloc hz _⟩
theorem D3(b off j:Nat):(⟨b,off,aB⟩:aj).add j=⟨b,off+j,aB⟩:=by grind [Addr.add]
theorem yj {w:aJ} {base:Nat} {e:bY} {size n c:Nat} {A:Option aj} {xs:List aN}(h:w.ownsRow base e size (aH A n c) n xs):A=aB->n=0:=by
 rintro rfl;rcases h.2 with⟨_,h0⟩|⟨g,cap,cur,hv,_⟩
 ·exact h0
 grind
def pY(E:bY)(k n:Nat)(xs:List aN)(w:aJ)(e:dU)(w':aJ):Prop:=∃v',e=aT v'/\w'.ownsRow w.heap.size E k v' n xs/\aa w.heap.size w w'
theorem NB:(aM.info? 2).map (λi=>(i.zero,i.size,i.bytes))=aC (aC (aG aF 0),1,8):=by kernel_rfl
theorem aE1(n:Nat)(xs:List aN)(A:Option aj)(c:Nat)(w:aJ)(hs:aW w w.heap.size A xs)(nD:aA xs=n*1)(hnil:A=aB->n=0)(h1:∀u∈xs,u.oneCell'=aO)(hl:n<=100000):
 aQ aM 158 #[aH A n c] w (pY 2 1 n xs w):=by
 obtain⟨i0,bu,hz0,hz1,hz2⟩:=dL NB;have hq:=Ds mP;cases A with
 |none=>
  obtain rfl:=hnil rfl;obtain rfl:xs= []:=nO (by omega);go_enter func158,ntmps158
  go_wp2
  go_ret;exact⟨_,rfl,gC _ _ _ _,aX _ _⟩
 |some p=>
  have HC:Hid (∀j u,xs[j]? =aC u->∀o:Obj,(w.alloc o).cell? (p.add j)=aC u):=η (λj u hu o=>by obtain⟨b,off,e,hb,hc⟩:=hs j u hu;obtain rfl:=pE e;rw [D3];exact(qg _ _ _ hb).trans hc);have HL:=η nD;have H1:=η h1;go_enter func158,ntmps158
  go_wp2_with (at_builtin;refine j9 _ rfl _ _ 53 rfl w.heap.size 2 i0 _ 1 8 mP bu hz0 hz1 hz2 rfl (by decide) _ 0 [] rfl ?c0i64 p n c xs rfl HL ?c1i64 H1 ?c3i64 ?c4i64 ?c5i64 ?_)
  case c0i64=>exact Dm w _ 1
  case c1i64=>exact λj u hu=>HC j u hu _
  case c3i64=>simp only [bM];omega
  case c4i64=>omega
  case c5i64=>simp
  intro v' w1 hown1 dF _;have cE:=η hown1;have lH:=η dF;go_wp2
  go_ret;refine⟨_,rfl,by simpa using cE.o,σ.grown lH.o (by simp) ?_⟩;grind [dy]
theorem aDv(n:Nat)(xs:List aN)(v:aN)(base:Nat)(w:aJ)(hown:w.ownsRow base 2 1 v n xs)(h1:∀u∈xs,u.oneCell'=aO)(hl:n<=100000):
 aQ aM 158 #[v] w (pY 2 1 n xs w):=by
 obtain⟨A,c,hv⟩:=bK hown;subst hv;exact aE1 n xs A c w (aW.cA hown) hown.1 (yj hown) h1 hl
theorem aHA:(aM.info? 3).map (λi=>(i.zero,i.size,i.bytes))=aC (aC (aG aF 0),1,8):=by kernel_rfl
theorem a2P(n:Nat)(xs:List aN)(A:Option aj)(c:Nat)(w:aJ)(hs:aW w w.heap.size A xs)(nD:aA xs=n*1)(hnil:A=aB->n=0)(h1:∀u∈xs,u.oneCell'=aO)(hl:n<=100000):
 aQ aM 40 #[aH A n c] w (pY 3 1 n xs w):=by
 obtain⟨i0,bu,hz0,hz1,hz2⟩:=dL aHA;have hq:=Ds yO;cases A with
 |none=>
  obtain rfl:=hnil rfl;obtain rfl:xs= []:=nO (by omega);go_enter func40,aBp
  go_wp2
  go_ret;exact⟨_,rfl,gC _ _ _ _,aX _ _⟩
 |some p=>
  have HC:Hid (∀j u,xs[j]? =aC u->∀o:Obj,(w.alloc o).cell? (p.add j)=aC u):=η (λj u hu o=>by obtain⟨b,off,e,hb,hc⟩:=hs j u hu;obtain rfl:=pE e;rw [D3];exact(qg _ _ _ hb).trans hc);have HL:=η nD;have H1:=η h1;go_enter func40,aBp
  go_wp2_with (at_builtin;refine j9 _ rfl _ _ 46 rfl w.heap.size 3 i0 _ 1 8 yO bu hz0 hz1 hz2 rfl (by decide) _ 0 [] rfl ?c0int p n c xs rfl HL ?c1int H1 ?c3int ?c4int ?c5int ?_)
  case c0int=>exact Dm w _ 1
  case c1int=>exact λj u hu=>HC j u hu _
  case c3int=>simp only [bM];omega
  case c4int=>omega
  case c5int=>simp
  intro v' w1 hown1 dF _;have cE:=η hown1;have lH:=η dF;go_wp2
  go_ret;refine⟨_,rfl,by simpa using cE.o,σ.grown lH.o (by simp) ?_⟩;grind [dy]
theorem aDw(n:Nat)(xs:List aN)(v:aN)(base:Nat)(w:aJ)(hown:w.ownsRow base 3 1 v n xs)(h1:∀u∈xs,u.oneCell'=aO)(hl:n<=100000):
 aQ aM 40 #[v] w (pY 3 1 n xs w):=by
 obtain⟨A,c,hv⟩:=bK hown;subst hv;exact a2P n xs A c w (aW.cA hown) hown.1 (yj hown) h1 hl
theorem aH8:(aM.info? 45).map (λi=>(i.zero,i.size,i.bytes))=aC (aC (bU #[aG aF 0,aG aF 0,aG aF 0,aG aF 0,aG aF 0]),5,40):=by kernel_rfl
theorem aDz(n:Nat)(xs:List aN)(A:Option aj)(c:Nat)(w:aJ)(hs:aW w w.heap.size A xs)(nD:aA xs=n*5)(hnil:A=aB->n=0)(h1:∀u∈xs,u.oneCell'=aO)(hl:n<=100000):
 aQ aM 34 #[aH A n c] w (pY 45 5 n xs w):=by
 obtain⟨i0,bu,hz0,hz1,hz2⟩:=dL aH8;have hq:=Ds underlying35;cases A with
 |none=>
  obtain rfl:=hnil rfl;obtain rfl:xs= []:=nO (by omega);go_enter aB2,aBn
  go_wp2
  go_ret;exact⟨_,rfl,gC _ _ _ _,aX _ _⟩
 |some p=>
  have HC:Hid (∀j u,xs[j]? =aC u->∀o:Obj,(w.alloc o).cell? (p.add j)=aC u):=η (λj u hu o=>by obtain⟨b,off,e,hb,hc⟩:=hs j u hu;obtain rfl:=pE e;rw [D3];exact(qg _ _ _ hb).trans hc);have HL:=η nD;have H1:=η h1;go_enter aB2,aBn
  go_wp2_with (at_builtin;refine j9 _ rfl _ _ 35 rfl w.heap.size 45 i0 _ 5 40 underlying35 bu hz0 hz1 hz2 rfl (by decide) _ 0 [] rfl ?c0ev p n c xs rfl HL ?c1ev H1 ?c3ev ?c4ev ?c5ev ?_)
  case c0ev=>exact Dm w _ 5
  case c1ev=>exact λj u hu=>HC j u hu _
  case c3ev=>simp only [bM];omega
  case c4ev=>omega
  case c5ev=>simp
  intro v' w1 hown1 dF _;have cE:=η hown1;have lH:=η dF;go_wp2
  go_ret;refine⟨_,rfl,by simpa using cE.o,σ.grown lH.o (by simp) ?_⟩;grind [dy]
theorem X7:(aM.info? 41).map (λi=>(i.zero,i.size,i.bytes))=aC (aC (bU #[aG aF 0,aG aF 0,aG aF 0,aG aF 0,aG aF 0]),5,40):=by kernel_rfl
theorem aDx(n:Nat)(xs:List aN)(A:Option aj)(c:Nat)(w:aJ)(hs:aW w w.heap.size A xs)(nD:aA xs=n*5)(hnil:A=aB->n=0)(h1:∀u∈xs,u.oneCell'=aO)(hl:n<=100000):
 aQ aM 157 #[aH A n c] w (pY 41 5 n xs w):=by
 obtain⟨i0,bu,hz0,hz1,hz2⟩:=dL X7;have hq:=Ds PH;cases A with
 |none=>
  obtain rfl:=hnil rfl;obtain rfl:xs= []:=nO (by omega);go_enter aAh,aBU
  go_wp2
  go_ret;exact⟨_,rfl,gC _ _ _ _,aX _ _⟩
 |some p=>
  have HC:Hid (∀j u,xs[j]? =aC u->∀o:Obj,(w.alloc o).cell? (p.add j)=aC u):=η (λj u hu o=>by obtain⟨b,off,e,hb,hc⟩:=hs j u hu;obtain rfl:=pE e;rw [D3];exact(qg _ _ _ hb).trans hc);have HL:=η nD;have H1:=η h1;go_enter aAh,aBU
  go_wp2_with (at_builtin;refine j9 _ rfl _ _ 132 rfl w.heap.size 41 i0 _ 5 40 PH bu hz0 hz1 hz2 rfl (by decide) _ 0 [] rfl ?c0bid p n c xs rfl HL ?c1bid H1 ?c3bid ?c4bid ?c5bid ?_)
  case c0bid=>exact Dm w _ 5
  case c1bid=>exact λj u hu=>HC j u hu _
  case c3bid=>simp only [bM];omega
  case c4bid=>omega
  case c5bid=>simp
  intro v' w1 hown1 dF _;have cE:=η hown1;have lH:=η dF;go_wp2
  go_ret;refine⟨_,rfl,by simpa using cE.o,σ.grown lH.o (by simp) ?_⟩;grind [dy]
theorem a2N(n:Nat)(xs:List aN)(v:aN)(base:Nat)(w:aJ)(hown:w.ownsRow base 41 5 v n xs)(h1:∀u∈xs,u.oneCell'=aO)(hl:n<=100000):
 aQ aM 157 #[v] w (pY 41 5 n xs w):=by
 obtain⟨A,c,hv⟩:=bK hown;subst hv;exact aDx n xs A c w (aW.cA hown) hown.1 (yj hown) h1 hl
theorem X8:(aM.info? 188).map (λi=>(i.zero,i.size,i.bytes))=aC (aC (bU #[aG aF 0,aG aF 0,aG aF 0,aG aF 0,aG aF 0]),5,40):=by kernel_rfl
theorem aE0(n:Nat)(xs:List aN)(A:Option aj)(c:Nat)(w:aJ)(hs:aW w w.heap.size A xs)(nD:aA xs=n*5)(hnil:A=aB->n=0)(h1:∀u∈xs,u.oneCell'=aO)(hl:n<=100000):
 aQ aM 181 #[aH A n c] w (pY 188 5 n xs w):=by
 obtain⟨i0,bu,hz0,hz1,hz2⟩:=dL X8;have hq:=Ds PI;cases A with
 |none=>
  obtain rfl:=hnil rfl;obtain rfl:xs= []:=nO (by omega);go_enter aAm,aBZ
  go_wp2
  go_ret;exact⟨_,rfl,gC _ _ _ _,aX _ _⟩
 |some p=>
  have HC:Hid (∀j u,xs[j]? =aC u->∀o:Obj,(w.alloc o).cell? (p.add j)=aC u):=η (λj u hu o=>by obtain⟨b,off,e,hb,hc⟩:=hs j u hu;obtain rfl:=pE e;rw [D3];exact(qg _ _ _ hb).trans hc);have HL:=η nD;have H1:=η h1;go_enter aAm,aBZ
  go_wp2_with (at_builtin;refine j9 _ rfl _ _ 185 rfl w.heap.size 188 i0 _ 5 40 PI bu hz0 hz1 hz2 rfl (by decide) _ 0 [] rfl ?c0hrow p n c xs rfl HL ?c1hrow H1 ?c3hrow ?c4hrow ?c5hrow ?_)
  case c0hrow=>exact Dm w _ 5
  case c1hrow=>exact λj u hu=>HC j u hu _
  case c3hrow=>simp only [bM];omega
  case c4hrow=>omega
  case c5hrow=>simp
  intro v' w1 hown1 dF _;have cE:=η hown1;have lH:=η dF;go_wp2
  go_ret;refine⟨_,rfl,by simpa using cE.o,σ.grown lH.o (by simp) ?_⟩;grind [dy]
theorem a2O(n:Nat)(xs:List aN)(v:aN)(base:Nat)(w:aJ)(hown:w.ownsRow base 188 5 v n xs)(h1:∀u∈xs,u.oneCell'=aO)(hl:n<=100000):
 aQ aM 181 #[v] w (pY 188 5 n xs w):=by
 obtain⟨A,c,hv⟩:=bK hown;subst hv;exact aE0 n xs A c w (aW.cA hown) hown.1 (yj hown) h1 hl
theorem aHB:(aM.info? 67).map (λi=>(i.zero,i.size,i.bytes))=aC (aC (bU #[aG aF 0,aG aF 0]),2,16):=by kernel_rfl
theorem aE2(n:Nat)(xs:List aN)(A:Option aj)(c:Nat)(w:aJ)(hs:aW w w.heap.size A xs)(nD:aA xs=n*2)(hnil:A=aB->n=0)(h1:∀u∈xs,u.oneCell'=aO)(hl:n<=100000):
 aQ aM 81 #[aH A n c] w (pY 67 2 n xs w):=by
 obtain⟨i0,bu,hz0,hz1,hz2⟩:=dL aHB;have hq:=Ds underlying22;cases A with
 |none=>
  obtain rfl:=hnil rfl;obtain rfl:xs= []:=nO (by omega);go_enter aBA,aBx
  go_wp2
  go_ret;exact⟨_,rfl,gC _ _ _ _,aX _ _⟩
 |some p=>
  have HC:Hid (∀j u,xs[j]? =aC u->∀o:Obj,(w.alloc o).cell? (p.add j)=aC u):=η (λj u hu o=>by obtain⟨b,off,e,hb,hc⟩:=hs j u hu;obtain rfl:=pE e;rw [D3];exact(qg _ _ _ hb).trans hc);have HL:=η nD;have H1:=η h1;go_enter aBA,aBx
  go_wp2_with (at_builtin;refine j9 _ rfl _ _ 22 rfl w.heap.size 67 i0 _ 2 16 underlying22 bu hz0 hz1 hz2 rfl (by decide) _ 0 [] rfl ?c0mem p n c xs rfl HL ?c1mem H1 ?c3mem ?c4mem ?c5mem ?_)
  case c0mem=>exact Dm w _ 2
  case c1mem=>exact λj u hu=>HC j u hu _
  case c3mem=>simp only [bM];omega
  case c4mem=>omega
  case c5mem=>simp
  intro v' w1 hown1 dF _;have cE:=η hown1;have lH:=η dF;go_wp2
  go_ret;refine⟨_,rfl,by simpa using cE.o,σ.grown lH.o (by simp) ?_⟩;grind [dy]
theorem aHC:(aM.info? 69).map (λi=>(i.zero,i.size,i.bytes))=aC (aC (bU #[aG aF 0,aG aF 0]),2,16):=by kernel_rfl
theorem aE3(n:Nat)(xs:List aN)(A:Option aj)(c:Nat)(w:aJ)(hs:aW w w.heap.size A xs)(nD:aA xs=n*2)(hnil:A=aB->n=0)(h1:∀u∈xs,u.oneCell'=aO)(hl:n<=100000):
 aQ aM 82 #[aH A n c] w (pY 69 2 n xs w):=by
 obtain⟨i0,bu,hz0,hz1,hz2⟩:=dL aHC;have hq:=Ds underlying23;cases A with
 |none=>
  obtain rfl:=hnil rfl;obtain rfl:xs= []:=nO (by omega);go_enter aBB,aBy
  go_wp2
  go_ret;exact⟨_,rfl,gC _ _ _ _,aX _ _⟩
 |some p=>
  have HC:Hid (∀j u,xs[j]? =aC u->∀o:Obj,(w.alloc o).cell? (p.add j)=aC u):=η (λj u hu o=>by obtain⟨b,off,e,hb,hc⟩:=hs j u hu;obtain rfl:=pE e;rw [D3];exact(qg _ _ _ hb).trans hc);have HL:=η nD;have H1:=η h1;go_enter aBB,aBy
  go_wp2_with (at_builtin;refine j9 _ rfl _ _ 23 rfl w.heap.size 69 i0 _ 2 16 underlying23 bu hz0 hz1 hz2 rfl (by decide) _ 0 [] rfl ?c0sec p n c xs rfl HL ?c1sec H1 ?c3sec ?c4sec ?c5sec ?_)
  case c0sec=>exact Dm w _ 2
  case c1sec=>exact λj u hu=>HC j u hu _
  case c3sec=>simp only [bM];omega
  case c4sec=>omega
  case c5sec=>simp
  intro v' w1 hown1 dF _;have cE:=η hown1;have lH:=η dF;go_wp2
  go_ret;refine⟨_,rfl,by simpa using cE.o,σ.grown lH.o (by simp) ?_⟩;grind [dy]
theorem aH7:(aM.info? 71).map (λi=>(i.zero,i.size,i.bytes))=aC (aC (bU #[aG aF 0,aG aF 0,aG aF 0,aG aF 0]),4,32):=by kernel_rfl
theorem aDy(n:Nat)(xs:List aN)(A:Option aj)(c:Nat)(w:aJ)(hs:aW w w.heap.size A xs)(nD:aA xs=n*4)(hnil:A=aB->n=0)(h1:∀u∈xs,u.oneCell'=aO)(hl:n<=100000):
 aQ aM 83 #[aH A n c] w (pY 71 4 n xs w):=by
 obtain⟨i0,bu,hz0,hz1,hz2⟩:=dL aH7;have hq:=Ds underlying24;cases A with
 |none=>
  obtain rfl:=hnil rfl;obtain rfl:xs= []:=nO (by omega);go_enter aBC,aBz
  go_wp2
  go_ret;exact⟨_,rfl,gC _ _ _ _,aX _ _⟩
 |some p=>
  have HC:Hid (∀j u,xs[j]? =aC u->∀o:Obj,(w.alloc o).cell? (p.add j)=aC u):=η (λj u hu o=>by obtain⟨b,off,e,hb,hc⟩:=hs j u hu;obtain rfl:=pE e;rw [D3];exact(qg _ _ _ hb).trans hc);have HL:=η nD;have H1:=η h1;go_enter aBC,aBz
  go_wp2_with (at_builtin;refine j9 _ rfl _ _ 24 rfl w.heap.size 71 i0 _ 4 32 underlying24 bu hz0 hz1 hz2 rfl (by decide) _ 0 [] rfl ?c0cyc p n c xs rfl HL ?c1cyc H1 ?c3cyc ?c4cyc ?c5cyc ?_)
  case c0cyc=>exact Dm w _ 4
  case c1cyc=>exact λj u hu=>HC j u hu _
  case c3cyc=>simp only [bM];omega
  case c4cyc=>omega
  case c5cyc=>simp
  intro v' w1 hown1 dF _;have cE:=η hown1;have lH:=η dF;go_wp2
  go_ret;refine⟨_,rfl,by simpa using cE.o,σ.grown lH.o (by simp) ?_⟩;grind [dy]
def aAG(M A:Nat)(l:List Int)(po:Int)(w:aJ)(e:dU)(w':aJ):Prop:=
 ∃nb v,e=aT (π nb)/\fD w' nb M A v l po/\w.heap.size<=nb/\(∀k,v.ownBlock=aC k->w.heap.size<=k)/\β w w'
theorem a1p(M A:Nat)(v:aN)(l:List Int)(po:Int)(bb:Nat)(w:aJ)(h:fD w bb M A v l po):
 aQ aM 98 #[π bb] w (aAG M A l po w):=by
 have hM:=h.hM;have hA:=h.hA;have nB:=h.len;have hl:aA l<=100000:=by rw [nB];exact bz (yN hA (show 6+3*M<=54 by omega)) (by omega)
 have c0:=h.c0;have c1:=h.c1;have c2:=h.c2;have c3:=h.c3;have aY:Hid (β w (w.alloc (aK #[ν (M:Int),ν (A:Int),v,ν po] 216))):=η σ;have HC:=η (aDv (aA l) _ v 0 _ (h.below aY.o).own (λu hu=>by obtain⟨y,_,rfl⟩:=dW.1 hu;rfl) (by omega));have c2':=(h.below aY.o).c2;have aGa:=η nB;obtain⟨Av,cv,hv⟩:=bK h.own;subst hv;clear h nB;have b0:(w.alloc (aK #[ν (M:Int),ν (A:Int),aH Av (aA l) cv,ν po] 216)).heap[w.heap.size]? =aC (aK #[ν (M:Int),ν (A:Int),aH Av (aA l) cv,ν po] 216 (0,0)):=cO w _;go_enter func98,ntmps98
 go_wp2_with (go_at_call 158;refine HC.o.mono ?_)
 rintro e w2 ⟨v2,rfl,eR,hb2⟩;have hb:w2.heap[w.heap.size]? =aC (aK #[ν (M:Int),ν (A:Int),aH Av (aA l) cv,ν po] 216 (0,0)):=(hb2.block _ (by simp)).trans b0;have tI:∀k,v2.ownBlock=aC k->w.heap.size+1<=k:=λk hk=>by have:=eT eR k hk;simpa using this
 have aV:Hid (β w w2):=τ aY hb2;have dD:=η eR;have Z3:=η tI;have z2:w2.cell? ⟨w.heap.size,2,aB⟩=aC (aH Av (aA l) cv):=ρ hb;have f2:w2.frozen? ⟨w.heap.size,2,aB⟩=aP:=by grind [iJ]
 have HB:=η hb;obtain⟨A2,Gw,hv2⟩:=bK eR;subst hv2;go_wp2
 go_ret;refine⟨w.heap.size,aH A2 (aA l) Gw,rfl,⟨?_, ?_,aGa.o,hM,hA⟩,aZ _,λk hk=>by have:=Z3.o k hk;omega,aV.o.setCell (p:=⟨w.heap.size,2,aB⟩) (aZ _) _⟩
 ·exact(lf HB.o 2 _).trans rfl
 exact iB (kF dD.o (λe=>by have:=Z3.o _ e;simp at this;omega) _) (bL _)
def Dq(M:Nat)(l:List Int)(x:Nat):List Int:=(l.drop (x*(6+3*M))).take (6+3*M)
theorem aDB(M A:Nat)(hM:M<=16)(MP:1<=A)(hA:A<=9)(w:aJ):
 aQ aM 79 #[ν (M:Int),ν (A:Int)] w λe w'=>∃nb v,e=aT (bB #[π nb,ν 0])/\fD w' nb M A v (gP (A*(6+3*M)) 0) 0/\w.heap.size<=nb/\(∀k,v.ownBlock=aC k->w.heap.size<=k)/\β w w':=by
 have CI:=η (λW=>a2B M hM W);obtain⟨u,hu⟩:∃u:Nat,u=6+3*M:=⟨_,rfl⟩;have vg:u<=54:=by omega
 obtain⟨q,hq⟩:∃q:Nat,q=A*u:=⟨_,rfl⟩;have KH:q<=9*54:=by rw [hq];exact yN hA vg
 have tK:(A:Int)*(u:Int)=(q:Int):=by omega
 have HLEN:Hid ((gP (A*(6+3*M)) (0:Int))=gP q 0):=η (by rw [<-hu,<-hq]);have HQL:Hid (q=A*(6+3*M)):=η (by rw [hq,hu]);rw [<-hu] at CI;rw [HLEN.o];have Da:=XI q (by omega) w;have hM0:(M:Int)<=16:=by omega
 have hA0:¬(A:Int)<1:=by omega
 have hmap:(gP q (0:Int)).map (aG aF)=gP q (aG aF 0):=List.map_replicate;clear hu hq;go_enter func79,ntmps79
 go_wp2_with (go_at_call 146;refine(CI.o _).mono ?_;rintro e w3 ⟨rfl,rfl⟩)
 go_ret2;have rX:(w.alloc (aK (lB q (aG aF 0)) 2)).heap[w.heap.size]? =aC (aK (lB q (aG aF 0)) 2 (0,0)):=cO w _;refine⟨w.heap.size+1,aH (aC ⟨w.heap.size,0,aB⟩) q q,rfl,⟨?_, ?_,by rw [Cl];exact HQL.o,hM,hA⟩,by omega,λk hk=>by grind [dy],σ.alloc (by simp) _⟩
 ·have:=cO (w.alloc (aK (lB q (aG aF 0)) 2)) (aK #[ν (M:Int),ν (A:Int),aH (aC ⟨w.heap.size,0,aB⟩) q q,ν 0] 216);grind [Cz]
 rw [Cl,hmap];refine⟨by simp,aU ⟨w.heap.size,q,lB q (aG aF 0),rfl,bL _, ?_,aZ _,by simp only [bM];omega,by simp,by simp⟩⟩;grind [fF]
def XK:Int:=9223372036854775807
def pS(a b:Int):Int:=if a<=b then 0 else if aL (a-b) then a-b else XK
theorem V7(a b:Int)(ha:aL a)(hb:aL b)(w:aJ):aQ aM 86 #[aG aF a,aG aF b] w λe w'=>e=aT (aG aF (pS a b))/\aa w.heap.size w w':=by
 have HS:=η (λW=>S5 a b W ha hb);by_cases hab:a<=b
 ·have e:pS a b=0:=by grind [pS]
  rw [e];go_enter Ln,Lq
  go_wp2_with fail
  go_ret;exact⟨rfl,aX _ _⟩
 by_cases hd:aL (a-b)
 ·have e:pS a b=a-b:=by grind [pS]
  obtain⟨h1,h2⟩:=eA hd;rw [h1,h2] at HS;rw [e];obtain⟨d,hdd⟩:∃d,d=a-b:=⟨_,rfl⟩;rw [<-hdd] at HS ⊢;clear e hd h1 h2 hdd;go_enter Ln,Lq
  go_wp2_with (go_at_call 148;refine(HS.o _).mono ?_;rintro e w1 ⟨rfl,hb1⟩;have HB:=η hb1;clear hb1)
  go_ret;exact⟨rfl,by rw [<-HB.o];exact aX _ _⟩
 have e:pS a b=XK:=by grind [pS]
 obtain⟨h1,h2⟩:=gp hd;rw [h1,h2] at HS;rw [e];clear e hd h1 h2;go_enter Ln,Lq
 go_wp2_with (go_at_call 148;refine(HS.o _).mono ?_;rintro e w1 ⟨rfl,hb1⟩;have HB:=η hb1;clear hb1)
 go_ret;exact⟨rfl,by rw [<-HB.o];exact aX _ _⟩
theorem xG(w:aJ):aQ aM 61 #[] w λe w'=>e=aT (bU #[aG aF 1,aG aF 0])/\aa w.heap.size w w':=by
 go_enter func61,ntmps61
 go_wp2
 refine bodyPost_ret (by simp [results,results61,go_sem];try rfl) rfl ?_;exact⟨rfl,(aX _ _).alloc (aZ _) _⟩
theorem Ed(m:Int)(w:aJ):aQ aM 49 #[aG aF m] w λe w'=>e=aT (bU #[aG aF 7,aG aF m])/\aa w.heap.size w w':=by
 go_enter func49,ntmps49
 go_wp2
 refine bodyPost_ret (by simp [results,results49,go_sem];try rfl) rfl ?_;exact⟨rfl,(aX _ _).alloc (aZ _) _⟩
theorem za(m:Int)(w:aJ):aQ aM 47 #[aG aF m] w λe w'=>e=aT (bU #[aG aF 8,aG aF m])/\aa w.heap.size w w':=by
 go_enter func47,ntmps47
 go_wp2
 refine bodyPost_ret (by simp [results,results47,go_sem];try rfl) rfl ?_;exact⟨rfl,(aX _ _).alloc (aZ _) _⟩
def kR(a:Int):Int:=if a=0 then 288230376151711744 else 274877906944
theorem aE6(a:Int)(w:aJ):aQ aM 106 #[aG aF a] w λe w'=>e=aT (aG aF (kR a))/\w=w':=by
 by_cases h:a=0
 ·subst h;go_enter aAW,aBJ
  go_wp2
  go_ret;exact⟨rfl,rfl⟩
 have e:kR a=274877906944:=by grind [kR]
 have hb:(a==0)=aP:=by simpa using h
 rw [e];go_enter aAW,aBJ
 go_wp2
 go_ret;exact⟨rfl,rfl⟩
structure Bd where
 s:Int
 m:Int
 c:Int
 q:Int
 p:Int
structure Fi where
 b:Bd
 q:Int
 c:Int
def Bd.cells(x:Bd):List aN:= [aG aF x.s,aG aF x.m,aG aF x.c,aG aF x.q,aG aF x.p]
def Fi.cells(x:Fi):List aN:= [aG aF x.b.s,aG aF x.b.m,aG aF x.b.c,aG aF x.b.q,aG aF x.b.p,aG aF x.q,aG aF x.c]
def nR(l:List Bd):List aN:=l.flatMap Bd.cells
def BR(l:List Fi):List aN:=l.flatMap Fi.cells
theorem a3J {w:aJ} {B:Nat} {A:Option aj} {l:List Fi}(h:aW w B A (BR l)) {k:Nat}(hk:k<aA l):
 ∃b o,A=aC ⟨b,o,aB⟩/\b<B/\w.cell? ⟨b,o+k*7,aB⟩=aC (ν l[k].b.s)/\w.cell? ⟨b,o+k*7+1,aB⟩=aC (ν l[k].b.m)/\w.cell? ⟨b,o+k*7+2,aB⟩=aC (ν l[k].b.c)/\w.cell? ⟨b,o+k*7+3,aB⟩=aC (ν l[k].b.q)/\w.cell? ⟨b,o+k*7+4,aB⟩=aC (ν l[k].b.p)/\w.cell? ⟨b,o+k*7+5,aB⟩=aC (ν l[k].q)/\w.cell? ⟨b,o+k*7+6,aB⟩=aC (ν l[k].c):=by
 obtain⟨b,o,e,hb,hc⟩:=h.run (i:=k*7) (y:=ν l[k].b.s) (t:= [ν l[k].b.m,ν l[k].b.c,ν l[k].b.q,ν l[k].b.p,ν l[k].q,ν l[k].c]) (λj u hu=>uP Fi.cells 7 (λ_=>rfl) l k hk j u hu);exact⟨b,o,e,hb,hc 0 _ rfl,hc 1 _ rfl,hc 2 _ rfl,hc 3 _ rfl,hc 4 _ rfl,hc 5 _ rfl,hc 6 _ rfl⟩
def rS(l:List Fi):Int:=l.foldl (λn x=>fS (n+x.c)) 0
theorem aEN(l:List Fi)(x:Fi):rS (l++ [x])=fS (rS l+x.c):=by simp [rS]
theorem aEO(l:List Fi)(A:Option aj)(c:Nat)(w:aJ)(hs:aW w w.heap.size A (BR l))(hl:aA l<=100000):aQ aM 136 #[aH A (aA l) c] w λe w'=>e=aT (aG aF (rS l))/\aa w.heap.size w w':=by
 have HS:=η hs;have HT:Hid (rS l=rS (l.take (aA l))):=η (by rw [cT]);generalize rS l=R at HT ⊢;go_enter func136,ntmps136
 go_wp2
 go_loopw [3,5,8] (λn _ i wr=>∃k:Nat,k<=aA l/\i=ν (k:Int)/\n=ν (rS (l.take k))/\Hid (β w wr)) (λ_ _ i _=>aA l-(ag i).toNat)
 ·exact⟨0,bL _,rfl,rfl,aX _ _⟩
 ·
  obtain⟨k,hk,rfl,rfl,HB⟩:=hrel;have hsz:=HB.o.size;by_cases hlt:k<aA l
  ·obtain⟨b,o,rfl,hb,e0,e1,e2,e3,e4,e5,e6⟩:=a3J ((HS.o.below HB).mono hsz) hlt;have cG:Hid (rS (l.take (k+1))=fS (rS (l.take k)+l[k].c)):=η (by grind [fE,aEN]);have hkb:(k:Int)<(aA l:Int):=by omega
   generalize l[k]=x at*;generalize rS (l.take k)=n at*;go_wp2
   go_roundw
   ·exact⟨k+1,by omega,by go_num,by rw [cG.o],HB.o.alloc hsz _⟩
   simp [ag];omega
  obtain rfl:k=aA l:=by omega
  go_wp2
  go_ret;exact⟨by rw [HT.o];rfl,HB⟩
section
structure jA(w:aJ)(xb:Nat)(x:ak)(v:aN)(L:List Bd):Prop where
 blk:w.heap[xb]? =aC (aK #[aH x.Am (aA x.ms) x.cm,aH x.As (aA x.ss) x.cs,aH x.Ac (aA x.cy) x.cc,ν x.line,ν x.bV,ν x.lead,ν x.tr,ν x.bQ,v] 134 (0,0))
 own:w.ownsRow 0 41 5 v (aA L) (nR L)
section
variable {w w':aJ} {xb:Nat} {x:ak} {v:aN} {L:List Bd}
theorem jA.lt(h:jA w xb x v L):xb<w.heap.size:=(fW.1 h.blk).1
theorem jA.below(h:jA w xb x v L)(hb:aa w.heap.size w w'):jA w' xb x v L:=by have hg:w.grownBy w' aB:=⟨hb.os,hb.tape,hb.output,hb.size,λi hi _=>hb.block i hi⟩;exact⟨(hb.block _ h.lt).trans h.blk,h.own.kept hg (by grind)⟩
theorem jA.c8(h:jA w xb x v L):w.cell? ⟨xb,8,aB⟩=aC v:=bH _ _ _ _ _ (0,0) h.blk
theorem jA.ne(h:jA w xb x v L):v.ownBlock≠aC xb:=by
 rcases h.own.2 with⟨rfl,_⟩|⟨g,cap,cur,rfl,_,hh,_⟩
 ·simp [dy]
 intro e;have e':g=xb:=by grind [dy]
 subst e';rw [h.blk] at hh;grind
end
theorem a1q(L:List Bd):∀u∈nR L,u.oneCell'=aO:=by intro u hu;unfold nR at hu;obtain⟨x,_,hx⟩:=List.mem_flatMap.1 hu;simp [Bd.cells] at hx;rcases hx with rfl|rfl|rfl|rfl|rfl<;>rfl
theorem aM2(x:ak)(v:aN)(L:List Bd)(xb:Nat)(w:aJ)(h:jA w xb x v L)(hl:aA L<=100000):
 aQ aM 193 #[π xb] w (pY 41 5 (aA L) (nR L) w):=by
 have c8:=h.c8;have HC:=η (a2N (aA L) (nR L) v 0 w h.own (a1q L) hl);obtain⟨A,c,hv⟩:=bK h.own;subst hv;go_enter func193,ntmps193
 go_wp2_with (go_at_call 157;refine HC.o.mono ?_)
 rintro e w2 ⟨v2,rfl,eR,hb2⟩;have HO:=η eR;have HB:=η hb2;go_wp2
 go_ret;exact⟨v2,rfl,HO,HB⟩
theorem aM3(x:ak)(v:aN)(L:List Bd)(xb:Nat)(w:aJ)(h:jA w xb x v L):
 aQ aM 77 #[π xb] w λe w'=>e=aT (ν (aA L:Int))/\w'=w.setCell ⟨xb,8,aB⟩ (aH aB 0 0)/\jA w' xb x (aH aB 0 0) []:=by
 have c8:=h.c8;have f8:w.frozen? ⟨xb,8,aB⟩=aP:=by simp [iJ,h.blk]
 have H:=η h;obtain⟨A,c,hv⟩:=bK h.own;subst hv;go_enter func77,ntmps77
 go_wp2
 go_ret;exact⟨rfl,rfl,(lf H.o.blk 8 _).trans rfl,gC _ _ _ _⟩
def aAI(x:ak)(L:List Bd)(w:aJ)(e:dU)(w':aJ):Prop:=
 ∃nb v,e=aT (π nb)/\jA w' nb x v L/\w.heap.size<=nb/\(∀k,v.ownBlock=aC k->w.heap.size<=k)/\β w w'
theorem aM4(x:ak)(v:aN)(L:List Bd)(xb:Nat)(w:aJ)(h:jA w xb x v L)(hl:aA L<=100000):
 aQ aM 95 #[π xb] w (aAI x L w):=by
 have HC:=η (λW hW=>a2N (aA L) (nR L) v 0 W (h.below hW).own (a1q L) hl);obtain⟨A,c,hv⟩:=bK h.own;subst hv;have bO:Hid (∀W,β w W->W.cell? ⟨xb,0,aB⟩=aC (aH x.Am (aA x.ms) x.cm)/\W.cell? ⟨xb,1,aB⟩=aC (aH x.As (aA x.ss) x.cs)/\W.cell? ⟨xb,2,aB⟩=aC (aH x.Ac (aA x.cy) x.cc)/\W.cell? ⟨xb,3,aB⟩=aC (ν x.line)/\W.cell? ⟨xb,4,aB⟩=aC (ν x.bV)/\W.cell? ⟨xb,5,aB⟩=aC (ν x.lead)/\W.cell? ⟨xb,6,aB⟩=aC (ν x.tr)/\W.cell? ⟨xb,7,aB⟩=aC (ν x.bQ)/\W.cell? ⟨xb,8,aB⟩=aC (aH A (aA L) c)):=η (by intro W hW;have hb:=(h.below hW).blk;exact⟨ρ hb,ρ hb,ρ hb,ρ hb,ρ hb,ρ hb,ρ hb,ρ hb,ρ hb⟩);go_enter func95,ntmps95
 go_wp2
 have bP:β w w.drew:=(aX _ _).drew;go_region_held3 (λW=>W.cell? ⟨xb,0,aB⟩=aC (aH x.Am (aA x.ms) x.cm)/\W.cell? ⟨xb,1,aB⟩=aC (aH x.As (aA x.ss) x.cs)/\W.cell? ⟨xb,2,aB⟩=aC (aH x.Ac (aA x.cy) x.cc)/\W.cell? ⟨xb,3,aB⟩=aC (ν x.line)/\W.cell? ⟨xb,4,aB⟩=aC (ν x.bV)/\W.cell? ⟨xb,5,aB⟩=aC (ν x.lead)/\W.cell? ⟨xb,6,aB⟩=aC (ν x.tr)/\W.cell? ⟨xb,7,aB⟩=aC (ν x.bQ)/\W.cell? ⟨xb,8,aB⟩=aC (aH A (aA L) c)) (first|(with_reducible exact bO.o _ bP)|(with_reducible exact bO.o _ hb2)|(with_reducible exact bO.o _ hb3)) ((go_at_call 157;refine(HC.o _ bP).mono ?_;rintro e w2 ⟨v2,rfl,eR,vR⟩;have hb2:β w w2:=bP.trans (vR.mono bP.size);obtain⟨A2,c2,hv2⟩:=bK eR;subst hv2;have hb3:=hb2.alloc hb2.size (aK #[aH x.Am (aA x.ms) x.cm,aH x.As (aA x.ss) x.cs,aH x.Ac (aA x.cy) x.cc,ν x.line,ν x.bV,ν x.lead,ν x.tr,ν x.bQ,aH A2 (aA L) c2] 134)))
 have HO:=η eR;have HB:=η hb2;have af:=η hb3;go_wp2
 go_ret;refine⟨w2.heap.size,aH A2 (aA L) c2,rfl,⟨cO w2 _,iB (HO.o.alloc _) (bL _)⟩,HB.o.size,λk hk=>eT HO.o k hk,af.o⟩
end
section
structure Hr where
 i:Int
 s:Int
 m:Int
 a:Int
 n:Int
def Hr.cells(x:Hr):List aN:= [aG aF x.i,aG aF x.s,aG aF x.m,aG aF x.a,aG aF x.n]
def rq(l:List Hr):List aN:=l.flatMap Hr.cells
theorem Wl(L:List Hr):∀u∈rq L,u.oneCell'=aO:=by intro u hu;unfold rq at hu;obtain⟨x,_,hx⟩:=List.mem_flatMap.1 hu;simp [Hr.cells] at hx;rcases hx with rfl|rfl|rfl|rfl|rfl<;>rfl
structure jE(w:aJ)(tb:Nat)(room:Int)(v:aN)(L:List Hr):Prop where
 blk:w.heap[tb]? =aC (aK #[ν room,v] 218 (0,0))
 own:w.ownsRow 0 188 5 v (aA L) (rq L)
section
variable {w w':aJ} {tb:Nat} {room:Int} {v:aN} {L:List Hr}
theorem jE.lt(h:jE w tb room v L):tb<w.heap.size:=(fW.1 h.blk).1
theorem jE.below(h:jE w tb room v L)(hb:aa w.heap.size w w'):jE w' tb room v L:=by have hg:w.grownBy w' aB:=⟨hb.os,hb.tape,hb.output,hb.size,λi hi _=>hb.block i hi⟩;exact⟨(hb.block _ h.lt).trans h.blk,h.own.kept hg (by grind)⟩
theorem jE.c0(h:jE w tb room v L):w.cell? ⟨tb,0,aB⟩=aC (aG aF room):=bH _ _ _ _ _ (0,0) h.blk
theorem jE.c1(h:jE w tb room v L):w.cell? ⟨tb,1,aB⟩=aC v:=bH _ _ _ _ _ (0,0) h.blk
end
theorem aLK(room:Int)(v:aN)(L:List Hr)(tb:Nat)(w:aJ)(h:jE w tb room v L)(hr:0<=room/\room<=1000000000)(hl:aA L<=100000):
 aQ aM 114 #[π tb] w λe w'=>e=aT (ν (room-aA L))/\β w w':=by
 have c0:=h.c0;have c1:=h.c1;obtain⟨A,c,hv⟩:=bK h.own;subst hv;have hw:fS (room-aA L)=room-aA L:=by unfold fS;omega
 go_enter func114,ntmps114
 go_wp2
 go_quiet (fail)
 go_wp2
 go_ret;exact⟨rfl,below_drewN (aX _ _) nq⟩
theorem a8H(room:Int)(v:aN)(L:List Hr)(tb:Nat)(w:aJ)(h:jE w tb room v L)(hl:aA L<=100000):
 aQ aM 125 #[π tb] w (pY 188 5 (aA L) (rq L) w):=by
 have c1:=h.c1;have HC:=η (a2O (aA L) (rq L) v 0 w h.own (Wl L) hl);obtain⟨A,c,hv⟩:=bK h.own;subst hv;go_enter func125,ntmps125
 go_wp2_with (go_at_call 181;refine HC.o.mono ?_)
 rintro e w2 ⟨v2,rfl,eR,hb2⟩;have HO:=η eR;have HB:=η hb2;go_wp2
 go_ret;exact⟨v2,rfl,HO,HB⟩
def a0N(room:Int)(L:List Hr)(w:aJ)(e:dU)(w':aJ):Prop:=
 ∃nb v,e=aT (π nb)/\jE w' nb room v L/\w.heap.size<=nb/\(∀k,v.ownBlock=aC k->w.heap.size<=k)/\β w w'
theorem aLL(room:Int)(w:aJ)(hr:0<=room):
 aQ aM 80 #[ν room] w (a0N room [] w):=by
 have hm:max room 0=room:=by omega
 go_enter func80,ntmps80
 go_wp2
 go_ret;refine⟨w.heap.size,aH aB 0 0,rfl,⟨?_,gC _ _ _ _⟩,aZ _,λk hk=>by grind [dy],(aX _ _).alloc (aZ _) _⟩;rw [cO]
theorem aLD(room:Int)(v:aN)(L:List Hr)(tb:Nat)(w:aJ)(h:jE w tb room v L)(hl:aA L<=100000):
 aQ aM 156 #[π tb] w (a0N room L w):=by
 have HC:=η (λW hW=>a2O (aA L) (rq L) v 0 W (h.below hW).own (Wl L) hl);obtain⟨A,c,hv⟩:=bK h.own;subst hv;have bO:Hid (∀W,β w W->W.cell? ⟨tb,0,aB⟩=aC (ν room)/\W.cell? ⟨tb,1,aB⟩=aC (aH A (aA L) c)):=η (by intro W hW;exact⟨(h.below hW).c0,(h.below hW).c1⟩);go_enter func156,ntmps156
 go_wp2
 have bP:β w w.drew:=(aX _ _).drew;go_region_held3 (λW=>W.cell? ⟨tb,0,aB⟩=aC (ν room)/\W.cell? ⟨tb,1,aB⟩=aC (aH A (aA L) c)) (first|(with_reducible exact bO.o _ bP)|(with_reducible exact bO.o _ hb2)|(with_reducible exact bO.o _ hb3)) ((go_at_call 181;refine(HC.o _ bP).mono ?_;rintro e w2 ⟨v2,rfl,eR,vR⟩;have hb2:β w w2:=bP.trans (vR.mono bP.size);obtain⟨A2,c2,hv2⟩:=bK eR;subst hv2;have hb3:=hb2.alloc hb2.size (aK #[ν room,aH A2 (aA L) c2] 218)))
 have HO:=η eR;have HB:=η hb2;have af:=η hb3;go_wp2
 go_ret;refine⟨w2.heap.size,aH A2 (aA L) c2,rfl,⟨cO w2 _,iB (HO.o.alloc _) (bL _)⟩,HB.o.size,λk hk=>eT HO.o k hk,af.o⟩
end
def ky(M A:Nat)(q:Int×Int×Int):Option Nat:=plcA M A q.1 q.2.1 q.2.2
def kf(M A:Nat)(l:List Int)(q:Int×Int×Int):Int:=balA M A l q.1 q.2.1 q.2.2
def fA(es:List En)(q:Int×Int×Int):Int:=sumI (gu es q)
structure Ch where
 p:Int
 f:Bool
 b:Int
 n:Int
def Ch.cells(x:Ch):List aN:= [aG aF x.p,bJ x.f,aG aF x.b,aG aF x.n]
def BN(l:List Ch):List aN:=l.flatMap Ch.cells
theorem aDP(l:List Ch)(x:Ch):BN (l++ [x])=BN l++x.cells:=by simp [BN]
theorem a2E {w:aJ} {B:Nat} {A:Option aj} {l:List Ch}(h:aW w B A (BN l)) {k:Nat}(hk:k<aA l):
 ∃b o,A=aC ⟨b,o,aB⟩/\b<B/\w.cell? ⟨b,o+k*4,aB⟩=aC (ν l[k].p)/\w.cell? ⟨b,o+k*4+1,aB⟩=aC (bJ l[k].f)/\w.cell? ⟨b,o+k*4+2,aB⟩=aC (ν l[k].b)/\w.cell? ⟨b,o+k*4+3,aB⟩=aC (ν l[k].n):=by
 obtain⟨b,o,e,hb,hc⟩:=h.run (i:=k*4) (y:=ν l[k].p) (t:= [bJ l[k].f,ν l[k].b,ν l[k].n]) (λj u hu=>uP Ch.cells 4 (λ_=>rfl) l k hk j u hu);exact⟨b,o,e,hb,hc 0 _ rfl,hc 1 _ rfl,hc 2 _ rfl,hc 3 _ rfl⟩
def jx(M A:Nat)(l:List Int)(es:List En)(q:Int×Int×Int):Ch:=⟨((ky M A q).getD 0:Nat),tH q.1,fA es q,kf M A l q+fA es q⟩
def yi(M A:Nat)(l:List Int)(es:List En)(q:Int×Int×Int):Bool:=dM (fA es q) !=0||dM (kf M A l q+fA es q) !=0
def jT(M A:Nat)(l:List Int)(es:List En):Int:=
 if 1024<(aA es) then 6 else if es.any (λx=>(ky M A x.spot).isNone)=aO then 8 else if (dQ 9).any (λi=>sumI (gq es i) !=0)=aO then 17
 else if (dB es).any (yi M A l es)=aO then 2 else 0
def rU(x:Ch):Bool:= !x.f&&decide (x.b<0)&&decide (x.n<0)
def kg(M A:Nat)(l:List Int)(es:List En):List Ch:=(dB es).map (jx M A l es)
def l7(l:List Int)(c:List Ch):List Int:=c.foldl (λl x=>l.set x.p.toNat x.n) l
def kD(M A:Nat)(l:List Int)(es:List En):List Int:=l7 l (kg M A l es)
def nT(M A:Nat)(l:List Int)(es:List En):Int:=if jT M A l es≠0 then jT M A l es else if (kg M A l es).any rU=aO then 13 else 0
theorem a6c(l:List Int)(c:List Ch):aA (l7 l c)=aA l:=by
 unfold l7;induction c generalizing l with
 |nil=>rfl
 |cons x c ih=>grind
theorem aJg(l:List Int)(c:List Ch)(x:Ch):l7 l (c++ [x])=(l7 l c).set x.p.toNat x.n:=by simp [l7]
theorem aIH(M A:Nat)(l:List Int)(es:List En):aA (kD M A l es)=aA l:=a6c _ _
def iL(h:List Hr)(k m a:Int):Int:=h.foldl (λn r=>if r.s==k&&r.m==m&&r.a==a then fS (n+r.n) else n) 0
theorem aGM(h:List Hr)(r:Hr)(k m a:Int):iL (h++ [r]) k m a=if r.s==k&&r.m==m&&r.a==a then fS (iL h k m a+r.n) else iL h k m a:=by simp [iL]
def s8(M A:Nat)(l l':List Int)(h:List Hr)(x:En):Bool:= !tH x.k&&decide (kf M A l' x.spot<kf M A l x.spot)&&decide (kf M A l' x.spot<iL h x.k x.m x.a)
def lV(M A:Nat)(l:List Int)(h:List Hr)(es:List En):Int:=if nT M A l es≠0 then nT M A l es else if es.any (s8 M A l (kD M A l es) h)=aO then 13 else 0
theorem aIN {M:Nat} {k m k' m':Int} {n:Nat}(h:jn M k m=aC n)(h':jn M k' m'=aC n):k=k'/\m=m':=by grind [jn]
theorem Xg {M A:Nat} {k m a:Int} {n:Nat}(h:plcA M A k m a=aC n):∃j,jn M k m=aC j/\j<6+3*M/\0<=a/\a<(A:Int)/\n=a.toNat*(6+3*M)+j:=by grind [plcA,jn]
theorem a2k {S a b i j:Nat}(hi:i<S)(hj:j<S)(h:a*S+i=b*S+j):a=b/\i=j:=by
 have h1:(a*S+i) % S=(b*S+j) % S:=by rw [h]
 rw [aA7,aA8,aA7 (b*S),aA8,aAB hi,aAB hj] at h1;subst h1;have h2:a*S=b*S:=by omega
 exact⟨Nat.eq_of_mul_eq_mul_right (by omega) h2,rfl⟩
theorem aJQ {M A:Nat} {k m a k' m' a':Int} {n:Nat}(h:plcA M A k m a=aC n)(h':plcA M A k' m' a'=aC n):k=k'/\m=m'/\a=a':=by obtain⟨j,h1,h2,h3,h4,h5⟩:=Xg h;obtain⟨j',uQ,uR,Hk,h4',h5'⟩:=Xg h';obtain⟨e1,rfl⟩:=a2k h2 uR (h5.symm.trans h5');grind [aIN]
theorem a6V {M A:Nat} {q q':Int×Int×Int} {n:Nat}(h:ky M A q=aC n)(h':ky M A q'=aC n):q=q':=by obtain⟨k,m,a⟩:=q;obtain⟨k',m',a'⟩:=q';obtain⟨rfl,rfl,rfl⟩:=aJQ h h';rfl
theorem KT {es:List En} {q:Int×Int×Int}:q∈dB es↔∃x∈es,x.spot=q:=by
 suffices h:∀n (es:List En),aA es=n->(q∈dB es↔∃x∈es,x.spot=q) from h _ es rfl
 intro n;induction n with
 |zero=>
  grind [dB,ordF]
 |succ n ih=>
  intro es h;rcases Oy es with rfl|⟨l,x,rfl⟩
  ·cases h
  rw [Ox] at h ⊢;rw [RZ,gJ,ih l (by simpa using h)];constructor
  ·grind
  rintro⟨y,hy,e⟩;rcases gJ.1 hy with hy|hy
  ·grind
  obtain rfl:=List.mem_singleton.1 hy;by_cases hx:(gu l y.spot).isEmpty=aO
  ·grind
  left;have mV:gu l y.spot≠ []:=by grind
  obtain⟨u,hu⟩:=List.exists_mem_of_ne_nil _ mV;grind [gu]
theorem a6E(es:List En):(dB es).Nodup:=by
 suffices h:∀n (es:List En),aA es=n->(dB es).Nodup from h _ es rfl
 intro n;induction n with
 |zero=>
  grind [dB,ordF]
 |succ n ih=>
  intro es h;rcases Oy es with rfl|⟨l,x,rfl⟩
  ·cases h
  rw [Ox] at h ⊢;rw [RZ];by_cases hx:(gu l x.spot).isEmpty=aO
  ·rw [ifP hx,List.nodup_append];refine⟨ih l (by simpa using h),by simp, ?_⟩;intro a ha b hb e;obtain rfl:=List.mem_singleton.1 hb;subst e;obtain⟨y,hy,e⟩:=KT.1 ha;have:y.n∈gu l x.spot:=by
    grind [gu]
   grind
  grind
theorem aDK {es:List En} {q:Int×Int×Int}(h:q∉dB es):gu es q= []:=by grind [gu,List.filter_eq_nil_iff,KT]
theorem YL {es:List En} {q:Int×Int×Int}(h:q∉dB es):fA es q=0:=by unfold fA;rw [aDK h];rfl
theorem aN4(l:List Int)(i j:Nat)(v:Int)(hi:i<aA l):(l.set i v).getD j 0=if i=j then v else l.getD j 0:=by grind
theorem a6b(M A:Nat)(l:List Int)(es:List En)(q':Int×Int×Int)(n':Nat)(hq':ky M A q'=aC n'):∀(qs:List (Int×Int×Int)) (acc:List Int),aA acc=A*(6+3*M)->(∀q∈qs,∃n,ky M A q=aC n)->(l7 acc (qs.map (jx M A l es))).getD n' 0=if q'∈qs then kf M A l q'+fA es q' else acc.getD n' 0
 | [],acc,_,_=>by simp [l7]
 |q::qs,acc,hlen,hp=>by
  obtain⟨n,hn⟩:=hp q (by simp);have hlt:n<aA acc:=by rw [hlen];exact NZ hn
  have hch:(jx M A l es q).p.toNat=n:=by simp [jx,hn]
  have ih:=a6b M A l es q' n' hq' qs (acc.set n (jx M A l es q).n) (by grind) (λq hq=>hp q (dh _ hq));grind [l7,jx,a6V]
structure xt(M A:Nat)(l:List Int)(es:List En):Prop where
 len:aA es<=1024
 NY:∀x∈es,∃n,ky M A x.spot=aC n
 zero:∀i,i<9->sumI (gq es i)=0
 ovr:∀q∈dB es,aL (fA es q)/\aL (kf M A l q+fA es q)
theorem aDf {M A:Nat} {l:List Int} {es:List En}(h:jT M A l es=0):xt M A l es:=by
 unfold jT at h;split at h
 ·cases h
 rename_i h1;split at h
 ·cases h
 rename_i h2;split at h
 ·cases h
 rename_i h3;split at h
 ·cases h
 rename_i h4;refine⟨by omega, ?_, ?_, ?_⟩
 ·intro x hx;cases hp:ky M A x.spot with
  |some n=>exact⟨n,rfl⟩
  |none=>grind
 ·grind
 grind [yi,dM]
theorem a2G {M A:Nat} {l:List Int} {es:List En}(h:xt M A l es):jT M A l es=0:=by
 unfold jT;rw [ifN (by have:=h.len;omega),ifN,ifN,ifN]
 ·intro ha;obtain⟨q,hq,hb⟩:=jv.1 ha;obtain⟨h1,h2⟩:=h.ovr q hq;unfold yi at hb;rw [(eA h1).2,(eA h2).2] at hb;grind
 ·intro ha;obtain⟨i,hi,hb⟩:=jv.1 ha;rw [h.zero i (nP.1 hi)] at hb;grind
 intro ha;obtain⟨x,hx,hb⟩:=jv.1 ha;obtain⟨n,hn⟩:=h.NY x hx;rw [hn] at hb;cases hb
theorem xt.spot {M A:Nat} {l:List Int} {es:List En}(h:xt M A l es):∀q∈dB es,∃n,ky M A q=aC n:=by intro q hq;obtain⟨x,hx,rfl⟩:=KT.1 hq;exact h.NY x hx
theorem aCx {M A:Nat} {l:List Int} {q:Int×Int×Int} {n:Nat}(h:ky M A q=aC n):kf M A l q=l.getD n 0:=by obtain⟨k,m,a⟩:=q;have h':plcA M A k m a=aC n:=h;grind [kf,balA]
theorem KU {M A:Nat} {l:List Int} {es:List En}(hl:aA l=A*(6+3*M))(h:xt M A l es) {q:Int×Int×Int} {n:Nat}(hn:ky M A q=aC n):kf M A (kD M A l es) q=kf M A l q+fA es q:=by have:=a6b M A l es q n hn (dB es) l hl h.spot;grind [aCx,kD,kg,YL]
theorem a7k:∀(l:List Int) (i:Nat) (v:Int),i<aA l->sumI (l.set i v)=sumI l+(v-l.getD i 0)
 | [],i,_,h=>by simp at h
 |a::l,0,v,_=>by simp [sumI];omega
 |a::l,i+1,v,h=>by have:=a7k l i v (by simpa using h);grind [sumI]
theorem aKA {M A:Nat}(l:List Int)(a j x:Nat)(v:Int)(hl:aA l=A*(6+3*M))(ha:a<A)(hj:j<6+3*M):sumI (Dq M (l.set (a*(6+3*M)+j) v) x)=sumI (Dq M l x)+if a=x then v-l.getD (a*(6+3*M)+j) 0 else 0:=by
 have hlt:(a+1)*(6+3*M)<=A*(6+3*M):=GX _ ha;rw [Nat.succ_mul] at hlt;unfold Dq;by_cases h:a=x
 ·grind [List.drop_set,List.take_set,a7k]
 rw [ifN h,Int.add_zero];congr 1;apply List.ext_getElem?;intro i;simp only [List.getElem?_take,List.getElem?_drop,List.getElem?_set];by_cases hi:i<6+3*M
 ·rw [ifP hi,ifP hi,ifN];intro e;obtain⟨e1,_⟩:=a2k hj hi e;exact h e1
 grind
def wD(es:List En)(qs:List (Int×Int×Int))(a:Nat):Int:=sumI ((qs.filter λq=>q.2.2==(a:Int)).map (fA es))
theorem YK(es:List En)(q:Int×Int×Int)(qs:List (Int×Int×Int))(a:Nat):wD es (q::qs) a=(if q.2.2=(a:Int) then fA es q else 0)+wD es qs a:=by
 unfold wD;rw [List.filter_cons];by_cases h:q.2.2=(a:Int)
 ·rw [ifP h,ifP (by simpa using h)];rfl
 grind
theorem a6d(M A:Nat)(l:List Int)(es:List En)(x:Nat):∀(qs:List (Int×Int×Int)) (acc:List Int),aA acc=A*(6+3*M)->qs.Nodup->(∀q∈qs,∃n,ky M A q=aC n/\acc.getD n 0=kf M A l q)->sumI (Dq M (l7 acc (qs.map (jx M A l es))) x)=sumI (Dq M acc x)+wD es qs x
 | [],acc,_,_,_=>by grind [l7,wD,sumI]
 |q::qs,acc,hlen,vZ,hp=>by
  obtain⟨n,hn,hv⟩:=hp q (by simp);have hch:(jx M A l es q).p.toNat=n:=by simp [jx,hn]
  have hlt:n<aA acc:=by rw [hlen];exact NZ hn
  obtain⟨tO,ve⟩:=aA2.1 vZ;have e:l7 acc ((q::qs).map (jx M A l es))=l7 (acc.set n (jx M A l es q).n) (qs.map (jx M A l es)):=by grind [l7]
  have ih:=a6d M A l es x qs (acc.set n (jx M A l es q).n) (by grind) ve (λq2 h2=>by grind [a6V]);obtain⟨j,h1,h2,h3,h4,h5⟩:=Xg hn;rw [e,ih,YK];have hr:=aKA acc q.2.2.toNat j x (jx M A l es q).n hlen (by omega) h2;grind [jx]
theorem Im(l:List En)(x:En)(q:Int×Int×Int):fA (l++ [x]) q=fA l q+if q=x.spot then x.n else 0:=by
 unfold fA;rw [a1z];by_cases h:q=x.spot
 ·rw [ifP h,ifP h,Np];simp [sumI]
 grind
theorem a7s(l:List En)(x:En)(a:Nat):∀qs:List (Int×Int×Int),qs.Nodup->wD (l++ [x]) qs a=wD l qs a+if x.spot∈qs/\x.a=(a:Int) then x.n else 0
 | [],_=>by simp [wD,sumI]
 |q::qs,vZ=>by
  obtain⟨h1,h2⟩:=aA2.1 vZ;rw [YK,YK,a7s l x a qs h2,Im];by_cases hq:q=x.spot
  ·subst hq;have e:x.spot.2.2=x.a:=rfl;grind
  grind
theorem aKz(es:List En)(a:Nat):wD es (dB es) a=sumI (gq es a):=by
 suffices h:∀n (es:List En),aA es=n->wD es (dB es) a=sumI (gq es a) from h _ es rfl
 intro n;induction n with
 |zero=>
  grind [dB,ordF,wD,gq]
 |succ n ih=>
  intro es h;rcases Oy es with rfl|⟨l,x,rfl⟩
  ·cases h
  rw [Ox] at h ⊢;rw [a7s _ _ _ _ (a6E _)];have hi:=ih l (by simpa using h);have hs:sumI (gq (l++ [x]) a)=sumI (gq l a)+if x.a=(a:Int) then x.n else 0:=by
   rw [a1w];by_cases hx:x.a=(a:Int)
   ·rw [ifP hx,ifP hx,Np];simp [sumI]
   grind
  have hm:x.spot∈dB (l++ [x]):=KT.2 ⟨x,by simp,rfl⟩;have hq:wD l (dB (l++ [x])) a=wD l (dB l) a:=by
   rw [RZ];by_cases hx:(gu l x.spot).isEmpty=aO
   ·rw [ifP hx];unfold wD;rw [List.filter_append,df,Np,List.filter_cons];grind [fA,sumI]
   grind
  grind
theorem aII {M A:Nat} {l:List Int} {es:List En}(hl:aA l=A*(6+3*M))(h:xt M A l es) {a:Nat}(ha:a<9):sumI (Dq M (kD M A l es) a)=sumI (Dq M l a):=by have h1:=a6d M A l es a (dB es) l hl (a6E _) (λq hq=>by obtain⟨n,hn⟩:=h.spot q hq;refine⟨n,hn, ?_⟩;obtain⟨k,m,b⟩:=q;have KC:plcA M A k m b=aC n:=hn;grind [kf,balA]);unfold kD kg;rw [h1,aKz,h.zero a ha,Int.add_zero]
section
open Go.Maps Go.MapKept Go.ChangeMaps
section
variable {κ:Type} [BEq κ]
def getM(q:κ):List (κ×aN)->Option aN
 | []=>aB
 |p::m=>if p.1==q then aC p.2 else getM q m
def eJ(q:κ)(v:aN):List (κ×aN)->List (κ×aN)
 | []=> [(q,v)]
 |p::m=>if p.1==q then (q,v)::m else p::eJ q v m
def wF(m:List (κ×aN)):Prop:=m.Pairwise λp q=>p.1≠q.1
theorem a6g {q:κ} {v:aN} {x:κ×aN}:∀ {m:List (κ×aN)},x∈eJ q v m->x=(q,v)\/x∈m
 | [],h=>by grind [eJ]
 |p::m,h=>by
  unfold eJ at h;split at h
  ·grind
  rcases fC.1 h with h|h
  ·grind
  exact(a6g h).imp id λh=>dh _ h
variable [LawfulBEq κ]
theorem getM_none {q:κ}:∀ {m:List (κ×aN)},(∀p∈m,p.1≠q)->getM q m=aB
 | [],_=>rfl
 |p::m,h=>by unfold getM;rw [ifN (by grind)];exact getM_none λx hx=>h x (dh _ hx)
theorem Xm {q:κ}(v:aN):∀ {m:List (κ×aN)},(∀p∈m,p.1≠q)->eJ q v m=m++ [(q,v)]
 | [],_=>rfl
 |p::m,h=>by unfold eJ;rw [ifN (by grind),Xm v λx hx=>h x (dh _ hx)];rfl
theorem getM_some {q:κ} {v0:aN}:∀ {m:List (κ×aN)} {j:Nat},wF m->m[j]? =aC (q,v0)->getM q m=aC v0
 | [],_,_,h=>by simp at h
 |p::m,0,_,h=>by grind [getM]
 |p::m,j+1,ha,h=>by obtain⟨h1,h2⟩:=kX.1 ha;have hm:=zQ (by simpa using h);unfold getM;rw [ifN (by simpa using h1 _ hm)];exact getM_some h2 (by simpa using h)
theorem Xn {q:κ} {v0:aN}(v:aN):∀ {m:List (κ×aN)} {j:Nat},wF m->m[j]? =aC (q,v0)->eJ q v m=m.set j (q,v)
 | [],_,_,h=>by simp at h
 |p::m,0,_,h=>by grind [eJ]
 |p::m,j+1,ha,h=>by obtain⟨h1,h2⟩:=kX.1 ha;have hm:=zQ (by simpa using h);unfold eJ;rw [ifN (by simpa using h1 _ hm),Xn v h2 (by simpa using h)];rfl
theorem wF.put {q:κ} {v:aN}:∀ {m:List (κ×aN)},wF m->wF (eJ q v m)
 | [],_=>by simp [eJ,wF]
 |p::m,ha=>by
  obtain⟨h1,h2⟩:=kX.1 ha;unfold eJ;split
  ·rename_i hc;have e:p.1=q:=by simpa using hc
   exact kX.2 ⟨λx hx=>by grind,h2⟩
  rename_i hc;refine kX.2 ⟨λx hx=> ?_,wF.put h2⟩;rcases a6g hx with rfl|hx
  ·simpa using hc
  exact h1 x hx
theorem a3Y(q:κ)(v:aN):∀m:List (κ×aN),getM q (eJ q v m)=aC v
 | []=>by simp [eJ,getM]
 |p::m=>by
  unfold eJ;split
  ·simp [getM]
  rename_i hc;unfold getM;rw [ifN hc,a3Y q v m]
theorem a3X {q q':κ}(h:q≠q')(v:aN):∀m:List (κ×aN),getM q' (eJ q v m)=getM q' m
 | []=>by simp [eJ,getM,h]
 |p::m=>by
  unfold eJ;split
  ·grind [getM]
  unfold getM;rw [a3X h v m]
end
section
variable {κ:Type} {P:Program} {k:bY} {enc:κ->aN}
structure eX(P:Program)(k:bY)(enc:κ->aN)(w:aJ)(b:Nat)(m:List (κ×aN)):Prop where
 blk:∃es clock,w.heap[b]? =aC (.map es clock)/\es.toList.map (λe=>(e.key,e.val))=m.map λp=>(enc p.1,p.2)
 apart:wF m
structure CE(P:Program)(k:bY)(enc:κ->aN)(jc:κ->Prop):Prop where
 keyed:Keyed P k
 key:∀q,jc q->∃kl,keyOf P k (enc q)=aC kl
 inj:∀q q',enc q=enc q'->q=q'
variable {jc:κ->Prop} {w w':aJ} {b:Nat} {m:List (κ×aN)}
theorem eX.lt(h:eX P k enc w b m):b<w.heap.size:=by obtain⟨es,clock,hb,_⟩:=h.blk;grind
theorem eX.of_block(h:eX P k enc w b m)(e:w'.heap[b]? =w.heap[b]?):eX P k enc w' b m:=by obtain⟨es,clock,hb,hm⟩:=h.blk;exact⟨⟨es,clock,e.trans hb,hm⟩,h.apart⟩
theorem eX.below {B:Nat}(h:eX P k enc w b m)(hb:b<B)(hB:aa B w w'):eX P k enc w' b m:=h.of_block (hB.block b hb)
theorem eX.alloc(h:eX P k enc w b m)(o:Obj):eX P k enc (w.alloc o) b m:=h.of_block (fF w o h.lt)
theorem eX.drew(h:eX P k enc w b m):eX P k enc w.drew b m:=⟨h.blk,h.apart⟩
theorem eX.grown(h:eX P k enc w b m) {row:Option Nat}(hg:w.grownBy w' row)(hne:aC b≠row):eX P k enc w' b m:=h.of_block (hg.block b h.lt hne)
theorem eX.made(P:Program)(k:bY)(enc:κ->aN)(w:aJ):eX P k enc (w.alloc (.map #[] 0)) w.heap.size []:=⟨⟨#[],0,cO w _,by simp⟩,by simp [wF]⟩
theorem eX.find(K:CE P k enc jc) {es:Array MapEntry}(hm:es.toList.map (λe=>(e.key,e.val))=m.map λp=>(enc p.1,p.2))(hd:∀p∈m,jc p.1) {q:κ}(hq:jc q)(w:aJ):
 ((a9j k (enc q) es.toList).run P w= .ok aB w/\∀p∈m,p.1≠q)\/∃j v0,(a9j k (enc q) es.toList).run P w= .ok (aC (j,v0)) w/\m[j]? =aC (q,v0)/\∃e0,es[j]? =aC e0/\e0.key=enc q/\e0.val=v0:=by
 obtain⟨kl,eF⟩:=K.key q hq;have WK:∀x∈es.toList,∃kl,keyOf P k x.key=aC kl:=by
  intro x hx;have h1:(x.key,x.val)∈m.map λp=>(enc p.1,p.2):=by grind
  obtain⟨p,hp,e⟩:=dW.1 h1;injection e with e1 e2;obtain⟨kl,h⟩:=K.key p.1 (hd p hp);grind
 rcases K.keyed.find w eF es.toList WK with⟨h1,h2⟩|⟨j,e0,h1,h2,h3⟩
 ·refine aS ⟨h1,λp hp e=> ?_⟩;have h4:(enc p.1,p.2)∈es.toList.map (λe=>(e.key,e.val)):=by grind
  grind
 refine aU ⟨j,e0.val,h1, ?_,e0,by simpa using h2,h3,rfl⟩;have h4:(es.toList.map (λe=>(e.key,e.val)))[j]? =aC (enc q,e0.val):=by grind
 rw [hm,List.getElem?_map] at h4;cases hj:m[j]? with
 |none=>grind
 |some p=>
  rw [hj] at h4;simp at h4;obtain⟨a1,a2⟩:=h4;have:=K.inj _ _ a1;grind
variable [BEq κ] [LawfulBEq κ]
theorem eX.look(c:Bool)(K:CE P k enc jc) {t e:bY}(ht:P.underlying t=aC (.map k e)) {z:aN}(hz:(zeroValue e).run P w= .ok z w)(h:eX P k enc w b m)(hd:∀p∈m,jc p.1) {q:κ}(hq:jc q):
 (Instr.lookup t (.map (aC b)) (enc q) c).run P w= .ok (if c then .tuple #[(getM q m).getD z,.bool (getM q m).isSome] else (getM q m).getD z) w:=by
 obtain⟨es,clock,hb,hm⟩:=h.blk;obtain⟨kl,eF⟩:=K.key q hq;rcases eX.find K hm hd hq w with⟨h1,h2⟩|⟨j,v0,h1,h2,_⟩
 ·rw [getM_none h2];simp [Instr.lookup,run_underlying ht,BH hb,K.keyed.check w _ eF,h1,hz,uH]
 rw [getM_some h.apart h2];simp [Instr.lookup,run_underlying ht,BH hb,K.keyed.check w _ eF,h1,uH]
theorem eX.store(K:CE P k enc jc) {t e:bY}(ht:P.underlying t=aC (.map k e))(h:eX P k enc w b m)(hd:∀p∈m,jc p.1) {q:κ}(hq:jc q)(v:aN):
 ∃w',(EP t (.map (aC b)) (enc q) v).run P w= .ok () w'/\eX P k enc w' b (eJ q v m)/\w.grownBy w' (aC b):=by
 obtain⟨es,clock,hb,hm⟩:=h.blk;obtain⟨kl,eF⟩:=K.key q hq;rcases eX.find K hm hd hq w with⟨h1,h2⟩|⟨j,v0,h1,h2,e0,h3,h4,h5⟩
 ·refine⟨setBlock w b (.map (es.push ⟨enc q,v,clock⟩) (clock+1)), ?_,⟨⟨_,_,heap_setBlock_same hb _, ?_⟩,h.apart.put⟩,⟨rfl,rfl,rfl,by simp [setBlock],λi _ hi=>heap_setBlock_other hb _ (λe=>hi (by rw [e]))⟩⟩
  ·simp [EP,run_underlying ht,BH hb,K.keyed.check w aP eF,h1,GM _ hb,uH,setBlock]
  grind [Xm]
 have uR:es.toList[j]? =aC e0:=by simpa using h3
 refine⟨setBlock w b (.map (es.modify j (λe'=> {e' with key:=enc q,val:=v})) clock), ?_,⟨⟨_,_,heap_setBlock_same hb _, ?_⟩,h.apart.put⟩,⟨rfl,rfl,rfl,by simp [setBlock],λi _ hi=>heap_setBlock_other hb _ (λe=>hi (by rw [e]))⟩⟩
 ·simp [EP,run_underlying ht,BH hb,K.keyed.check w aP eF,h1,h3,h4,K.keyed.stays w eF,GM _ hb,uH,setBlock]
 rw [Xn v h.apart h2,Yh,modify_eq_set _ _ _ _ uR,List.map_set,List.map_set,hm]
end
end
section
open Go.Maps Go.MapKept Go.ChangeMaps
def Bv {κ:Type} [DecidableEq κ](q:κ)(m:List (κ×aN)):aN:=(getM q m).getD (aH aB 0 0)
structure ui {κ:Type}(kt:bY)(enc:κ->aN)(jc:κ->Prop)(w:aJ)(base b:Nat)(m:List (κ×aN))(f:κ->List Int):Prop where
 map:eX aM kt enc w b m
 yr:∃es clock,w.heap[b]? =aC (.map es clock)/\Stamped es clock
 low:b<base
 rows:∀p∈m,w.ownsRow base 2 1 p.2 (aA (f p.1)) ((f p.1).map (aG aF))
 far:∀p∈m,∀q∈m,p.1≠q.1->p.2.ownBlock=aB\/p.2.ownBlock≠q.2.ownBlock
 off:∀q,(∀p∈m,p.1≠q)->f q= []
 dom:∀p∈m,jc p.1
section
variable {κ:Type} {kt:bY} {enc:κ->aN} {jc:κ->Prop} {w w' w1:aJ} {base b:Nat} {m:List (κ×aN)} {f:κ->List Int}
theorem ui.made(w:aJ):ui kt enc jc (w.alloc (.map #[] 0)) (w.heap.size+1) w.heap.size [] (λ_=> []):=
 ⟨eX.made _ _ _ _,⟨#[],0,cO w _,stamped_empty 0⟩,Nat.lt_succ_self _,by simp,by simp,λ_ _=>rfl,by simp⟩
theorem ui.below {B:Nat}(h:ui kt enc jc w base b m f)(hB:w.heap.size<=B)(hb:aa B w w'):ui kt enc jc w' base b m f:=by obtain⟨es,clock,hb',hs⟩:=h.yr;have hlt:=h.map.lt;refine⟨h.map.below (by omega) hb,⟨es,clock,(hb.block b (by omega)).trans hb',hs⟩,h.low,λp hp=>(h.rows p hp).kept ⟨hb.os,hb.tape,hb.output,hb.size,λk hk _=>hb.block k (cP hk hB)⟩ (by cases p.2.ownBlock<;>simp:p.2.ownBlock=aB\/p.2.ownBlock≠aB),h.far,h.off,h.dom⟩
variable [DecidableEq κ]
theorem RO {q:κ} {v:aN}:∀ {m:List (κ×aN)},getM q m=aC v->(q,v)∈m
 | [],h=>by simp [getM] at h
 |p::m,h=>by
  unfold getM at h;split at h
  ·grind
  exact dh _ (RO h)
theorem a3V {q:κ}:∀ {m:List (κ×aN)},getM q m=aB->∀p∈m,p.1≠q
 | [],_,p,hp=>by simp at hp
 |p::m,h,x,hx=>by
  unfold getM at h;split at h
  ·cases h
  rename_i hc;rcases fC.1 hx with rfl|hx
  ·simpa using hc
  exact a3V h x hx
theorem ui.slot(h:ui kt enc jc w base b m f)(q:κ):w.ownsRow base 2 1 (Bv q m) (aA (f q)) ((f q).map (aG aF)):=by
 unfold Bv;cases hg:getM q m with
 |none=>rw [h.off q (a3V hg)];exact gC _ _ _ _
 |some v=>exact h.rows _ (RO hg)
theorem ui.look(K:CE aM kt enc jc)(h:ui kt enc jc w base b m f) {q:κ}(hq:jc q) {t:bY}(ht:aM.underlying t=aC (.map kt 53)):(Instr.lookup t (.map (aC b)) (enc q) aP).run aM w= .ok (Bv q m) w:=
 eX.look (P:=aM) aP K ht (z:= .slice aB 0 0) (by kernel_rfl) h.map h.dom hq
theorem Kf {q:κ} {v:aN}(ha:wF m) {x:κ×aN}(hx:x∈eJ q v m):x=(q,v)\/(x∈m/\x.1≠q):=by
 induction m with
 |nil=>grind [eJ]
 |cons p m ih=>
  obtain⟨h1,h2⟩:=kX.1 ha;unfold eJ at hx;split at hx
  ·grind
  rename_i hc;rcases fC.1 hx with hx|hx
  ·grind
  rcases ih h2 hx with h|⟨h,h'⟩
  ·exact aS h
  grind
theorem a6e {q:κ} {v:aN}:∀(m:List (κ×aN)),aA (eJ q v m)<=aA m+1
 | []=>by simp [eJ]
 |p::m=>by
  unfold eJ;split
  ·simp
  have:=a6e (q:=q) (v:=v) m;simp;omega
theorem a6f {q:κ} {v:aN} {x:κ×aN}(hx:x∈m):∃u,(x.1,u)∈eJ q v m:=by
 induction m with
 |nil=>simp at hx
 |cons p m ih=>
  grind [eJ]
theorem Xj {q:κ} {v:aN}:∀(m:List (κ×aN)),(q,v)∈eJ q v m
 | []=>by simp [eJ]
 |p::m=>by
  unfold eJ;split
  ·grind
  exact dh _ (Xj m)
end
end
section
open Go.ChangeShapes Go.WideShapes Go.ChangeAt Go.Joins Go.Deep
theorem aJ5:ownKnob aM.godebug=aB:=by kernel_rfl
theorem XE:laidOutB aM=aO:=by kernel_rfl
section
variable {H:Type} {enc:bY×aN->H} {P:Program}
theorem a8G(hl:laidOutB P=aO) {W W':aJ}(hb:aa W.heap.size W W'):∀(ts:List bY) {vs:List aN} {ds:List (DataW H)} {ps:List MemPlace},
 (ts.all λt=>P.readableRec t&&decide (t<P.types.size))=aO->Yp enc P W 0 (λ_=>aO) aO ts vs ds ps->Yp enc P W' 0 (λb=>decide (b<W.heap.size)) aO ts vs ds ps
 | [],vs,ds,ps,_,h=>by obtain⟨rfl,rfl,rfl⟩:=trodAll_nil h;exact trodAll_mk0
 |t::ts,vs,ds,ps,hr,h=>by
  obtain⟨v,vs',d,Ee,p,q,rfl,rfl,rfl,h0,r⟩:=trodAll_cons h;rw [List.all_cons,jb,jb] at hr;have lt0:∀x∈p,x.block<W.heap.size:=by obtain⟨m,hm⟩:=h0;exact DataW.trod_lt m _ _ _ hm
  exact trodAll_cons_mk (Below.trod hl hr.1.1 (of_decide_eq_true hr.1.2) h0 hb lt0) (a8G hl hb ts hr.2 r)
theorem aHV(hl:laidOutB P=aO) {f:Func} {s:ChangeSpec} {W W':aJ} {args:Array aN} {ds gs:List (DataW H)} {before:List MemPlace} {tb:bY}(hr:(f.params.toList.all λt=>P.readableRec t&&decide (t<P.types.size))=aO)
 (N1:P.underlying tb=aC .bool) (hrt:f.resultTypes= #[tb]) (hv:s.vars= []) (hW:DataW.Whole enc P f.params.toList s.vars aP W args.toList ds gs before)
 (hsp:∀Ee:List (DataW H),aA Ee=aA f.params.toList->s.fn H Ee= {results:= [.lit (.bool aO)],args:=Ee}) (xE:β W W'):
 s.post enc P f aP aO aP aP W args (.bool aO) W':=by
 have Ep:=hW;obtain⟨p,q,hA,hV,rfl,_,_⟩:=hW;rw [hv] at hV;obtain⟨rfl,rfl⟩:=trodVars_none hV;have hlen:∀(ts:List bY) (vs:List aN) (ds:List (DataW H)) (ps:List MemPlace),Yp enc P W 0 (λ_=>aO) aO ts vs ds ps->aA ds=aA ts:=by
  intro ts;induction ts with
  |nil=>intro vs ds ps h;obtain⟨_,rfl,_⟩:=trodAll_nil h;rfl
  |cons t ts ih=>
   intro vs ds ps h;obtain⟨v,vs',d,Ee,p,q,_,rfl,_,_,r⟩:=trodAll_cons h;simp [ih _ _ _ r]
 have e:=hsp ds (hlen _ _ _ _ hA);refine⟨ds,[],p++ [],[],p,[],Ep, ?_, ?_, ?_, ?_,λh=>by cases h⟩
 ·rw [List.append_nil,e,hrt];exact trodAll_mk1 (shut_bool N1 aO)
 ·grind [a8G]
 ·rw [List.append_nil,e,hv];rfl
 exact xE.frame _
end
end
section
open Go.Maps Go.MapKept Go.ChangeMaps
def zl(q:Int×Int×Int):aN:=bU #[aG aF q.1,aG aF q.2.1,aG aF q.2.2]
def Fl(q:Int×Int×Int):Prop:=aL q.1/\aL q.2.1/\aL q.2.2
theorem N9 {x:Int}(h:aL x):(Lit.int aF x).wf=aO:=by unfold aL at h;have h1:aF.min= -9223372036854775808:=rfl;have h2:aF.max=9223372036854775807:=rfl;grind [Lit.wf]
theorem aFG(q q':Int×Int×Int)(h:zl q=zl q'):q=q':=by grind [zl]
theorem NK(d:Nat)(n:Int)(hn:(Lit.int aF n).wf=aO):aM.keyLits (d+1) 3 [.int aF n]=aC [.int aF n]:=by unfold UH;grind [xA]
theorem aHL(q:Int×Int×Int)(hq:Fl q):∃kl,keyOf aM 289 (zl q)=aC kl:=by
 have hu:=underlying289;have vg:=underlying51;have h1:aM.keyType 289=aO:=by kernel_rfl
 have w1:=N9 hq.1;have w2:=N9 hq.2.1;have w3:=N9 hq.2.2;have h2:(zl q).formed aM 289=aO:=by kernel_rfl
 have k1:aM.cellsOf 3=1:=by kernel_rfl
 have k2:aM.cellsOf 51=2:=by kernel_rfl
 have k3:aM.cellsOf 289=3:=by kernel_rfl
 have h3:aM.keyLits (aM.types.size+1) 289 (zl q).cells.toList=aC [.int aF q.1,.int aF q.2.1,.int aF q.2.2]:=by
  obtain⟨d,hd⟩:∃d,aM.types.size=d+1+1:=⟨aM.types.size-2,by have:1<aM.types.size:=of_decide_eq_true (by kernel_rfl);omega⟩;rw [hd];have hx:=NK d q.1 w1;have hy:=NK d q.2.1 w2;have hz:=NK (d+1) q.2.2 w3;have hac:aM.keyLits (d+1+1) 51 [.int aF q.1,.int aF q.2.1]=aC [.int aF q.1,.int aF q.2.1]:=by unfold UH;rw [vg];simp [k1,k2,hx,hy]
  unfold UH;rw [hu];simp [zl,Value.cells,k1,k2,k3,hac,hz]
 exact⟨_,by unfold keyOf;rw [hu];simp only [h1,h2,Bool.and_self,if_true,h3];rfl⟩
theorem a7Z:CE aM 289 zl Fl where
 keyed:=a8m (deep_law_laid XE (m:=3) (by omega) (of_decide_eq_true (by kernel_rfl)) (by kernel_rfl) (by kernel_rfl))
 key:=aHL
 inj:=aFG
def xL(q:Int×Int):aN:=bU #[aG aF q.1,aG aF q.2]
def J0(q:Int×Int):Prop:=aL q.1/\aL q.2
theorem a3D(q q':Int×Int)(h:xL q=xL q'):q=q':=by grind [xL]
theorem aHK(q:Int×Int)(hq:J0 q):∃kl,keyOf aM 162 (xL q)=aC kl:=by
 have hu:=underlying162;have h1:aM.keyType 162=aO:=by kernel_rfl
 have w1:=N9 hq.1;have w2:=N9 hq.2;have h2:(xL q).formed aM 162=aO:=by kernel_rfl
 have k1:aM.cellsOf 3=1:=by kernel_rfl
 have k3:aM.cellsOf 162=2:=by kernel_rfl
 have h3:aM.keyLits (aM.types.size+1) 162 (xL q).cells.toList=aC [.int aF q.1,.int aF q.2]:=by obtain⟨d,hd⟩:∃d,aM.types.size=d+1:=⟨aM.types.size-1,by have:1<aM.types.size:=of_decide_eq_true (by kernel_rfl);omega⟩;rw [hd];have hx:=NK d q.1 w1;have hy:=NK d q.2 w2;unfold UH;rw [hu];simp [xL,Value.cells,k1,k3,hx,hy]
 exact⟨_,by unfold keyOf;rw [hu];simp only [h1,h2,Bool.and_self,if_true,h3];rfl⟩
theorem a7B:CE aM 162 xL J0 where
 keyed:=a8m (deep_law_laid XE (m:=2) (by omega) (of_decide_eq_true (by kernel_rfl)) (by kernel_rfl) (by kernel_rfl))
 key:=aHK
 inj:=a3D
end
section
open Go.Maps Go.MapKept Go.ChangeMaps
def UN(w:aJ)(b:Nat):Prop:=∃es clock,w.heap[b]? =aC (.map es clock)/\Stamped es clock
section
variable {κ:Type} [BEq κ] [LawfulBEq κ] {P:Program} {k:bY} {enc:κ->aN} {jc:κ->Prop} {w:aJ} {b:Nat} {m:List (κ×aN)}
theorem eX.entry(K:CE P k enc jc) {t e:bY}(ht:P.underlying t=aC (.map k e)) {z:aN}(hz:∀u:aJ,(zeroValue e).run P u= .ok z u)(h:eX P k enc w b m)(hs:UN w b)(hd:∀p∈m,jc p.1) {q:κ}(hq:jc q):
 ∃(st:Nat) (w1:aJ),(GI t (.map (aC b)) (enc q)).run P w= .ok (.tuple #[(getM q m).getD z,goInt st]) w1/\w.grownBy w1 (aC b)/\w1.heap.size=w.heap.size/\
  ∀(w2:aJ) (val:aN),w2.heap[b]? =w1.heap[b]?->∃w3,(Ot t (.map (aC b)) (goInt st) val).run P w2= .ok () w3/\eX P k enc w3 b (eJ q val m)/\UN w3 b/\w2.grownBy w3 (aC b):=by
 obtain⟨es,clock,hb,hm⟩:=h.blk;obtain⟨He,Gv,hb0,hst⟩:=hs;obtain⟨rfl,rfl⟩:es=He/\clock=Gv:=by grind
 obtain⟨kl,eF⟩:=K.key q hq;rcases eX.find K hm hd hq w with⟨h1,h2⟩|⟨j,v0,h1,h2,e0,h3,h4,h5⟩
 ·have hnk:∀x∈es.toList,x.key≠enc q:=by
   intro x hx e;have h6:(x.key,x.val)∈m.map λp=>(enc p.1,p.2):=by grind
   obtain⟨p,hp,e'⟩:=dW.1 h6;injection e' with e1 e2;exact h2 p hp (K.inj _ _ (e1.trans e))
  have Qs:Stamped (es.push ⟨enc q,z,clock⟩) (clock+1):=stamped_push hst hnk;refine⟨clock,setBlock w b (.map (es.push ⟨enc q,z,clock⟩) (clock+1)), ?_,⟨rfl,rfl,rfl,by simp [setBlock],λi _ hi=>heap_setBlock_other hb _ (λe=>hi (by rw [e]))⟩,by simp [setBlock], ?_⟩
  ·rw [getM_none h2];simp [GI,run_underlying ht,BH hb,K.keyed.check w aP eF,h1,hz,GM _ hb,uH,setBlock]
  intro w2 val hw2;rw [heap_setBlock_same hb] at hw2;have WE:(es.push ⟨enc q,z,clock⟩).findIdx? (λe=>(e.born:Int)==(clock:Int))=aC es.size:=by
   rw [a8o];have hl:(es.push (⟨enc q,z,clock⟩:MapEntry)).toList[es.size]? =aC ⟨enc q,z,clock⟩:=by simp
   exact a8p Qs.2.1 hl
  have aGf:(es.push (⟨enc q,z,clock⟩:MapEntry)).modify es.size (λe=> {e with val})=es.push ⟨enc q,val,clock⟩:=by grind
  refine⟨setBlock w2 b (.map (es.push ⟨enc q,val,clock⟩) (clock+1)), ?_,⟨⟨_,_,heap_setBlock_same hw2 _, ?_⟩,h.apart.put⟩,⟨_,_,heap_setBlock_same hw2 _,stamped_push hst hnk⟩,⟨rfl,rfl,rfl,by simp [setBlock],λi _ hi=>heap_setBlock_other hw2 _ (λe=>hi (by rw [e]))⟩⟩
  ·simp only [Ot,aAS,BH hw2,uH];simp [asInt,goInt,asIntOf,WE,aGf,GM _ hw2,setBlock]
  grind [Xm]
 have uR:es.toList[j]? =aC e0:=by simpa using h3
 have hkey:∀e',es[j]? =aC e'->({e' with key:=enc q}:MapEntry).key=e'.key:=λe' Mf=>by grind
 have Qs:Stamped (es.modify j (λe'=> {e' with key:=enc q})) clock:=stamped_modify hst j (λe'=> {e' with key:=enc q}) (λ_ _=>rfl) (λe' _ Mf=>hkey e' Mf);refine⟨e0.born,setBlock w b (.map (es.modify j (λe'=> {e' with key:=enc q})) clock), ?_,⟨rfl,rfl,rfl,by simp [setBlock],λi _ hi=>heap_setBlock_other hb _ (λe=>hi (by rw [e]))⟩,by simp [setBlock], ?_⟩
 ·rw [getM_some h.apart h2];simp [GI,run_underlying ht,BH hb,K.keyed.check w aP eF,h1,h3,h4,K.keyed.stays w eF,GM _ hb,uH,setBlock]
 intro w2 val hw2;rw [heap_setBlock_same hb] at hw2;have h1e:(es.modify j (λe'=> {e' with key:=enc q})).toList[j]? =aC {e0 with key:=enc q}:=by grind
 have WE:(es.modify j (λe'=> {e' with key:=enc q})).findIdx? (λe=>(e.born:Int)==(e0.born:Int))=aC j:=by rw [a8o];exact a8p (e0:= {e0 with key:=enc q}) Qs.2.1 h1e
 have a4W:Stamped ((es.modify j (λe'=> {e' with key:=enc q})).modify j (λe=> {e with val})) clock:=stamped_modify Qs j (λe=> {e with val}) (λ_ _=>rfl) (λ_ _ _=>rfl);refine⟨setBlock w2 b (.map ((es.modify j (λe'=> {e' with key:=enc q})).modify j (λe=> {e with val})) clock), ?_,⟨⟨_,_,heap_setBlock_same hw2 _, ?_⟩,h.apart.put⟩,⟨_,_,heap_setBlock_same hw2 _,a4W⟩,⟨rfl,rfl,rfl,by simp [setBlock],λi _ hi=>heap_setBlock_other hw2 _ (λe=>hi (by rw [e]))⟩⟩
 ·simp only [Ot,aAS,BH hw2,uH];simp [asInt,goInt,asIntOf,WE,GM _ hw2,setBlock]
 rw [Xn val h.apart h2,Yh,modify_eq_set _ _ _ _ h1e,Yh,modify_eq_set _ _ _ _ uR,List.set_set,List.map_set,List.map_set,hm]
end
end
section
def iC {ι α:Type} [DecidableEq ι](f:ι->α)(i:ι)(v:α):ι->α:=λj=>if j=i then v else f j
theorem Ns {ι α:Type} [DecidableEq ι](f:ι->α)(i:ι)(v:α):iC f i v i=v:=ifP rfl
theorem AZ {ι α:Type} [DecidableEq ι](f:ι->α) {i j:ι}(v:α)(h:j≠i):iC f i v j=f j:=ifN h
structure td {ι:Type}(w:aJ)(base:Nat)(cf:ι->aN)(f:ι->List Int):Prop where
 rows:∀i,w.ownsRow base 2 1 (cf i) (aA (f i)) ((f i).map (aG aF))
 far:∀i j,i≠j->(cf i).ownBlock=aB\/(cf i).ownBlock≠(cf j).ownBlock
section
variable {ι:Type} {w w1:aJ} {base:Nat} {cf:ι->aN} {f:ι->List Int}
theorem td.made(w:aJ)(base:Nat):td w base (λ_:ι=>aH aB 0 0) (λ_=> []):=⟨λ_=>gC _ _ _ _,λ_ _ _=>aS rfl⟩
theorem td.kept(h:td w base cf f) {row:Option Nat}(hg:w.grownBy w1 row)(hr:∀g,row=aC g->∀i,(cf i).ownBlock≠aC g):td w1 base cf f:=by
 refine⟨λi=>(h.rows i).kept hg ?_,h.far⟩;cases FE:row with
 |none=>grind
 |some g=>grind
theorem td.new(h:td w base cf f) {g:Nat}(hg:w.heap.size<=g)(i:ι):(cf i).ownBlock≠aC g:=λe=>by have:=((h.rows i).lt _ e).2;omega
theorem td.below(h:td w base cf f)(hb:aa w.heap.size w w1):td w1 base cf f:=
 h.kept (row:=aB) ⟨hb.os,hb.tape,hb.output,hb.size,λk hk _=>hb.block k hk⟩ (λ_ e=>by cases e)
theorem td.grow [DecidableEq ι](h:td w base cf f)(i:ι)(hg:w.grownBy w1 (cf i).ownBlock) {v':aN} {ys:List Int}(hown:w1.ownsRow base 2 1 v' (aA ys) (ys.map (aG aF)))
 (hloc:v'.ownBlock=(cf i).ownBlock\/∃g,v'.ownBlock=aC g/\w.heap.size<=g):td w1 base (iC cf i v') (iC f i ys):=by
 have apart:∀j,j≠i->(cf j).ownBlock=aB\/(cf j).ownBlock≠v'.ownBlock:=by
  intro j hj;rcases hloc with e|⟨g,e,zt⟩
  ·rw [e];exact h.far j i hj
  exact aU λe'=>h.new zt j (e'.trans e)
 refine⟨λj=> ?_,λj k hjk=> ?_⟩
 ·by_cases hj:j=i
  ·grind [Ns]
  rw [AZ _ _ hj,AZ _ _ hj];exact(h.rows j).kept hg (h.far j i hj)
 by_cases hj:j=i
 ·grind [Ns,AZ]
 rw [AZ _ _ hj];by_cases hk:k=i
 ·grind [Ns]
 rw [AZ _ _ hk];exact h.far j k hjk
end
end
section
section
variable {w0 wr w1 w':aJ} {e:bY} {s n m n' g cap:Nat} {u v:aN} {xs ys xs':List aN}
theorem none_or(x:aN):x.ownBlock=aB\/x.ownBlock≠aB:=by grind
theorem iA {wr w1:aJ} {base:Nat} {e:bY} {s n:Nat} {u:aN} {xs:List aN}(h:wr.ownsRow base e s u n xs)(hb:aa wr.heap.size wr w1):w1.ownsRow base e s u n xs:=
 h.kept ⟨hb.os,hb.tape,hb.output,hb.size,λk hk _=>hb.block k hk⟩ (none_or u)
end
end
section
open Go.Maps Go.MapKept Go.ChangeMaps
abbrev Ix:=(Int×Int×Int) ⊕ Nat
def gthF(l:List En):Ix->List Int
 | .inl q=>gu l q
 | .inr i=>if i<9 then gq l i else []
def su(cf:Ix->aN):Array aN:= #[cf (.inr 0),cf (.inr 1),cf (.inr 2),cf (.inr 3),cf (.inr 4),cf (.inr 5),cf (.inr 6),cf (.inr 7),cf (.inr 8)]
structure lD(w:aJ)(base b ab:Nat)(cf:Ix->aN)(ov:aN)(g:Ix->List Int)(os:List (Int×Int×Int))(W:aJ):Prop where
 map:∃m,eX aM 289 zl W b m/\(∀q,(getM q m).getD (aH aB 0 0)=cf (.inl q))/\∀p∈m,Fl p.1
 yr:UN W b
 blk:W.heap[ab]? =aC (aK (su cf) 53 (0,0))
 tF:td W base cf g
 ord:W.ownsRow base 289 3 ov (aA os) (Ik os)
 low:w.heap.size<=b/\w.heap.size<=ab/\b≠ab/\b<base/\ab<base/\base<=W.heap.size
 b:β w W
theorem Bp {w:aJ} {b1 b2:Nat} {e1 e2:bY} {s1 s2 n1 n2:Nat} {v1 v2:aN} {x1 x2:List aN}(h1:w.ownsRow b1 e1 s1 v1 n1 x1)(h2:w.ownsRow b2 e2 s2 v2 n2 x2)(he:e1≠e2):v1.ownBlock=aB\/v1.ownBlock≠v2.ownBlock:=by
 rcases h1.2 with⟨rfl,_⟩|⟨g1,c1,u1,rfl,_,hb1,_⟩
 ·exact .inl rfl
 rcases h2.2 with⟨rfl,_⟩|⟨g2,c2,u2,rfl,_,hb2,_⟩
 ·exact .inr (by simp [dy])
 refine .inr λe=> ?_
 have e':g1=g2:=by simpa [dy] using e
 subst e';rw [hb1] at hb2;injection hb2 with hb2;injection hb2 with _ hb2;exact he hb2
theorem a6h {κ:Type} [BEq κ] [LawfulBEq κ] {q:κ} {v:aN} {x:κ×aN}:∀(m:List (κ×aN)),x∈eJ q v m->x=(q,v)\/x∈m
 | [],h=>by simp [eJ] at h;exact .inl h
 |p::m,h=>by
  unfold eJ at h;split at h
  ·rcases fC.1 h with h|h
   ·exact .inl h
   exact .inr (dh _ h)
  rcases fC.1 h with h|h
  ·exact .inr (h▸pD ..)
  exact(a6h m h).imp id (dh _)
section
variable {w W w2:aJ} {base b ab:Nat} {cf:Ix->aN} {ov:aN} {g:Ix->List Int} {os:List (Int×Int×Int)}
theorem lD.below {W':aJ}(h:lD w base b ab cf ov g os W)(hb:aa W.heap.size W W'):lD w base b ab cf ov g os W':=by obtain⟨m,hm,hv,hd⟩:=h.map;obtain⟨l1,l2,l3,l4,l5,l6⟩:=h.low;have hg:W.grownBy W' aB:=⟨hb.os,hb.tape,hb.output,hb.size,λi hi _=>hb.block i hi⟩;obtain⟨es,clock,h1,h2⟩:=h.yr;exact⟨⟨m,hm.of_block (hb.block b (by omega)),hv,hd⟩,⟨es,clock,(hb.block b (by omega)).trans h1,h2⟩,(hb.block ab (by omega)).trans h.blk,h.tF.below hb,h.ord.kept hg (by cases ov.ownBlock<;>simp),⟨l1,l2,l3,l4,l5,bz l6 hb.size⟩,h.b.trans (hb.mono h.b.size)⟩
theorem lD.lo(h:lD w base b ab cf ov g os W) {i:Ix} {k:Nat}(hk:(cf i).ownBlock=aC k):base<=k:=eT (h.tF.rows i) k hk
theorem lD.aIs(h:lD w base b ab cf ov g os W) {ov':aN} {os':List (Int×Int×Int)}(hg:W.grownBy w2 ov.ownBlock)(hown:w2.ownsRow base 289 3 ov' (aA os') (Ik os')):lD w base b ab cf ov' g os' w2:=by
 obtain⟨m,hm,hv,hd⟩:=h.map;obtain⟨l1,l2,l3,l4,l5,l6⟩:=h.low;obtain⟨es,clock,h1,h2⟩:=h.yr;have hb:aC b≠ov.ownBlock:=λe=>by have:=eT h.ord b e.symm;omega
 have ha:aC ab≠ov.ownBlock:=λe=>by have:=eT h.ord ab e.symm;omega
 have hs:=hg.size;refine⟨⟨m,hm.of_block (hg.block b (by omega) hb),hv,hd⟩,⟨es,clock,(hg.block b (by omega) hb).trans h1,h2⟩,(hg.block ab (by omega) ha).trans h.blk,h.tF.kept hg λk hk i e=> ?_,hown,⟨l1,l2,l3,l4,l5,by omega⟩,h.b.grown hg h.b.size (λk hk=>by have:=eT h.ord k hk;omega)⟩;rcases Bp (h.tF.rows i) h.ord (by decide) with h3|h3
 ·rw [h3] at e;cases e
 exact h3 (e.trans hk.symm)
theorem lD.entry(h:lD w base b ab cf ov g os W) {q:Int×Int×Int}(hq:Fl q):
 ∃st w1,(GI 284 (.map (aC b)) (zl q)).run aM W= .ok (bB #[cf (.inl q),goInt st]) w1/\W.grownBy w1 (aC b)/\w1.heap.size=W.heap.size/\w1.ownsRow base 2 1 (cf (.inl q)) (aA (g (.inl q))) ((g (.inl q)).map (aG aF))/\
  ∀(w2:aJ) (v':aN) (ys:List Int),w1.grownBy w2 (cf (.inl q)).ownBlock->w2.ownsRow base 2 1 v' (aA ys) (ys.map (aG aF))->(v'.ownBlock=(cf (.inl q)).ownBlock\/v'.ownBlock=aC w1.heap.size)->
   ∃w3,(Ot 284 (.map (aC b)) (goInt st) v').run aM w2= .ok () w3/\lD w base b ab (iC cf (.inl q) v') ov (iC g (.inl q) ys) os w3/\
    (∀k,k<W.heap.size->k≠b->aC k≠(cf (.inl q)).ownBlock->w3.heap[k]? =W.heap[k]?)/\W.heap.size<=w3.heap.size:=by
 obtain⟨m,hm,hv,hd⟩:=h.map;obtain⟨l1,l2,l3,l4,l5,l6⟩:=h.low;obtain⟨st,w1,hr,hg1,hs1,hf⟩:=hm.entry (t:=284) (e:=53) a7Z aC9 (z:=aH aB 0 0) (λu=>by kernel_rfl) h.yr hd hq;rw [hv] at hr;have Hv:∀i,(cf i).ownBlock≠aC b:=λi e=>by have:=h.lo e;omega
 have QT:∀i,(cf i).ownBlock≠aC ab:=λi e=>by have:=h.lo e;omega
 have Ms:ov.ownBlock=aB\/ov.ownBlock≠aC b:= .inr λe=>by have:=eT h.ord b e;omega
 have Vy:=h.tF.kept hg1 (λk hk i=>by injection hk with hk;subst hk;exact Hv i);refine⟨st,w1,hr,hg1,hs1,Vy.rows _,λw2 v' ys hg2 hown hloc=> ?_⟩;have hs2:=hg2.size;obtain⟨w3,hr3,BX,Wp,hg3⟩:=hf w2 v' (hg2.block b (by rw [hs1];omega) (λe=>Hv _ e.symm));have hs3:=hg3.size;have QU:=Vy.grow (.inl q) hg2 hown (hloc.imp id λe=>⟨_,e,aZ _⟩);have Vs:∀i,((iC cf (.inl q) v') i).ownBlock≠aC b:=λi e=>by
  by_cases hi:i= .inl q
  ·subst hi;rw [Ns] at e;rcases hloc with h4|h4
   ·exact Hv _ (h4.symm.trans e)
   rw [h4] at e;injection e with e;omega
  rw [AZ _ _ hi] at e;exact Hv i e
 refine⟨w3,hr3,⟨⟨_,BX,λq'=> ?_,λp hp=> ?_⟩,Wp, ?_,QU.kept hg3 (λk hk i=>by injection hk with hk;subst hk;exact Vs i), ?_,⟨l1,l2,l3,l4,l5,by omega⟩, ?_⟩,λk hk hkb WM=> ?_,by omega⟩
 ·by_cases e:q'=q
  ·subst e;rw [Ns,a3Y];rfl
  rw [AZ _ _ (λe'=>e (by injection e')),a3X (Ne.symm e)];exact hv q'
 ·rcases a6h _ hp with e|hp
  ·rw [e];exact hq
  exact hd p hp
 ·have h5:su (iC cf (.inl q) v')=su cf:=by
   unfold su;simp [iC]
  rw [h5];refine((hg3.block ab (by omega) (by simp;omega)).trans ((hg2.block ab (by omega) (λe=>QT _ e.symm)).trans (hg1.block ab (by omega) (by simp;omega)))).trans h.blk
 ·have eB:=h.ord.kept hg1 Ms;have eR:=eB.kept hg2 (Bp eB (Vy.rows (.inl q)) (by decide));exact eR.kept hg3 Ms
 ·exact((h.b.grown hg1 h.b.size (λk hk=>by injection hk with hk;omega)).grown hg2 (by rw [hs1];exact h.b.size) (λk hk=>by have:=h.lo hk;omega)).grown hg3 (by have:=h.b.size;omega) (λk hk=>by injection hk with hk;omega)
 exact(hg3.block k (by omega) (by simp;omega)).trans ((hg2.block k (by omega) WM).trans (hg1.block k hk (by simp;omega)))
theorem lD.look(h:lD w base b ab cf ov g os W) {q:Int×Int×Int}(hq:Fl q):(Instr.lookup 284 (.map (aC b)) (zl q) aP).run aM W= .ok (cf (.inl q)) W:=by obtain⟨m,hm,hv,hd⟩:=h.map;have h1:=eX.look (P:=aM) aP a7Z aC9 (z:=aH aB 0 0) (by kernel_rfl) hm hd hq;rw [<-hv q];exact h1
theorem Uw(cf:Ix->aN) {i:Nat}(hi:i<9):(su cf)[i]? =aC (cf (.inr i)):=by
 match i,hi with
 |0,_=>rfl
 |1,_=>rfl
 |2,_=>rfl
 |3,_=>rfl
 |4,_=>rfl
 |5,_=>rfl
 |6,_=>rfl
 |7,_=>rfl
 |8,_=>rfl
theorem aDO(cf:Ix->aN) {i:Nat}(hi:i<9)(v:aN):(su cf).setIfInBounds i v=su (iC cf (.inr i) v):=by
 match i,hi with
 |0,_=>simp [su,iC]
 |1,_=>simp [su,iC]
 |2,_=>simp [su,iC]
 |3,_=>simp [su,iC]
 |4,_=>simp [su,iC]
 |5,_=>simp [su,iC]
 |6,_=>simp [su,iC]
 |7,_=>simp [su,iC]
 |8,_=>simp [su,iC]
theorem lD.a1j(h:lD w base b ab cf ov g os W) {i:Nat}(hi:i<9) {v':aN} {ys:List Int}(hg:W.grownBy w2 (cf (.inr i)).ownBlock)(hown:w2.ownsRow base 2 1 v' (aA ys) (ys.map (aG aF)))
 (hloc:v'.ownBlock=(cf (.inr i)).ownBlock\/∃k,v'.ownBlock=aC k/\W.heap.size<=k):lD w base b ab (iC cf (.inr i) v') ov (iC g (.inr i) ys) os (w2.setCell ⟨ab,i,aB⟩ v'):=by
 obtain⟨m,hm,hv,hd⟩:=h.map;obtain⟨l1,l2,l3,l4,l5,l6⟩:=h.low;obtain⟨es,clock,h1,h2⟩:=h.yr;have hb:aC b≠(cf (.inr i)).ownBlock:=λe=>by have:=h.lo e.symm;omega
 have ha:aC ab≠(cf (.inr i)).ownBlock:=λe=>by have:=h.lo e.symm;omega
 have hs:=hg.size;have FK:∀k,k≠ab->(w2.setCell ⟨ab,i,aB⟩ v').heap[k]? =w2.heap[k]? :=λk hk=>nK _ _ _ _ hk
 have hgs:w2.grownBy (w2.setCell ⟨ab,i,aB⟩ v') (aC ab):=⟨rfl,rfl,rfl,by simp,λk _ hk=>FK k (λe=>hk (by rw [e]))⟩;have QU:=h.tF.grow (.inr i) hg hown hloc;have Vs:∀j,((iC cf (.inr i) v') j).ownBlock≠aC ab:=λj e=>by have:=eT (QU.rows j) ab e;omega
 have hb2:=(hg.block ab (by omega) ha).trans h.blk;refine⟨⟨m,hm.of_block ((FK b l3).trans (hg.block b (by omega) hb)),λq=> ?_,hd⟩,⟨es,clock,(FK b l3).trans ((hg.block b (by omega) hb).trans h1),h2⟩, ?_,QU.kept hgs (λk hk j=>by injection hk with hk;subst hk;exact Vs j), ?_,⟨l1,l2,l3,l4,l5,by simp;omega⟩,(h.b.grown hg h.b.size (λk hk=>by have:=h.lo hk;omega)).setCell (p:=⟨ab,i,aB⟩) l2 _⟩
 ·rw [AZ _ _ (by simp)];exact hv q
 ·rw [<-aDO cf hi];exact lf hb2 i v'
 have ho:=h.ord.kept hg (Bp h.ord (h.tF.rows (.inr i)) (by decide));exact ho.kept hgs (.inr λe=>by have:=eT ho ab e;omega)
end
theorem a3j(pre:List En)(x:En)(i:Nat)(hi:i<9)(hx:x.a=(i:Int)):iC (iC (gthF pre) (.inl x.spot) (gu pre x.spot++ [x.n])) (.inr i) (gq pre i++ [x.n])=gthF (pre++ [x]):=by
 funext j;cases j with
 |inl q=>
  rw [AZ _ _ (by simp)];unfold iC;simp only [gthF,a1z,Sum.inl.injEq];split
  ·rename_i e;subst e;rfl
  rfl
 |inr k=>
  unfold iC;simp only [gthF,a1w,Sum.inr.injEq,hx,Int.natCast_inj,reduceCtorEq,if_false];by_cases e:k=i
  ·subst e;simp [hi]
  simp [e,Ne.symm e]
theorem aG0:gthF []=λ_=> []:=by
 funext i;cases i with
 |inl q=>rfl
 |inr i=>unfold gthF;simp only;split<;>rfl
end
end Go.Proofs.YtdokipdchlcmeaaGreat
