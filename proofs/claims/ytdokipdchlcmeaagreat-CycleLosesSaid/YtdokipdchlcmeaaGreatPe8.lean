/-
  Several texts in one, for one claim (printed by pack.py).
-/
import Derived.Test.YtdokipdchlcmeaaGreatPe7
import Derived.WalkMore
set_option linter.all false
set_option maxRecDepth 100000
set_option maxHeartbeats 12800000
open And renaming intro→kT
open Array renaming getElem?_eq_some_iff→fY
open Bool renaming true→aO,false→aP
open Go renaming World→aJ,Value→aN,Calls→aQ,Addr→ai,cell_of_row→bG,maxLen→bK,TypeId→bX,heap_alloc_new→cT,info_parts→dK,Ending→di,rounds_succ→eA,wpList_append_own→iw,wpAnyH_take→jk,wpAnyH_ready→pK,wp_loop_rounds→uY,step_append_lies→AL,wpAnyH_done→Nf
open Go.AllReadyH renaming cons→mU,nil→oM
open Go.Calls renaming mono→tT
open Go.Ending renaming returned→aU
open Go.Exit renaming noGoto_ret→a8G
open Go.IntKind renaming i64→aF,wrap_i64→fW
open Go.Lib renaming compact→sP
open Go.Obj renaming cells→aK
open Go.Proofs renaming intOf→ag
open Go.Proofs.Tryz renaming prog→aM,underlying53→mD,underlying39→sU,underlying46→yD,underlying272→GI,func179→a0H,ntmps179→a0a,func137→aA8,func142→aA9,func28→aAS,func65→aAc,func70→aAd,ntmps137→aAv,ntmps142→aAw,ntmps28→aBE,ntmps65→aBO,ntmps70→aBP
open Go.RowKit renaming Below→aa,wrap64→fV
open Go.RowKit.Below renaming refl→aX,size→gS,trans→jl,heap_setCell→nB,alloc→qj
open Go.Value renaming int→aG,slice→aH,tuple→bB,pointer→bH,bool→bM,agg→bO,ownBlock→dx
open Go.World renaming ownsRow_nil→gC,cell?_of_block→gg,frozen?→iU,ownsRow→jn,grownBy_alloc→GM
open Int renaming le_trans→jm,mul_le_mul_of_nonneg_right→LL
open List renaming length→aA,getElem_mem→cK,length_append→cL,take_length→cU,range→dQ,mem_map→dV,map_append→dY,mem_cons→fC,take_succ_eq_append_getElem→fF,mem_append→gJ,length_map→iK,any_eq_true→kK,pairwise_cons→kX,eq_nil_of_length_eq_zero→nG,mem_range→nH,length_filter_le→qN,mem_iff_getElem→sR,length_cons→uB,length_singleton→uC,length_take→ur,getElem_map→wQ,any_eq_false→zE,drop_eq_getElem_cons→JF,mergeSort_perm→Zo
open List.Pairwise renaming nil→Ti,sublist→aLq
open Nat renaming le_refl→aZ,zero_le→bL,le_trans→cC,lt_of_lt_of_le→cR
open Option renaming none→aB,some→aC
open Option.some renaming inj→od
open Or renaming inl→aS
namespace Go.Proofs.YtdokipdchlcmeaaGreat
open Go.Proofs.Tryz Go.RowKit
def gU(D:Dk)(n:Nat):List Int:=(dQ n).map λ(i:Nat)=>balA (aA D.x.ms) (aA D.x.ss+1) D.l 8 ((i:Int)+1) 0
def gu(D:Dk)(n:Nat):List Int:=(dQ n).map λ(i:Nat)=>balA (aA D.x.ms) (aA D.x.ss+1) D.l 9 ((i:Int)+1) 0
theorem aDj(D:Dk)(n:Nat):gU D (n+1)=gU D n++ [balA (aA D.x.ms) (aA D.x.ss+1) D.l 8 ((n:Int)+1) 0]:=by unfold gU;rw [List.range_succ,dY];rfl
theorem aFG(D:Dk)(n:Nat):gu D (n+1)=gu D n++ [balA (aA D.x.ms) (aA D.x.ss+1) D.l 9 ((n:Int)+1) 0]:=by unfold gu;rw [List.range_succ,dY];rfl
theorem o6(D:Dk)(n:Nat):aA (gU D n)=n:=by simp [gU]
theorem vF(D:Dk)(n:Nat):aA (gu D n)=n:=by simp [gu]
structure lW(w:aJ)(bR bp:Nat)(cv fv:aN)(co fu:List Int)(li ca:Int)(W:aJ):Prop where
 bl:β w W
 rb:W.heap[bR]? =aC (aK #[aH aB 0 0,aH aB 0 0,ν 0,ν 0] 193 (0,0))
 pb:W.heap[bp]? =aC (aK #[cv,fv,ν li,ν ca] 193 (0,0))
 co:W.ownsRow w.heap.size 2 1 cv (aA co) (co.map (aG aF))
 fo:W.ownsRow w.heap.size 2 1 fv (aA fu) (fu.map (aG aF))
 ap:∀k,cv.ownBlock=aC k->fv.ownBlock≠aC k
 ne:bR≠bp
 zr:w.heap.size<=bR
 zp:w.heap.size<=bp
theorem lW.below {w:aJ} {bR bp:Nat} {cv fv:aN} {co fu:List Int} {li ca:Int} {W W':aJ}(h:lW w bR bp cv fv co fu li ca W)(hb:aa W.heap.size W W'):lW w bR bp cv fv co fu li ca W':=
 ⟨h.bl.trans (hb.mono h.bl.size),(hb.block _ (fY.1 h.rb).1).trans h.rb,(hb.block _ (fY.1 h.pb).1).trans h.pb,iI h.co hb,iI h.fo hb,h.ap,h.ne,h.zr,h.zp⟩
theorem lW.lp {w:aJ} {bR bp:Nat} {cv fv:aN} {co fu:List Int} {li ca:Int} {W:aJ}(h:lW w bR bp cv fv co fu li ca W):bp<W.heap.size:=(fY.1 h.pb).1
theorem lW.lr {w:aJ} {bR bp:Nat} {cv fv:aN} {co fu:List Int} {li ca:Int} {W:aJ}(h:lW w bR bp cv fv co fu li ca W):bR<W.heap.size:=(fY.1 h.rb).1
theorem EL {B:Nat} {w W W':aJ} {r:Option Nat}(h:aa B w W)(hg:W.grownBy W' r)(hr:∀k,r=aC k->B<=k)(hB:B<=W.heap.size):aa B w W':=
 ⟨hg.os.trans h.os,hg.tape.trans h.tape,hg.output.trans h.output,cC h.size hg.size,λk hk=>(hg.block k (cR hk hB) (λe=>by have:=hr k e.symm;omega)).trans (h.block k hk)⟩
theorem BD {B:Nat} {w W:aJ} {b i:Nat}(u:aN)(h:aa B w W)(hb:B<=b):aa B w (W.setCell ⟨b,i,aB⟩ u):=
 ⟨h.os,h.tape,h.output,by simpa using h.size,λk hk=>(nB _ _ _ _ (λe=>by subst e;omega)).trans (h.block k hk)⟩
theorem lW.aJ9 {w:aJ} {bR bp:Nat} {cv fv:aN} {co fu:List Int} {li ca x:Int} {W W':aJ} {g cap n:Nat}(h:lW w bR bp cv fv co fu li ca W)(hg:W.grownBy W' cv.ownBlock)(ho:W'.ownsRow w.heap.size 2 1 (aH (aC ⟨g,0,aB⟩) n cap) n ((co++ [x]).map (aG aF)))(hn:n=aA (co++ [x]))(hat:cv.ownBlock=aC g\/W.heap.size<=g):lW w bR bp (aH (aC ⟨g,0,aB⟩) n cap) fv (co++ [x]) fu li ca (W'.setCell ⟨bp,0,aB⟩ (aH (aC ⟨g,0,aB⟩) n cap)):=by
 have hb1:=gM h.co h.pb (by decide);have hb2:=gM h.co h.rb (by decide);have Hk:=(hg.block bp h.lp (λe=>hb1 e.symm)).trans h.pb;have Jx:=(hg.block bR h.lr (λe=>hb2 e.symm)).trans h.rb;have hbl:=EL h.bl hg (λk hk=>(h.co.lt k hk).1) h.bl.size;have hfo:=h.fo.kept hg (by
  cases hf:fv.ownBlock with
  |none=>exact .inl rfl
  |some k=>exact .inr (λe=>h.ap k e.symm hf))
 subst hn;refine⟨BD _ hbl h.zp,(nB _ _ _ _ h.ne).trans Jx,(om Hk 0 _).trans rfl,jz ho (gM ho Hk (by decide)) _,jz hfo (gM hfo Hk (by decide)) _, ?_,h.ne,h.zr,h.zp⟩;intro k hk hf;have e:g=k:=by simpa [dx] using hk
 subst e;rcases hat with hat|hat
 ·exact h.ap g hat hf
 have:=(h.fo.lt g hf).2;omega
theorem lW.aJA {w:aJ} {bR bp:Nat} {cv fv:aN} {co fu:List Int} {li ca x:Int} {W W':aJ} {g cap n:Nat}(h:lW w bR bp cv fv co fu li ca W)(hg:W.grownBy W' fv.ownBlock)(ho:W'.ownsRow w.heap.size 2 1 (aH (aC ⟨g,0,aB⟩) n cap) n ((fu++ [x]).map (aG aF)))(hn:n=aA (fu++ [x]))(hat:fv.ownBlock=aC g\/W.heap.size<=g):lW w bR bp cv (aH (aC ⟨g,0,aB⟩) n cap) co (fu++ [x]) li ca (W'.setCell ⟨bp,1,aB⟩ (aH (aC ⟨g,0,aB⟩) n cap)):=by
 have hb1:=gM h.fo h.pb (by decide);have hb2:=gM h.fo h.rb (by decide);have Hk:=(hg.block bp h.lp (λe=>hb1 e.symm)).trans h.pb;have Jx:=(hg.block bR h.lr (λe=>hb2 e.symm)).trans h.rb;have hbl:=EL h.bl hg (λk hk=>(h.fo.lt k hk).1) h.bl.size;have qW:=h.co.kept hg (by
  cases hf:cv.ownBlock with
  |none=>exact .inl rfl
  |some k=>exact .inr (λe=>h.ap k hf e.symm))
 subst hn;refine⟨BD _ hbl h.zp,(nB _ _ _ _ h.ne).trans Jx,(om Hk 1 _).trans rfl,jz qW (gM qW Hk (by decide)) _,jz ho (gM ho Hk (by decide)) _, ?_,h.ne,h.zr,h.zp⟩;intro k hk hf;have e:g=k:=by simpa [dx] using hf
 subst e;rcases hat with hat|hat
 ·exact h.ap g hk hat
 have:=(h.co.lt g hk).2;omega
theorem I7 {w:aJ} {base:Nat} {A:Option ai} {n c m:Nat} {e:bX} {xs:List aN}(h:w.ownsRow base e m (aH A n c) n xs)(hA:A=aB):n=0/\c=0:=by
 rcases h.2 with⟨h1,h2⟩|⟨g,cap,cur,h1,_⟩
 ·injection h1 with h3 h4 h5;exact⟨h4,h5⟩
 rw [hA] at h1;injection h1 with h3;cases h3
structure Ol(w:aJ)(bR:Nat)(cv fv:aN)(co fu:List Int)(W:aJ):Prop where
 bl:β w W
 co:W.ownsRow w.heap.size 2 1 cv (aA co) (co.map (aG aF))
 fo:W.ownsRow w.heap.size 2 1 fv (aA fu) (fu.map (aG aF))
 n1:cv.ownBlock≠aC bR
 n2:fv.ownBlock≠aC bR
 zr:w.heap.size<=bR
theorem lW.res {w:aJ} {bR bp:Nat} {cv fv:aN} {co fu:List Int} {li ca:Int} {W:aJ}(h:lW w bR bp cv fv co fu li ca W):Ol w bR cv fv co fu W:=
 ⟨h.bl,h.co,h.fo,gM h.co h.rb (by decide),gM h.fo h.rb (by decide),h.zr⟩
theorem Ol.set {w:aJ} {bR:Nat} {cv fv:aN} {co fu:List Int} {W:aJ}(h:Ol w bR cv fv co fu W)(i:Nat)(u:aN):Ol w bR cv fv co fu (W.setCell ⟨bR,i,aB⟩ u):=
 ⟨BD _ h.bl h.zr,jz h.co h.n1 _,jz h.fo h.n2 _,h.n1,h.n2,h.zr⟩
def a8V(D:Dk)(w:aJ)(e:di)(w':aJ):Prop:=∃P:bz,e=aU P.val/\P.co=gU D (aA D.x.ms)/\P.fu=gu D (aA D.x.ms)/\P.line=balA (aA D.x.ms) (aA D.x.ss+1) D.l 3 0 0/\P.cap=balA (aA D.x.ms) (aA D.x.ss+1) D.l 4 0 0/\Ce w' P/\aa w.heap.size w w'
theorem a2N(db:Nat)(p:Dp)(D:Dk)(w:aJ)(H:bT w db p D)(hm:aA D.x.ms<=100000):
 aQ aM 128 #[π db] w (a8V D w):=by
 have ew:=η (λW (hW:β w W) k m (hk:aL k) (hm:aL m)=>zW db p D k m 0 W (H.below hW) hk hm);have np:=η (λW m=>zQ m W);have HC:=η (λW (hW:β w W)=>(H.below hW).cells.c0);clear H;have mA:Hid (β w (w.alloc (aK #[aH aB 0 0,aH aB 0 0,ν 0,ν 0] 193))):=η σ;have tx:Hid ((w.alloc (aK #[aH aB 0 0,aH aB 0 0,ν 0,ν 0] 193)).heap[w.heap.size]? =aC (aK #[aH aB 0 0,aH aB 0 0,ν 0,ν 0] 193 (0,0))):=η (cT w _);have hz0:w.heap.size<(w.alloc (aK #[aH aB 0 0,aH aB 0 0,ν 0,ν 0] 193)).heap.size:=by simp
 obtain⟨i0,bj,rU,rV,rW⟩:=dK UL;go_enter func128,ntmps128
 go_upto_region 1 with (fail)
 generalize w.alloc (aK #[aH aB 0 0,aH aB 0 0,ν 0,ν 0] 193)=w0 at*;obtain⟨bR,VQ⟩:∃bR,bR=w.heap.size:=⟨_,rfl⟩;have Kb:=η VQ;rw [<-VQ] at tx hz0 ⊢;clear VQ;have ug:=η (ew.o w0 mA.o 3 0 (by decide) (by decide));obtain⟨li,Vx⟩:∃li,li=balA (aA D.x.ms) (aA D.x.ss+1) D.l 3 0 0:=⟨_,rfl⟩;obtain⟨ca,qV⟩:∃ca,ca=balA (aA D.x.ms) (aA D.x.ss+1) D.l 4 0 0:=⟨_,rfl⟩;rw [<-Vx] at ug;have CN:=η (λW (hW:β w W)=>ew.o W hW 4 0 (by decide) (by decide));rw [<-qV] at CN;have Iq:=η Vx;have CE:=η qV;clear Vx qV;go_upto_region 2 with (go_at_call 46;first|(with_reducible refine tT ug.o ?_;rintro e w1 ⟨rfl,hb1⟩;have xz:=τ mA hb1;have lL:=η ((hb1.block bR hz0).trans tx.o);have hz1:=cR hz0 hb1.size;clear hb1 ug)|(with_reducible refine tT (CN.o _ xz.o) ?_;rintro e w2 ⟨rfl,hb2⟩;have gB:=τ xz hb2;have pS:=η ((hb2.block bR hz1).trans lL.o);have hz2:=cR hz1 hb2.size;clear hb2 CN mA xz tx lL hz0 hz1))
 have iP:Hid (lW w bR w2.heap.size (aH aB 0 0) (aH aB 0 0) [] [] li ca (w2.alloc (aK #[aH aB 0 0,aH aB 0 0,ν li,ν ca] 193))):=η ⟨gB.o.trans ((aX _ _).alloc gB.o.size _),(fG w2 _ hz2).trans pS.o,cT w2 _,gC _ _ _ _,gC _ _ _ _,by intro k hk;simp [dx] at hk,by have:=Kb.o;omega,by have:=Kb.o;omega,gB.o.size⟩;clear gB pS;generalize w2.alloc (aK #[aH aB 0 0,aH aB 0 0,ν li,ν ca] 193)=w3 at*;obtain⟨bp,VT⟩:∃bp,bp=w2.heap.size:=⟨_,rfl⟩;rw [<-VT] at iP ⊢;clear VT hz2;have c0:=HC.o _ iP.o.bl;generalize hM:aA D.x.ms=M at*;go_upto_region 3 with (fail)
 go_loopw [4,18] (λ_ i wr=>∃k:Nat,∃cv fv,k<=M/\i=ν (k:Int)/\Hid (lW w bR bp cv fv (gU D k) (gu D k) li ca wr)) (λ_ i _=>M-(ag i).toNat)
 case atStart=>exact⟨0,_,_,bL _,rfl,iP⟩
 case round=>
  clear iP c0;obtain⟨k,cv,fv,hk,rfl,HP⟩:=hrel;by_cases hlt:k<M
  ·have eV:(0:Int)<=(k:Int):=by omega
   have hkb:(k:Int)<(M:Int):=by omega
   obtain⟨A1,c1,zv⟩:=bJ HP.o.co;obtain⟨A2,c2,hv2⟩:=bJ HP.o.fo;subst zv hv2;rw [o6,vF] at HP;have Ei:aL ((k:Int)+1):=by unfold aL;omega
   have O1:=η Ei;have BU:aF.wrap ((k:Int)+1)=(k:Int)+1:=by rw [fW];omega
   clear Ei;go_upto_region 5 with (fail)
   have d0:wr.drew.cell? ⟨bp,0,aB⟩=aC (aH A1 k c1):=ρ HP.o.pb;have CP:Hid (lW w bR bp (aH A1 k c1) (aH A2 k c2) (gU D k) (gu D k) li ca wr.drew):=η (HP.o.below (aX _ _).drew);clear HP;refine IQ (S:=λW=>W.cell? ⟨bp,0,aB⟩=aC (aH A1 k c1)) 10 (by kernel_rfl) d0 (λhHeld=> ?_);have bW:Hid (∀W,lW w bR bp (aH A1 k c1) (aH A2 k c2) (gU D k) (gu D k) li ca W->W.cell? ⟨bp,0,aB⟩=aC (aH A1 k c1)):=η (λW h=>ρ h.pb);clear d0;generalize wr.drew=w5 at*;refine eB (i:=0) (v:=π bp) rfl (by kernel_rfl) (by kernel_rfl) (by kernel_rfl) (by kernel_rfl) (by kernel_rfl) (λ_ _ _ h=>h) (aS ⟨by rfl,λw' hSw=>by have s0:=hSw;go_simp⟩) hHeld ?_;refine eB (i:=1) (v:=aH A1 k c1) rfl (by kernel_rfl) (by kernel_rfl) (by kernel_rfl) (by kernel_rfl) (by kernel_rfl) (λ_ _ _ h=>h) (aS ⟨by rfl,λw' hSw=>by have s0:=hSw;go_simp⟩) hHeld ?_;refine eB (i:=2) (v:=π db) rfl (by kernel_rfl) (by kernel_rfl) (by kernel_rfl) (by kernel_rfl) (by kernel_rfl) (λ_ _ _ h=>h) (aS ⟨by rfl,λw' hSw=>by have s0:=hSw;go_simp⟩) hHeld ?_;refine eB (i:=3) (v:=ν (k:Int)) rfl (by kernel_rfl) (by kernel_rfl) (by kernel_rfl) (by kernel_rfl) (by kernel_rfl) (λ_ _ _ h=>h) (aS ⟨by rfl,λw' hSw=>by have s0:=hSw;go_simp⟩) hHeld ?_;refine eB (i:=4) (v:=ν ((k:Int)+1)) rfl (by kernel_rfl) (by kernel_rfl) (by kernel_rfl) (by kernel_rfl) (by kernel_rfl) (λ_ _ _ h=>h) (aS ⟨by rfl,λw' hSw=>by have s0:=hSw;go_simp⟩) hHeld ?_;clear hHeld;refine nj (rs:= [5]) (by kernel_rfl) (by simp) ?_;refine eX.cons rfl (λK hK=> ?_) eX.nil;go_simp
   refine(np.o _ _).mono ?_;rintro e w6 ⟨rfl,iL⟩;have OE:=η (CP.o.below iL);clear iL CP;refine hK.o _ _ (λ_=>bW.o _ OE.o) (λ_=> ?_);clear hK K;refine nj (rs:= [6]) (by kernel_rfl) (by simp) ?_;refine eX.cons rfl (λK hK=> ?_) eX.nil;go_simp
   refine(ew.o _ OE.o.bl 8 _ (by decide) O1.o).mono ?_;rintro e w7 ⟨rfl,gD⟩;have gA:=η (OE.o.below gD);clear gD OE;refine hK.o _ _ (λ_=>bW.o _ gA.o) (λ_=> ?_);clear hK K;have FU:=η (aDj D k);rw [hM] at FU;generalize balA M (aA D.x.ss+1) D.l 8 ((k:Int)+1) 0=bv at*;refine nj (rs:= [7]) (by kernel_rfl) (by simp) ?_;refine eX.cons rfl (λK hK=> ?_) eX.nil;go_simp
   have dt:Hid (lW w bR bp (aH A1 k c1) (aH A2 k c2) (gU D k) (gu D k) li ca (w7.alloc (aK #[ν bv] 2))):=η (gA.o.below σ);have Kz:Hid (∀j u,([ν bv]:List aN)[j]? =aC u->(w7.alloc (aK #[ν bv] 2)).cell? ((⟨w7.heap.size,0,aB⟩:ai).add j)=aC u):=η (dM w7 2 #[ν bv] rfl);refine hK.o _ _ (λ_=>bW.o _ dt.o) (λ_=> ?_);clear hK K gA;generalize (w7.alloc (aK #[ν bv] 2))=w8 at*;refine nj (rs:= [8]) (by kernel_rfl) (by simp) ?_;refine eX.cons rfl (λK hK=> ?_) eX.nil;have qH:=dt.o.co;rw [o6] at qH;refine AL _ rfl (.tmp 22) (.tmp 28) 53 rfl w.heap.size 2 i0 _ 1 8 mD bj rU rV rW rfl (by decide) _ k ((gU D k).map (aG aF)) rfl qH ⟨w7.heap.size,0,aB⟩ 1 1 [ν bv] rfl rfl Kz.o xQ (by decide) (by simp only [bK];omega) (by omega) dt.o.bl.size w8.heap.size rfl ?_;clear qH;intro g cap w9 hown hgr hat _;have r9:Hid (∀v,v=aH (aC ⟨g,0,aB⟩) (k+1) cap->lW w bR bp v (aH A2 k c2) (gU D (k+1)) (gu D k) li ca (w9.setCell ⟨bp,0,aB⟩ v)):=η (by rintro v rfl;rw [FU.o];exact dt.o.aJ9 hgr (by rw [dY];exact hown) (by simp [o6]) (hat.imp id (λe=>by omega)));have xD:w9.cell? ⟨bp,0,aB⟩=aC (aH A1 k c1):=by have hn:(aH A1 k c1).ownBlock≠aC bp:=gM dt.o.co dt.o.pb (by decide);exact bG _ _ _ _ _ (0,0) ((hgr.block bp dt.o.lp (λe=>hn e.symm)).trans dt.o.pb)
   have Jn:w9.frozen? ⟨bp,0,aB⟩=aP:=by have hn:(aH A1 k c1).ownBlock≠aC bp:=gM dt.o.co dt.o.pb (by decide);have hb:=(hgr.block bp dt.o.lp (λe=>hn e.symm)).trans dt.o.pb;simp [iU,hb]
   refine hK.o _ _ (λ_=>xD) (λ_=> ?_);clear hK K hown hgr hat dt Kz FU;refine eB (i:=9) (v:=π bp) rfl (by kernel_rfl) (by kernel_rfl) (by kernel_rfl) (by kernel_rfl) (by kernel_rfl) (λ_ _ _ h=>h) (aS ⟨by rfl,λw' hSw=>by have s0:=hSw;go_simp⟩) xD ?_;refine nj (rs:= [10]) (by kernel_rfl) (by simp) ?_;refine eX.cons rfl (λK hK=> ?_) eX.nil;go_simp
   refine hK.o _ _ (λh=>absurd rfl h) (λ_=> ?_);clear hK K bW xD Jn;refine IP (by kernel_rfl) ?_ _;have yy:=η (r9.o _ rfl);clear r9;generalize aH (aC ⟨g,0,aB⟩) (k+1) cap=Gb at*;generalize w9.setCell ⟨bp,0,aB⟩ Gb=wa at*;go_upto_region 6 with (fail)
   have d0:wa.drew.cell? ⟨bp,1,aB⟩=aC (aH A2 k c2):=ρ yy.o.pb;have CP:Hid (lW w bR bp Gb (aH A2 k c2) (gU D (k+1)) (gu D k) li ca wa.drew):=η (yy.o.below (aX _ _).drew);clear yy;refine IQ (S:=λW=>W.cell? ⟨bp,1,aB⟩=aC (aH A2 k c2)) 10 (by kernel_rfl) d0 (λhHeld=> ?_);have bW:Hid (∀W,lW w bR bp Gb (aH A2 k c2) (gU D (k+1)) (gu D k) li ca W->W.cell? ⟨bp,1,aB⟩=aC (aH A2 k c2)):=η (λW h=>ρ h.pb);clear d0;generalize wa.drew=wb at*;refine eB (i:=0) (v:=bH (aC ⟨bp,1,aB⟩)) rfl (by kernel_rfl) (by kernel_rfl) (by kernel_rfl) (by kernel_rfl) (by kernel_rfl) (λ_ _ _ h=>h) (aS ⟨by rfl,λw' hSw=>by have s0:=hSw;go_simp⟩) hHeld ?_;refine eB (i:=1) (v:=aH A2 k c2) rfl (by kernel_rfl) (by kernel_rfl) (by kernel_rfl) (by kernel_rfl) (by kernel_rfl) (λ_ _ _ h=>h) (aS ⟨by rfl,λw' hSw=>by have s0:=hSw;go_simp⟩) hHeld ?_;refine eB (i:=2) (v:=π db) rfl (by kernel_rfl) (by kernel_rfl) (by kernel_rfl) (by kernel_rfl) (by kernel_rfl) (λ_ _ _ h=>h) (aS ⟨by rfl,λw' hSw=>by have s0:=hSw;go_simp⟩) hHeld ?_;refine eB (i:=3) (v:=ν (k:Int)) rfl (by kernel_rfl) (by kernel_rfl) (by kernel_rfl) (by kernel_rfl) (by kernel_rfl) (λ_ _ _ h=>h) (aS ⟨by rfl,λw' hSw=>by have s0:=hSw;go_simp⟩) hHeld ?_;refine eB (i:=4) (v:=ν ((k:Int)+1)) rfl (by kernel_rfl) (by kernel_rfl) (by kernel_rfl) (by kernel_rfl) (by kernel_rfl) (λ_ _ _ h=>h) (aS ⟨by rfl,λw' hSw=>by have s0:=hSw;go_simp⟩) hHeld ?_;refine eB (i:=5) (v:=bO #[ν 9,ν ((k:Int)+1)]) rfl (by kernel_rfl) (by kernel_rfl) (by kernel_rfl) (by kernel_rfl) (by kernel_rfl) (λ_ _ _ h=>h) (aS ⟨by rfl,λw' hSw=>by have s0:=hSw;go_simp⟩) hHeld ?_;clear hHeld;refine nj (rs:= [6]) (by kernel_rfl) (by simp) ?_;refine eX.cons rfl (λK hK=> ?_) eX.nil;go_simp
   refine(ew.o _ CP.o.bl 9 _ (by decide) O1.o).mono ?_;rintro e wc ⟨rfl,gD⟩;have gA:=η (CP.o.below gD);clear gD CP;refine hK.o _ _ (λ_=>bW.o _ gA.o) (λ_=> ?_);clear hK K;have FU:=η (aFG D k);rw [hM] at FU;generalize balA M (aA D.x.ss+1) D.l 9 ((k:Int)+1) 0=JT at*;refine nj (rs:= [7]) (by kernel_rfl) (by simp) ?_;refine eX.cons rfl (λK hK=> ?_) eX.nil;go_simp
   have dt:Hid (lW w bR bp Gb (aH A2 k c2) (gU D (k+1)) (gu D k) li ca (wc.alloc (aK #[ν JT] 2))):=η (gA.o.below σ);have Kz:Hid (∀j u,([ν JT]:List aN)[j]? =aC u->(wc.alloc (aK #[ν JT] 2)).cell? ((⟨wc.heap.size,0,aB⟩:ai).add j)=aC u):=η (dM wc 2 #[ν JT] rfl);refine hK.o _ _ (λ_=>bW.o _ dt.o) (λ_=> ?_);clear hK K gA;generalize (wc.alloc (aK #[ν JT] 2))=wd at*;refine nj (rs:= [8]) (by kernel_rfl) (by simp) ?_;refine eX.cons rfl (λK hK=> ?_) eX.nil;have qH:=dt.o.fo;rw [vF] at qH;refine AL _ rfl (.tmp 32) (.tmp 38) 53 rfl w.heap.size 2 i0 _ 1 8 mD bj rU rV rW rfl (by decide) _ k ((gu D k).map (aG aF)) rfl qH ⟨wc.heap.size,0,aB⟩ 1 1 [ν JT] rfl rfl Kz.o xQ (by decide) (by simp only [bK];omega) (by omega) dt.o.bl.size wd.heap.size rfl ?_;clear qH;intro g2 a1a we hown hgr hat _;have r9:Hid (∀v,v=aH (aC ⟨g2,0,aB⟩) (k+1) a1a->lW w bR bp Gb v (gU D (k+1)) (gu D (k+1)) li ca (we.setCell ⟨bp,1,aB⟩ v)):=η (by rintro v rfl;rw [FU.o];exact dt.o.aJA hgr (by rw [dY];exact hown) (by simp [vF]) (hat.imp id (λe=>by omega)));have xD:we.cell? ⟨bp,1,aB⟩=aC (aH A2 k c2):=by have hn:(aH A2 k c2).ownBlock≠aC bp:=gM dt.o.fo dt.o.pb (by decide);exact bG _ _ _ _ _ (0,0) ((hgr.block bp dt.o.lp (λe=>hn e.symm)).trans dt.o.pb)
   have Jn:we.frozen? ⟨bp,1,aB⟩=aP:=by have hn:(aH A2 k c2).ownBlock≠aC bp:=gM dt.o.fo dt.o.pb (by decide);have hb:=(hgr.block bp dt.o.lp (λe=>hn e.symm)).trans dt.o.pb;simp [iU,hb]
   refine hK.o _ _ (λ_=>xD) (λ_=> ?_);clear hK K hown hgr hat dt Kz FU;refine eB (i:=9) (v:=bH (aC ⟨bp,1,aB⟩)) rfl (by kernel_rfl) (by kernel_rfl) (by kernel_rfl) (by kernel_rfl) (by kernel_rfl) (λ_ _ _ h=>h) (aS ⟨by rfl,λw' hSw=>by have s0:=hSw;go_simp⟩) xD ?_;refine nj (rs:= [10]) (by kernel_rfl) (by simp) ?_;refine eX.cons rfl (λK hK=> ?_) eX.nil;go_simp
   refine hK.o _ _ (λh=>absurd rfl h) (λ_=> ?_);clear hK K bW xD Jn;refine IP (by kernel_rfl) ?_ _;have yy:=η (r9.o _ rfl);clear r9;generalize aH (aC ⟨g2,0,aB⟩) (k+1) a1a=fv2 at*;generalize we.setCell ⟨bp,1,aB⟩ fv2=wf at*;go_wp2_with fail
   go_roundw
   case rel=>exact⟨k+1,_,_,by omega,by go_num,yy⟩
   case measure=>simp [ag];omega
  obtain rfl:k=M:=by omega
  obtain⟨A1,c1,zv⟩:=bJ HP.o.co;obtain⟨A2,c2,hv2⟩:=bJ HP.o.fo;subst zv hv2;have CQ:=HP.o;rw [o6,vF] at CQ;have q0:=CQ.pb;have q1:=CQ.rb;have p0:wr.cell? ⟨bp,0,aB⟩=aC (aH A1 k c1):=ρ q0;have p1:wr.cell? ⟨bp,1,aB⟩=aC (aH A2 k c2):=ρ q0;have p2:wr.cell? ⟨bp,2,aB⟩=aC (ν li):=ρ q0;have p3:wr.cell? ⟨bp,3,aB⟩=aC (ν ca):=ρ q0;have r0:wr.cell? ⟨bR,0,aB⟩=aC (aH aB 0 0):=ρ q1;have r1:wr.cell? ⟨bR,1,aB⟩=aC (aH aB 0 0):=ρ q1;have r2:wr.cell? ⟨bR,2,aB⟩=aC (ν 0):=ρ q1;have r3:wr.cell? ⟨bR,3,aB⟩=aC (ν 0):=ρ q1;have HPH:=η CQ;clear CQ q0 HP ew np;have f0:wr.frozen? ⟨bR,0,aB⟩=aP:=by simp [iU,q1]
  have f1:wr.frozen? ⟨bR,1,aB⟩=aP:=by simp [iU,q1]
  have f2:wr.frozen? ⟨bR,2,aB⟩=aP:=by simp [iU,q1]
  have f3:wr.frozen? ⟨bR,3,aB⟩=aP:=by simp [iU,q1]
  clear q1;go_wp2_with fail
  refine bodyPost_ret (v:=bO #[aH A1 k c1,aH A2 k c2,ν li,ν ca]) (by simp [results,results128,go_sem,r0,r1,r2,r3]) rfl ?_;have hR:=(((HPH.o.res.set 0 (aH A1 k c1)).set 1 (aH A2 k c2)).set 2 (ν li)).set 3 (ν ca);have o1:=hR.co;have o2:=hR.fo;rw [o6] at o1;rw [vF] at o2;have g1:=aW.cA o1;have g2:=aW.cA o2;refine⟨⟨gU D k,A1,c1,gu D k,A2,c2,li,ca⟩, ?_,by rw [hM],by rw [hM],Iq.o.trans (by rw [hM]),CE.o.trans (by rw [hM]),⟨⟨g1,λh=> ?_⟩,⟨g2,λh=> ?_⟩⟩,hR.bl⟩
  ·unfold bz.val;simp only [o6,vF]
  ·have:=I7 o1 h;rw [o6];exact this
  have:=I7 o2 h;rw [vF];exact this
def jB(D:Dk):bz:=⟨gU D (aA D.x.ms),aB,0,gu D (aA D.x.ms),aB,0,balA (aA D.x.ms) (aA D.x.ss+1) D.l 3 0 0,balA (aA D.x.ms) (aA D.x.ss+1) D.l 4 0 0⟩
theorem aIs {P:bz} {D:Dk}(h1:P.co=gU D (aA D.x.ms))(h2:P.fu=gu D (aA D.x.ms))(h3:P.line=balA (aA D.x.ms) (aA D.x.ss+1) D.l 3 0 0)(h4:P.cap=balA (aA D.x.ms) (aA D.x.ss+1) D.l 4 0 0)(os:List Int)(n:Int):oI P os n=oI (jB D) os n:=by obtain⟨co,Ac,cc,fu,Af,cf,li,ca⟩:=P;simp only at h1 h2 h3 h4;subst h1 h2 h3 h4;rfl
theorem aJU {P:bz} {D:Dk}(h1:P.co=gU D (aA D.x.ms))(h2:P.fu=gu D (aA D.x.ms))(h3:P.line=balA (aA D.x.ms) (aA D.x.ss+1) D.l 3 0 0)(h4:P.cap=balA (aA D.x.ms) (aA D.x.ss+1) D.l 4 0 0)(os:List Int):qg P os=qg (jB D) os:=by obtain⟨co,Ac,cc,fu,Af,cf,li,ca⟩:=P;simp only at h1 h2 h3 h4;subst h1 h2 h3 h4;rfl
def pZ(D:Dk)(x:Dw):Dk:= {D with l:=bg D x.k x.m 1 0 0 x.n,log:=D.log++ [⟨10,x.m,0,x.n,x.k⟩]}
def o8(D:Dk)(L:List Dw):Dk:=L.foldl pZ D
def iC(D:Dk)(n:Int):List Dw:=if n<=0 then [] else oI (jB D) D.who n
def lY(D:Dk)(n:Int):Dk:=o8 D (iC D n)
theorem aEb {D:Dk} {L:List Dw} {k:Nat}(h:k<aA L):o8 D (L.take (k+1))=pZ (o8 D (L.take k)) L[k]:=by rw [fF h];unfold o8;rw [List.foldl_append];rfl
theorem Un(db:Nat)(p:Dp)(D:Dk)(n:Int)(w:aJ)(H:bT w db p D)(hn:aL n)(hm:aA D.x.ms<=100000)(hw:∀x∈D.who,aL x)(Jz:aA D.who<=1000)(hO:∀k,k<=aA (iC D n)->fZ (o8 D ((iC D n).take k)))(hI:∀x∈iC D n,aL x.k/\aL x.m/\aL x.n/\0<=x.n)(hl:aA (iC D n)<=100000):
 aQ aM 65 #[π db,ν n] w λe w'=>e=aU (bB #[])/\aq db p (lY D n) w w':=by
 have yo:=η H;have ja:Hid (iC D n=if n<=0 then [] else oI (jB D) D.who n):=η rfl;have qo:Hid (lY D n=o8 D (iC D n)):=η rfl;have HO:=η hO;have HI:=η hI;have lx:=η hl;have CS:=η (λW (hW:β w W)=>a2N db p D W (H.below hW) hm);obtain⟨Aw,cw,hv⟩:=bJ H.who;have sL:=η (λW (hW:β w W)=>(show aW W W.heap.size Aw (D.who.map (aG aF)) by have h1:=(H.below hW).who;rw [hv] at h1;exact aW.cA h1));have bW:=η (λW (hW:β w W)=>(show W.cell? ⟨db,11,aB⟩=aC (aH Aw (aA D.who) cw) from(by rw [<-hv];exact(H.below hW).cells.c11)));have TZ:=η hw;have O9:=η hn;have wG:=η hm;by_cases h0:n<=0
 ·have hd:decide (n<=0)=aO:=decide_eq_true h0;rw [ifP h0] at ja;have FV:Hid (lY D n=D):=η (by rw [qo.o,ja.o];rfl);rw [FV.o];go_enter aAc,aBO
  go_wp2_with fail
  (try simp only [Exit.inBlock,Exit.then])
  refine bodyPost_ret (results_none rfl _ _ _) rfl ?_;exact⟨rfl,aq.refl yo.o⟩
 have hd:decide (n<=0)=aP:=decide_eq_false h0;rw [ifN h0] at ja;rw [qo.o];generalize iC D n=L at*;go_enter aAc,aBO
 go_upto_region 1 with (fail)
 have bU:β w w.drew:=(aX _ _).drew;have hdd:=bW.o _ bU;go_region_held3 (λW=>W.cell? ⟨db,11,aB⟩=aC (aH Aw (aA D.who) cw)) (first|(with_reducible assumption)) (first|(go_at_call 128;refine(CS.o _ (by with_reducible assumption)).mono ?_;rintro e w1 ⟨P,rfl,mK,nV,uO,xJ,Er,hb1⟩;have eH:β w w1:=jl (by with_reducible assumption) (hb1.mono (gS (by with_reducible assumption)));have hcc:=bW.o _ eH)|(go_at_call 127;refine(aIt P D.who n Aw cw _ Er (by rw [mK,o6];simp only [bK];have:=wG.o;omega) (sL.o _ eH) Jz TZ.o O9.o).mono ?_;rintro e w2 ⟨A2,c2,rfl,fN,hb2⟩;have VW:=eH.trans (hb2.mono eH.size);have hc2:=bW.o _ VW))
 all_goals
  rw [aIs mK nV uO xJ,<-ja.o] at fN ⊢;have a8w:Hid (aW w2 w2.heap.size A2 (gR (L))):=η (aW.cA fN);have VD:gR (L)≠ []->∀q,A2=aC q->¬eY db p q.block:=by intro _ q hq hs;subst hq;have:=(fN.lt q.block rfl).1;have h2:=yo.o.uR hs;have h3:=eH.size;omega
  have cJ:=η (yo.o.below VW);have aV:=η VW;have iP:Hid (aq db p (o8 D ((L).take 0)) w2 w2):=η (aq.refl cJ.o);have B2:Hid (∀W D2,aq db p D2 w2 W->aW W W.heap.size A2 (gR (L))):=η (λW D2 h=>by obtain⟨_,_,_,_,_,_,hu,_⟩:=h;exact hu.dh a8w.o VD);go_wp2_with fail
  go_loopw [7,23] (λ_ i wr=>∃k:Nat,k<=aA L/\i=ν (k:Int)/\Hid (aq db p (o8 D (L.take k)) w2 wr)) (λ_ i _=>aA L-(ag i).toNat)
  case atStart=>exact⟨0,bL _,rfl,iP⟩
  case round=>
   obtain⟨k,hk,rfl,HP⟩:=hrel;by_cases hlt:k<aA L
   ·obtain⟨bl,ol,kN,hbl,l0,l1,l2⟩:=PX (B2.o _ _ HP.o) hlt;have eV:(0:Int)<=(k:Int):=by omega
    have hkb:(k:Int)<(aA L:Int):=by omega
    obtain⟨p1,h1,e1,e2,e3,e4,cj,hs1⟩:=HP.o;have HF:=η h1;have mW:Hid (∀j,eY db p1 j->j<wr.heap.size):=η (λj hj=>h1.uR hj);have HT:Hid (∀W D2,aq db p1 D2 wr W->aq db p D2 w2 W):=η (λW D2 h=>aq.trans cj hs1 ⟨e1,e2,e3,e4⟩ h);have HL:=η (aEb (D:=D) hlt);have dP:=η (HO.o k hk);obtain⟨pg,pj,rQ,vL⟩:=HI.o _ (cK hlt);have mi:aA L<=100000:=lx.o;clear h1 e1 e2 e3 e4 cj hs1 HP;subst kN;generalize o8 D (L.take k)=E at*;generalize L[k]=x at*;obtain⟨xk,xm,xn⟩:=x;simp only at l0 l1 l2 pg pj rQ vL;have oN:=η (kT pg (kT pj (kT rQ vL)));have ug:Hid (pZ E ⟨xk,xm,xn⟩= {E with l:=bg E xk xm 1 0 0 xn,log:=E.log++ [⟨10,xm,0,xn,xk⟩]}):=η rfl;have ar:Hid (β wr (wr.alloc (aK #[ν xk,ν xm,ν xn] 196))):=η σ;have oY:Hid ((wr.alloc (aK #[ν xk,ν xm,ν xn] 196)).heap[wr.heap.size]? =aC (aK #[ν xk,ν xm,ν xn] 196 (0,0))):=η (cT wr _);have mM:wr.heap.size<(wr.alloc (aK #[ν xk,ν xm,ν xn] 196)).heap.size:=by simp
    clear pg pj rQ vL;go_upto_region 5 with (fail)
    generalize wr.alloc (aK #[ν xk,ν xm,ν xn] 196)=w4 at*;obtain⟨bx,bQ⟩:∃bx,bx=wr.heap.size:=⟨_,rfl⟩;have dN:=η bQ;rw [<-bQ] at oY mM ⊢;clear bQ;have lF:=η (HF.o.below ar.o);have bP:Hid (¬eY db p1 bx):=η (λh=>by have:=mW.o bx h;rw [dN.o] at this;omega);have lU:=η (λW (hW:β w4 W)=>Gd db p1 E xk xm 1 0 0 xn W (lF.o.below hW) dP.o ⟨oN.o.1,oN.o.2.1⟩ ⟨by decide,by decide⟩ (by decide) oN.o.2.2.1 oN.o.2.2.2);have bW:Hid (∀W,β w4 W->W.cell? ⟨db,8,aB⟩=aC (π p1.vb)/\W.cell? ⟨bx,0,aB⟩=aC (ν xk)/\W.cell? ⟨bx,1,aB⟩=aC (ν xm)/\W.cell? ⟨bx,2,aB⟩=aC (ν xn)):=η (λW hW=>by have hd:=(hW.block bx mM).trans oY.o;exact⟨(lF.o.below hW).cells.c8,ρ hd,ρ hd,ρ hd⟩);have Kv:Hid (∀V W,β w4 V->aq db p1 {E with l:=bg E xk xm 1 0 0 xn} V W->W.cell? ⟨db,8,aB⟩=aC (π p1.vb)->W.cell? ⟨db,8,aB⟩=aC (π p1.vb)/\W.cell? ⟨bx,0,aB⟩=aC (ν xk)/\W.cell? ⟨bx,1,aB⟩=aC (ν xm)/\W.cell? ⟨bx,2,aB⟩=aC (ν xn)):=η (λW W' hW h h8=>by have hz:=cR mM hW.size;obtain⟨_,q0,q1,q2⟩:=bW.o W hW;exact⟨h8,(h.cell 0 hz bP.o).trans q0,(h.cell 1 hz bP.o).trans q1,(h.cell 2 hz bP.o).trans q2⟩);have bU:β w4 w4.drew:=(aX _ _).drew;have hdd:=bW.o _ bU;go_region_held3 (λW=>W.cell? ⟨db,8,aB⟩=aC (π p1.vb)/\W.cell? ⟨bx,0,aB⟩=aC (ν xk)/\W.cell? ⟨bx,1,aB⟩=aC (ν xm)/\W.cell? ⟨bx,2,aB⟩=aC (ν xn)) (first|(with_reducible assumption)) (first|(go_at_call 61;refine(wY _).mono ?_;rintro e w5 ⟨rfl,gG⟩;have pd:β w4 w5:=jl (by with_reducible assumption) (gG.mono (gS (by with_reducible assumption)));have hcc:=bW.o _ pd)|(go_at_call 87;refine(lU.o _ (by with_reducible assumption)).mono ?_;rintro e w7 ⟨rfl,dD,hcm⟩;have zn:=Kv.o _ _ (by with_reducible assumption) dD hcm))
    all_goals
     have gA:Hid (aq db p1 {E with l:=bg E xk xm 1 0 0 xn} wr w7):=η (aq.trans (bC.bV _ (ar.o.trans (Below.mono (by with_reducible assumption) ar.o.size))) (λ_ h=> .inl h) ⟨rfl,rfl,rfl,rfl⟩ dD);obtain⟨_,m0,m1,m2⟩:=zn;have Hv:bx<w7.heap.size:=World.block_lt_of_cell? _ _ m0;clear dD hcm gG pd hcc bU hdd lU bW lF ar Kv oY mM;obtain⟨p4,H4,e1,e2,e3,e4,py,jv⟩:=gA.o;have kU:=η (H4.below ((aX w7.heap.size w7).alloc (aZ _) (aK #[ν 10,ν xm,ν 0,ν xn,ν xk] 45)));have kW:=η (wx db p4 {E with l:=bg E xk xm 1 0 0 xn} [⟨10,xm,0,xn,xk⟩] w7.heap.size 1 _ kU.o (dM w7 45 #[ν 10,ν xm,ν 0,ν xn,ν xk] rfl) (by simp) (by simp) (by have:=dP.o.gl;simp only;omega));have pO:Hid (∀W,aq db p4 {E with l:=bg E xk xm 1 0 0 xn,log:=E.log++ [⟨10,xm,0,xn,xk⟩]} (w7.alloc (aK #[ν 10,ν xm,ν 0,ν xn,ν xk] 45)) W->aq db p (o8 D (L.take (k+1))) w2 W):=η (λW h=>by rw [HL.o,ug.o];exact HT.o W _ (aq.trans py jv ⟨e1,e2,e3,e4⟩ (aq.trans (bC.bV _ σ) (λ_ h=> .inl h) ⟨rfl,rfl,rfl,rfl⟩ h)));clear H4 e1 e2 e3 e4 py jv gA;go_wp2_with (go_at_call 55;refine kW.o.mono ?_;rintro e w8 ⟨rfl,h8⟩;have dt:=η (pO.o _ h8);clear h8)
     go_roundw
     case rel=>exact⟨k+1,by omega,by go_num,dt⟩
     case measure=>simp [ag];omega
   obtain rfl:k=aA L:=by omega
   rw [cU] at HP;go_wp2_with fail
   go_end0
   exact⟨rfl,aq.trans (bC.bV _ aV.o) (λ_ h=> .inl h) ⟨rfl,rfl,rfl,rfl⟩ HP.o⟩
theorem aIc {w:aJ} {base:Nat} {A:Option ai} {n c m:Nat} {e:bX} {xs:List aN}(h:w.ownsRow base e m (aH A n c) n xs)(hA:A=aB):n=0/\c=0:=by
 rcases h.2 with⟨h1,h2⟩|⟨g,cap,cur,h1,_⟩
 ·injection h1 with h3 h4 h5;exact⟨h4,h5⟩
 rw [hA] at h1;injection h1 with h3;cases h3
def iR(w w':aJ)(A:Option ai)(c:Nat)(L:List Lg):Prop:=aW w' w'.heap.size A (bA L)/\(∀q,A=aC q->w.heap.size<=q.block)/\(A=aB->aA L=0/\c=0)
theorem iR.nil {w w':aJ}:iR w w' aB 0 []:=⟨aW.nil,(λq h=>by cases h),λ_=>⟨rfl,rfl⟩⟩
theorem iR.below {w w1 w2:aJ} {A:Option ai} {c:Nat} {L:List Lg}(h:iR w w1 A c L)(hb:aa w1.heap.size w1 w2):iR w w2 A c L:=⟨(h.1.below hb).mono hb.size,h.2⟩
theorem iR.wide {w0 w w1:aJ} {A:Option ai} {c:Nat} {L:List Lg}(h:iR w w1 A c L)(hz:w0.heap.size<=w.heap.size):iR w0 w1 A c L:=⟨h.1,λq hq=>cC hz (h.2.1 q hq),h.2.2⟩
theorem iR.cA {w w':aJ} {A:Option ai} {c:Nat} {L:List Lg}(h:w'.ownsRow w.heap.size 76 3 (aH A (aA L) c) (aA L) (bA L)):iR w w' A c L:=
 ⟨aW.cA h,λq hq=>(h.lt q.block (by rw [hq];rfl)).1,aIc h⟩
theorem iR.src {w w':aJ} {A:Option ai} {c:Nat} {L:List Lg}(h:iR w w' A c L):sN w' A c L:=⟨h.1,h.2.2⟩
def a9N(L:List Lg)(w:aJ):di->aJ->Prop:=λe w'=>∃A c,e=aU (aH A (aA L) c)/\iR w w' A c L/\aa w.heap.size w w'
def Tg(w:aJ)(g l:List Lg)(err:Int):di->aJ->Prop:=λe w'=>∃A c B d,e=aU (bB #[aH A (aA g) c,aH B (aA l) d,aG aF err])/\iR w w' A c g/\iR w w' B d l/\aa w.heap.size w w'
def FQ(l:List Lg)(e:Int)(w:aJ)(ed:di)(w':aJ):Prop:=∃A c,ed=aU (bB #[aH A (aA l) c,aG aF e])/\iR w w' A c l/\aa w.heap.size w w'
def aBp(x:ak)(L:List Lg)(w:aJ)(e:di)(w':aJ):Prop:=
 (wthsE x L≠0/\FQ [] (wthsE x L) w e w')\/(wthsE x L=0/\∃ks:List Int,ks.Pairwise (· < ·)/\(∀q,q∈ks↔∃y∈L,y.m=q)/\FQ (rM (lq x L) ks) (gatE (lq x L) ks) w e w')
def a9K(A B:List Lg)(w:aJ)(e:di)(w':aJ):Prop:=
 (rY A B≠0/\FQ [] (rY A B) w e w')\/(rY A B=0/\∃ks:List Int,ks.Pairwise (· < ·)/\(∀q,q∈ks↔∃y∈A++B,y.m=q)/\FQ (nP (fS (A++B)) ks) 0 w e w')
theorem a6m(L:List Lg)(xs:List Int)(A A':Option ai)(c c' bc:Nat)(w:aJ)(hs:aW w w.heap.size A (bA L))(hs':aW w w.heap.size A' (xs.map (aG aF)))(hb:w.cell? ⟨bc,0,aB⟩=aC (aH A (aA L) c))(gG:bc<w.heap.size)(hl:aA L<=100000)(hx:aA xs=aA L):
 aQ aM 196 #[aH A' (aA xs) c',π bc] w (a9N (ej L xs) w):=by
 obtain⟨i0,bj,hz0,fh,hz2⟩:=dK a4l;have HS:=η hs;have TM:=η hs';have dN:=η hb;have HX:=η hx;have mq:aA xs<=100000:=by omega
 clear hs hs' hb hx;go_enter func196,ntmps196
 go_wp2_with fail
 go_loopw [4,5,6,9] (λu _ _ i wr=>∃k:Nat,k<=aA xs/\i=ν k/\Hid (wr.ownsRow w.heap.size 76 3 u (aA (ej (L.take k) (xs.take k))) (bA (ej (L.take k) (xs.take k))))/\Hid (β w wr)) (λ_ _ _ i _=>aA xs-(ag i).toNat)
 case atStart=>exact⟨0,bL _,rfl,⟨by simp [ej,bA],aS ⟨rfl,rfl⟩⟩,aX _ _⟩
 case round=>
  obtain⟨k,hk,rfl,HO,HB⟩:=hrel;have hsz:=HB.o.size;by_cases hlt:k<aA xs
  ·have W6:k<aA L:=by have:=HX.o;omega
   obtain⟨b',o',rfl,hb',hc'⟩:=(TM.o.below HB.o).at (k:=k) (by simpa using hlt);rw [wQ] at hc';have HF:=η (aK7 W6 hlt);have Ba:=aK6 L xs k;by_cases hp:0<xs[k]
   ·obtain⟨b,o,rfl,hb2,-,-,-⟩:=oG (HS.o.below HB.o) W6;have Kw:Hid (∀W,β w W->W.cell? ⟨bc,0,aB⟩=aC (aH (aC ⟨b,o,aB⟩) (aA L) c)/\W.cell? ⟨b,o+k*3,aB⟩=aC (ν L[k].m)/\W.cell? ⟨b,o+k*3+1,aB⟩=aC (ν L[k].a)):=λW hW=>by
     obtain⟨b9,o9,e9,_,d0,d1,d2⟩:=oG (HS.o.below hW) W6;injection e9 with e9;injection e9 with Uw Ux;subst Uw Ux;exact⟨(hW.cell (p:=⟨bc,0,aB⟩) gG).trans dN.o,d0,d1⟩
    obtain⟨q0,q1,q2⟩:=Kw.o _ HB.o;rw [ifP hp] at HF;have eV:(0:Int)<=(k:Int):=by omega
    have hkb:(k:Int)<(aA L:Int):=by omega
    generalize ej (L.take k) (xs.take k)=ys at*;go_wp2_with fail
    go_region_held3 (λw'=>w'.cell? ⟨bc,0,aB⟩=aC (aH (aC ⟨b,o,aB⟩) (aA L) c)/\w'.cell? ⟨b,o+k*3,aB⟩=aC (ν L[k].m)/\w'.cell? ⟨b,o+k*3+1,aB⟩=aC (ν L[k].a)) (first|(with_reducible exact Kw.o _ HB.o.drew)|(with_reducible exact Kw.o _ (HB.o.drew.alloc hsz _))|exact Kw.o _ (HB.o.alloc hsz _).drew|(with_reducible exact Kw.o _ pP.o)) ((refine AL _ rfl _ _ 39 rfl w.heap.size 76 i0 _ 3 24 sU bj hz0 fh hz2 rfl (by decide) _ (aA ys) (bA ys) rfl (HO.o.alloc _) ⟨wr.heap.size,0,aB⟩ 1 1 (Lg.cells ⟨L[k].m,L[k].a,xs[k]⟩) rfl rfl (dM _ _ #[_,_,_] (by simp)) (a4i ⟨L[k].m,L[k].a,xs[k]⟩) (by decide) (by simp only [bK];omega) (by omega) (by simp;omega) _ rfl ?_;intro g cap w4 hown1 dE _ _;have dU:=η hown1;have pP:Hid (β w w4):=(HB.o.alloc hsz _).drew.grown dE (by show w.heap.size<=(wr.alloc _).heap.size;simp;omega) (λj hj=>ei HO.o j hj);clear hown1 dE))
    have fK:Hid (w4.ownsRow w.heap.size 76 3 (aH (aC ⟨g,0,aB⟩) (aA ys+1) cap) (aA (ej (L.take (k+1)) (xs.take (k+1)))) (bA (ej (L.take (k+1)) (xs.take (k+1))))):=by show jn _ _ _ _ _ _ _;rw [HF.o,a4k,cL,uC];exact dU.o
    go_wp2_with fail
    go_roundw
    case rel=>exact⟨k+1,by omega,by go_num,fK,pP⟩
    case measure=>simp [ag];omega
   rw [ifN hp,List.append_nil] at HF;have jd:=HO.o;rw [<-HF.o] at jd;have cF:=η jd;clear jd;go_wp2_with fail
   go_roundw
   case rel=>exact⟨k+1,by omega,by go_num,cF,HB⟩
   case measure=>simp [ag];omega
  obtain rfl:k=aA xs:=by omega
  have hO:=HO.o;rw [cU,List.take_of_length_le (by have:=HX.o;omega)] at hO;obtain⟨A1,c1,rfl⟩:=bJ hO;have qJ:Hid (iR w _ A1 c1 (ej L xs)):=η (iR.cA hO);clear hO;go_wp2_with fail
  go_ret;exact⟨A1,c1,rfl,qJ.o,HB.o⟩
theorem a6x(cD:Int)(L:List Lg)(A:Option ai)(c:Nat)(w:aJ)(hA:aL cD)(hs:aW w w.heap.size A (bA L))(hI:∀x∈L,aL x.n)(hl:aA L<=100000):
 aQ aM 137 #[ν cD,aH A (aA L) c] w (Tg w (jb cD L) (jh cD L) (jD cD L)):=by
 have hb0:β w (w.alloc (aK #[aH A (aA L) c] 39)):=(aX _ _).alloc (aZ _) _;have hs0:=(hs.below hb0).mono hb0.size;have HC:=η (a6j cD L A c _ hA hs0 hI hl);have aY:=η hb0;have CU:=η hs0;have dN:Hid (∀W,aa (w.heap.size+1) (w.alloc (aK #[aH A (aA L) c] 39)) W->W.cell? ⟨w.heap.size,0,aB⟩=aC (aH A (aA L) c)):=λW hW=>by rw [hW.cell (p:=⟨w.heap.size,0,aB⟩) (by simp),cM _ _ _ _ rfl];rfl
 have HV:=η (show jb cD L=if jD cD L=0 then ej L (dJ cD (bF L)) else [] from rfl);have HW:=η (show jh cD L=if jD cD L=0 then ej L (oH (bF L) (dJ cD (bF L))) else [] from rfl);have a3u:(w.alloc (aK #[aH A (aA L) c] 39)).heap.size=w.heap.size+1:=by simp
 have HI:=η hI;have Sj:=η hA;have Zg:=η a3u;clear hs hs0 hb0 hI hA a3u;by_cases h0:jD cD L=0
 ·have pN:=η (PN h0).1;have hG:=ET pN.o;have Ae:=η hG.len;have Im:=η hG.err;have lx:=η (aHC pN.o);have Ds:Hid (jb cD L=ej L (dJ cD (bF L))):=by show _=_;rw [HV.o,ifP h0]
  have lH:Hid (jh cD L=ej L (oH (bF L) (dJ cD (bF L)))):=by show _=_;rw [HW.o,ifP h0]
  have HE:=η h0;have Ib:Hid (∀x∈dJ cD (bF L),aL x):=λx hx=>by
   obtain⟨i,hi,rfl⟩:=sR.1 hx;have hi':i<aA (bF L):=by rw [<-hG.len];exact hi
   have:=hG.bd i hi hi';have:=Lh HI.o _ (cK hi');unfold aL at*;omega
  clear hG HV HW;rw [h0] at HC;clear h0;go_enter aA8,aAv
  go_wp2_with fail
  refine HC.o.mono ?_;rintro e w1 ⟨rfl,hb1⟩;have aR:Hid (aa (w.heap.size+1) (w.alloc (aK #[aH A (aA L) c] 39)) w1):=by rw [<-Zg.o];exact hb1
  have sz1:w.heap.size<w1.heap.size:=by have:=aR.o.size;have:=Zg.o;omega
  have c1:=dN.o _ aR.o;have cW:Hid (aW w1 w1.heap.size A (bA L)):=(CU.o.below hb1).mono hb1.size;have E7:Hid (β w w1):=aY.o.trans (hb1.mono (by simp));clear hb1 HC;go_wp2_with fail
  refine(UM L A c _ cW.o hl).mono ?_;rintro e w2 ⟨A2,k2,rfl,hs2,hb2⟩;have cP:=η hs2;have aV:Hid (aa (w.heap.size+1) (w.alloc (aK #[aH A (aA L) c] 39)) w2):=aR.o.trans (hb2.mono (by omega));have sz2:w.heap.size<w2.heap.size:=by have:=hb2.size;omega
  have a8p:Hid (aW w2 w2.heap.size A (bA L)):=(cW.o.below hb2).mono hb2.size;have qK:Hid (β w w2):=E7.o.trans (hb2.mono (by omega));have rO:aA (bF L)<=bK:=by rw [qP];unfold bK;omega
  have aFc:aA (bF L)<=1000000:=by rw [qP];omega
  clear hs2 hb2 c1;go_wp2_with fail
  refine(YF cD (bF L) A2 k2 _ Sj.o (Lh HI.o) cP.o rO).mono ?_;rintro e w3 ⟨A3,k3,rfl,hs3,hb3⟩;have sJ:=η hs3;have af:Hid (aa (w.heap.size+1) (w.alloc (aK #[aH A (aA L) c] 39)) w3):=aV.o.trans (hb3.mono (by omega));have sz3:w.heap.size<w3.heap.size:=by have:=hb3.size;omega
  have a8r:Hid (aW w3 w3.heap.size A (bA L)):=(a8p.o.below hb3).mono hb3.size;have a8q:Hid (aW w3 w3.heap.size A2 ((bF L).map (aG aF))):=(cP.o.below hb3).mono hb3.size;have zC:Hid (β w w3):=qK.o.trans (hb3.mono (by omega));clear hs3 hb3;go_wp2_with fail
  refine(a9Z (bF L) (dJ cD (bF L)) A2 A3 k2 k3 _ (Lh HI.o) a8q.o sJ.o aFc).mono ?_;rintro e w4 ⟨A4,k4,rfl,jv,hb4⟩;have kH:=η jv;have ar:Hid (aa (w.heap.size+1) (w.alloc (aK #[aH A (aA L) c] 39)) w4):=af.o.trans (hb4.mono (by omega));have sz4:w.heap.size<w4.heap.size:=by have:=hb4.size;omega
  have c4:=dN.o _ ar.o;have ZT:Hid (aW w4 w4.heap.size A (bA L)):=(a8r.o.below hb4).mono hb4.size;have a8s:Hid (aW w4 w4.heap.size A3 ((dJ cD (bF L)).map (aG aF))):=(sJ.o.below hb4).mono hb4.size;have rB:Hid (β w w4):=zC.o.trans (hb4.mono (by omega));have xl1:Hid (aA (dJ cD (bF L))=aA L):=by show _=_;rw [Ae.o,qP]
  have xl2:Hid (aA (oH (bF L) (dJ cD (bF L)))=aA L):=by show _=_;rw [lx.o.1,qP]
  clear jv hb4;go_wp2_with fail
  refine(a6m L (dJ cD (bF L)) A A3 c k3 w.heap.size _ ZT.o a8s.o c4 sz4 hl xl1.o).mono ?_;rintro e w5 ⟨A5,k5,rfl,hs5,dG⟩;have J4:=η (hs5.wide rB.o.size);have cz:Hid (aa (w.heap.size+1) (w.alloc (aK #[aH A (aA L) c] 39)) w5):=ar.o.trans (dG.mono (by omega));have sz5:w.heap.size<w5.heap.size:=by have:=dG.size;omega
  have c5:=dN.o _ cz.o;have a8u:Hid (aW w5 w5.heap.size A (bA L)):=(ZT.o.below dG).mono dG.size;have a8t:Hid (aW w5 w5.heap.size A4 ((oH (bF L) (dJ cD (bF L))).map (aG aF))):=(kH.o.below dG).mono dG.size;have CW:Hid (β w w5):=rB.o.trans (dG.mono (by omega));clear hs5 dG c4;go_wp2_with fail
  refine(a6m L (oH (bF L) (dJ cD (bF L))) A A4 c k4 w.heap.size _ a8u.o a8t.o c5 sz5 hl xl2.o).mono ?_;rintro e w6 ⟨A6,k6,rfl,hs6,iL⟩;have OH:=η (hs6.wide CW.o.size);have a8v:Hid (iR w w6 A5 k5 (ej L (dJ cD (bF L)))):=J4.o.below iL;have TR:Hid (β w w6):=CW.o.trans (iL.mono (by omega));clear hs6 iL c5;go_wp2_with fail
  go_ret3;rw [Ds.o,lH.o,HE.o];exact⟨A5,k5,A6,k6,rfl,a8v.o,OH.o,TR.o⟩
 have Ds:Hid (jb cD L= []):=by show _=_;rw [HV.o,ifN h0]
 have lH:Hid (jh cD L= []):=by show _=_;rw [HW.o,ifN h0]
 have h0b:(jD cD L !=0)=aO:=by simpa [bne] using h0
 rw [Ds.o,lH.o];clear h0 HV HW Ds lH;generalize jD cD L=E at*;generalize AJ cD L=V at*;go_enter aA8,aAv
 go_wp2_with fail
 refine HC.o.mono ?_;rintro e w1 ⟨rfl,hb1⟩;have E7:Hid (β w w1):=aY.o.trans (hb1.mono (by simp));clear hb1;go_wp2_with fail
 go_ret3;exact⟨aB,0,aB,0,rfl,iR.nil,iR.nil,E7.o⟩
theorem a2s {w:aJ} {base b:Nat} {m:List (Int×aN)} {f:Int->List Int}(h:lA w base b m f)(hl:aA m<=100000)(hf:∀k,aA (f k)<=100000/\∀z∈f k,aL z):
 aQ aM 198 #[.map (aC b)] w (FQ (rM f (nX m)) (gatE f (nX m)) w):=by
 obtain⟨i0,bj,hz0,fh,hz2⟩:=dK N3;have HG:=η h;have wM:=η (aKC h (by omega));have HF:=η hf;have eC:=aGu m;have O1:Hid (∀k∈nX m,aL k):=η λk hk=>by have h1:k∈m.map (·.1):=(Zo _ _).mem_iff.1 hk;obtain⟨p,hp,rfl⟩:=dV.1 h1;exact h.dom p hp
 generalize Jp:nX m=ks at*;have O2:=η Jp;have iW:=hl;rw [<-eC] at iW;clear h hf Jp;go_enter func198,ntmps198
 go_wp2_with (first|(go_at_call 231;refine(aGv _ _).mono ?_;rintro e w' ⟨rfl,rfl⟩)|(go_at_call 230;refine wM.o.mono ?_;rintro e w1 ⟨A,c,rfl,hs1,hb1⟩;rw [<-eC];have cW:=η hs1;have aR:Hid (β w w1):=η (((aX _ w).alloc (aZ _) _).trans (hb1.mono (by omega)));clear hs1 hb1))
 have HZW:Hid (w.heap.size<=w1.heap.size):=η aR.o.size;go_loopw [4,6,7,8,13] (λu _ _ _ i wr=>∃k:Nat,k<=aA ks/\i=ν k/\Hid (∀j (hj:j<aA ks),j<k->aL (sumI (f ks[j])))/\Hid (wr.ownsRow w1.heap.size 76 3 u (aA (nP f (ks.take k))) (bA (nP f (ks.take k))))/\Hid (β w1 wr)) (λ_ _ _ _ i _=>aA ks-(ag i).toNat)
 case atStart=>exact⟨0,bL _,rfl,λj hj h=>absurd h (Nat.not_lt_zero _),⟨by simp [nP,bA],aS ⟨rfl,rfl⟩⟩,aX _ _⟩
 case round=>
  obtain⟨k,hk,rfl,HK,HO,HB⟩:=hrel;have hsz:=HB.o.size;have aGO:=aR.o.size;have cE:Hid (β w wr):=η (aR.o.trans (HB.o.mono aGO));by_cases hlt:k<aA ks
  ·obtain⟨b',o',rfl,hb',hc'⟩:=(cW.o.below HB.o).at (k:=k) (by simpa using hlt);rw [wQ] at hc';have Ei:aL ks[k]:=O1.o _ (cK hlt);have Sg:=η (HG.o.below (aZ _) cE.o);have aGC:=Sg.o.look (q:=ks[k]) Ei GI;obtain⟨A2,c2,jf⟩:=bJ (Sg.o.slot ks[k]);rw [jf] at aGC;have CV:Hid (aW wr wr.heap.size A2 ((f ks[k]).map (aG aF))):=η (aW.cA (jf▸Sg.o.slot ks[k]));have gV:=(HF.o ks[k]).1;have Il:=η (HF.o ks[k]).2;have cG:=η (aFI f hlt);have Ba:aA (nP f (ks.take k))<=100000:=by unfold nP;rw [iK,ur];omega
   have Ss:Hid (∀j (hj:j<aA ks),j<k->aL (sumI (f ks[j]))):=HK;by_cases zj:aL (sumI (f ks[k]))
   ·have lT:Hid (∀j (hj:j<aA ks),j<k+1->aL (sumI (f ks[j]))):=η λj hj h=>by
     by_cases e:j=k
     ·subst e;exact zj
     exact Ss.o j hj (by omega)
    have hV:=(dy zj).1;have hE:=(dy zj).2;generalize hq:ks[k]=q at*;have HQ:=η hq;clear hq zj HK;generalize jg:sumI (f q)=sm at*;have Ff:=η jg;clear jg;generalize nP f (ks.take k)=ys at*;go_wp2_with (first|(go_at_call 104;refine(Dg (f q) A2 c2 _ Il.o CV.o (by omega)).mono ?_;rintro e w2 ⟨rfl,hb2⟩;rw [Ff.o,hV,hE];have aV:=η hb2;have sz2:=hb2.size;clear hb2)|(at_builtin;refine iw _ rfl _ _ 39 rfl w1.heap.size 76 i0 _ 3 24 sU bj hz0 fh hz2 rfl (by decide) _ (aA ys) (bA ys) rfl ((NH HO.o aV.o).alloc _) ⟨w2.heap.size,0,aB⟩ 1 1 (Lg.cells ⟨q,0,sm⟩) rfl rfl (dM _ _ #[_,_,_] (by simp)) (K7 ⟨q,0,sm⟩) (by simp only [bK];omega) (by omega) (by simp;omega) ?_))
    intro v' w4 hown1 dE _;obtain⟨A4,c4,rfl⟩:=bJ hown1;have fK:Hid (w4.ownsRow w1.heap.size 76 3 (aH A4 (aA ys+1) c4) (aA (nP f (ks.take (k+1)))) (bA (nP f (ks.take (k+1))))):=by show jn _ _ _ _ _ _ _;rw [cG.o,aH6,cL,uC];exact hown1
    have ar:Hid (β w1 w4):=η (((HB.o.trans (aV.o.mono hsz)).alloc (by omega) _).grown dE (by simp;omega) (λj hj=>ei HO.o j hj));clear hown1 dE;go_wp2_with fail
    go_roundw
    case rel=>exact⟨k+1,by omega,by go_num,lT,fK,ar⟩
    case measure=>simp [ag];omega
   have hE:=(gh zj).2;have xZ:=η (a2p hlt (λj hj=>HK.o j (by omega) hj) zj);generalize hq:ks[k]=q at*;go_wp2_with (go_at_call 104;refine(Dg (f q) A2 c2 _ Il.o CV.o (by omega)).mono ?_;rintro e w2 ⟨rfl,hb2⟩;rw [hE];have aV:=η hb2;have sz2:=hb2.size;clear hb2)
   go_ret2;refine⟨aB,0, ?_, ?_,cE.o.trans (aV.o.mono cE.o.size)⟩
   ·rw [xZ.o];unfold rM;rw [xZ.o,ifN (by decide)];rfl
   unfold rM;rw [xZ.o,ifN (by decide)];exact iR.nil
  obtain rfl:k=aA ks:=by omega
  have hE:=V9 (f:=f) (ks:=ks) λj hj=>HK.o j hj hj
  have hO:=HO.o;rw [cU] at hO;obtain⟨A3,c3,rfl⟩:=bJ hO;have qJ:=η ((iR.cA (w:=w1) (L:=nP f ks) hO).wide HZW.o);have hL:rM f ks=nP f ks:=by unfold rM;rw [ifP hE]
  have CH:=η (kT hL hE);clear hO hE hL;go_wp2_with fail
  go_ret2;exact⟨A3,c3,by rw [CH.o.1,CH.o.2];rfl,by rw [CH.o.1];exact qJ.o,cE.o⟩
theorem aIj(cd:Int)(L:List Lg)(A:Option ai)(c:Nat)(w:aJ)(hA:aL cd)(hs:aW w w.heap.size A (bA L))(hI:∀x∈L,aL x.n)(hl:aA L<=100000):
 aQ aM 142 #[ν cd,aH A (aA L) c] w (Tg w (zU cd L) (zV cd L) (yI cd L)):=by
 have HC:=η (Uf L A c w hs hI hl);have HP:Hid (∀W,β w W->aQ aM 137 #[ν cd,aH A (aA L) c] W (Tg W (jb cd L) (jh cd L) (jD cd L))):=η λW hW=>a6x cd L A c W hA ((hs.below hW).mono hW.size) hI hl
 clear hs hI hA;by_cases he:nz L=0
 ·obtain⟨e1,e2,e3⟩:=aIk (cd:=cd) he;rw [e1,e2,e3];rw [he] at HC;clear e1 e2 e3 he;go_enter aA9,aAw
  go_wp2_with fail
  refine HC.o.mono ?_;rintro e w1 ⟨rfl,hb1⟩;have aR:=η hb1;have hz:=hb1.size;clear hb1;go_wp2_with fail
  refine(HP.o w1 aR.o).mono ?_;rintro e w2 ⟨A1,c1,A2,c2,rfl,hs1,hs2,hb2⟩;have cW:=η (hs1.wide hz);have cP:=η (hs2.wide hz);have aV:Hid (β w w2):=η (aR.o.trans (hb2.mono hz));clear hs1 hs2 hb2;go_wp2_with fail
  go_ret3;exact⟨A1,c1,A2,c2,rfl,cW.o,cP.o,aV.o⟩
 obtain⟨e1,e2,e3⟩:=aIi (cd:=cd) he;rw [e1,e2,e3];generalize nz L=ce at*;clear e1 e2 e3;go_enter aA9,aAw
 go_wp2_with fail
 refine HC.o.mono ?_;rintro e w1 ⟨rfl,hb1⟩;have aR:=η hb1;clear hb1;go_wp2_with fail
 go_ret3;exact⟨aB,0,aB,0,rfl,iR.nil,iR.nil,aR.o⟩
theorem a9L(X Y:List Lg)(A B:Option ai)(c d:Nat)(w:aJ)(hA:sN w A c X)(hB:sN w B d Y)(hX:aA X<=500)(hY:aA Y<=500)(Ps:∀y∈X,aL y.m/\aL y.n)(Pt:∀y∈Y,aL y.m/\aL y.n):
 aQ aM 141 #[aH A (aA X) c,aH B (aA Y) d] w (a9K X Y w):=by
 have CE:Hid (∀W,β w W->aQ aM 188 #[aH A (aA X) c] W λe w'=>e=aU (ν (dA X))/\β W w'):=η λW hW=>PM X A c W (hA.below hW).dh (λy hy=>(Ps y hy).2) (by omega)
 have Dq:Hid (∀W,β w W->aQ aM 188 #[aH B (aA Y) d] W λe w'=>e=aU (ν (dA Y))/\β W w'):=η λW hW=>PM Y B d W (hB.below hW).dh (λy hy=>(Pt y hy).2) (by omega)
 have HKA:Hid (∀W,β w W->aQ aM 199 #[aH A (aA X) c] W λe w'=>e=aU (ν (nz X))/\β W w'):=η λW hW=>Uf X A c W (hA.below hW).dh (λy hy=>(Ps y hy).2) (by omega)
 have FY:Hid (∀W,β w W->aQ aM 199 #[aH B (aA Y) d] W λe w'=>e=aU (ν (nz Y))/\β W w'):=η λW hW=>Uf Y B d W (hB.below hW).dh (λy hy=>(Pt y hy).2) (by omega)
 have aR:Hid (β w (w.alloc (aK #[aH A (aA X) c,aH B (aA Y) d] 39))):=η σ;have g0:(w.alloc (aK #[aH A (aA X) c,aH B (aA Y) d] 39)).cell? ⟨w.heap.size,0,aB⟩=aC (aH A (aA X) c):=by rw [cM _ _ _ _ rfl];rfl
 have g1:(w.alloc (aK #[aH A (aA X) c,aH B (aA Y) d] 39)).cell? ⟨w.heap.size,1,aB⟩=aC (aH B (aA Y) d):=by rw [cM _ _ _ _ rfl];rfl
 have Mr:w.heap.size<(w.alloc (aK #[aH A (aA X) c,aH B (aA Y) d] 39)).heap.size:=by simp
 have HA:=η hA;have HB:=η hB;have Z1:=η Ps;have Z2:=η Pt;clear hA hB Ps Pt;have mG:= @run_makeMap aM;go_enter func141,ntmps141
 go_wp2_with fail
 have G0:=η g0;have G1:=η g1;generalize w.alloc (aK #[aH A (aA X) c,aH B (aA Y) d] 39)=w1 at*;refine uY 3 ?_;rw [eA];go_wp2_with fail
 refine(CE.o _ aR.o).mono ?_;rintro e w2 ⟨rfl,hb2⟩;have aV:Hid (β w w2):=τ aR hb2;have r0:w2.cell? ⟨w.heap.size,0,aB⟩=aC (aH A (aA X) c):=(hb2.cell (p:=⟨w.heap.size,0,aB⟩) Mr).trans G0.o;have r1:w2.cell? ⟨w.heap.size,1,aB⟩=aC (aH B (aA Y) d):=(hb2.cell (p:=⟨w.heap.size,1,aB⟩) Mr).trans G1.o;have aGQ:w.heap.size<w2.heap.size:=by have:=hb2.size;omega
 have R1:=η r1;clear hb2 aR G0 G1 Mr;rcases a4Q X Y with⟨h1,h2⟩|⟨h1,h2,h3⟩|⟨h1,h2,h3,h4⟩|⟨h1,h2,h3,h4,h5⟩|⟨h1,h2,h3,h4,h5⟩
 ·have HE:=η h2;have HN:Hid (rY X Y≠0):=η (by rw [h2];exact h1);clear h2;go_wp2_with fail
  go_ret2;exact aS ⟨HN.o,aB,0,by rw [HE.o];rfl,iR.nil,aV.o⟩
 all_goals
  rw [h1];go_wp2_with fail
  rw [eA];go_wp2_with fail
  refine(Dq.o _ aV.o).mono ?_;rintro e w3 ⟨rfl,hb3⟩;have af:Hid (β w w3):=τ aV hb3;clear hb3 aV r0 r1 aGQ R1
 ·have HE:=η h3;have HN:Hid (rY X Y≠0):=η (by rw [h3];exact h2);clear h3;go_wp2_with fail
  go_ret2;exact aS ⟨HN.o,aB,0,by rw [HE.o];rfl,iR.nil,af.o⟩
 all_goals
  rw [h2];go_wp2_with fail
  rw [eA];go_wp2_with fail
  refine(HKA.o _ af.o).mono ?_;rintro e w4 ⟨rfl,hb4⟩;have ar:Hid (β w w4):=τ af hb4;clear hb4 af
 ·have HK:nz X=1:=by unfold nz;rw [ifN (by omega),ifP h3]
  rw [HK];have HE:=η h4;have HN:Hid (rY X Y≠0):=η (by rw [h4];decide);clear h4 HK;go_wp2_with fail
  go_ret2;exact aS ⟨HN.o,aB,0,by rw [HE.o];rfl,iR.nil,ar.o⟩
 all_goals
  rw [show nz X=0 from by unfold nz;rw [ifN (by omega),ifN (by rw [h3];decide)]];go_wp2_with fail
  refine(FY.o _ ar.o).mono ?_;rintro e w5 ⟨rfl,dG⟩;have cz:Hid (β w w5):=τ ar dG;clear dG ar
 ·have HK:nz Y=1:=by unfold nz;rw [ifN (by omega),ifP h4]
  rw [HK];have HE:=η h5;have HN:Hid (rY X Y≠0):=η (by rw [h5];decide);clear h5 HK;go_wp2_with fail
  go_ret2;exact aS ⟨HN.o,aB,0,by rw [HE.o];rfl,iR.nil,cz.o⟩
 rw [show nz Y=0 from by unfold nz;rw [ifN (by omega),ifN (by rw [h4];decide)]];go_wp2_with fail
 obtain⟨L,hL⟩:∃L,L=X++Y:=⟨_,rfl⟩;have HL:=η hL;have iL:β w5 ((w5.alloc (.map #[] 0)).alloc (aK #[aH A (aA X) c,aH B (aA Y) d] 39)):=σ.alloc (by simp) _;have AY:=η (aDr X Y A B c d (w5.heap.size+1) _ (HA.o.below (cz.o.trans (iL.mono cz.o.size))) (HB.o.below (cz.o.trans (iL.mono cz.o.size))) (by rw [cM _ _ _ _ (by simp)];rfl) (by rw [cM _ _ _ _ (by simp)];rfl) (by simp) (by omega) (by omega));have hg7:=lA.made w5;have zt:((w5.alloc (.map #[] 0)).alloc (aK #[aH A (aA X) c,aH B (aA Y) d] 39)).heap.size=w5.heap.size+2:=by simp
 have gD:aa w5.heap.size (w5.alloc (.map #[] 0)) ((w5.alloc (.map #[] 0)).alloc (aK #[aH A (aA X) c,aH B (aA Y) d] 39)):=(aX _ _).alloc (by simp) _;have QC:=hg7.below (B:=(w5.alloc (.map #[] 0)).heap.size) (aZ _) ((aX _ _).alloc (aZ _) (aK #[aH A (aA X) c,aH B (aA Y) d] 39));rw [<-hL] at AY;have wL:=η zt;have iz:=η QC;have gz:=η iL;clear iL hg7 zt gD QC hL;have hLl:aA L<=1000:=by rw [HL.o,cL];omega
 have td:Hid (∀y∈L,aL y.m/\aL y.n):=η λy hy=>by
  rw [HL.o] at hy;rcases gJ.1 hy with h|h
  ·exact Z1.o y h
  exact Z2.o y h
 refine AY.o.mono ?_;rintro e w7 ⟨A7,c7,rfl,hO7,gD⟩;have Z3:Hid (JI L w w7 w5.heap.size (w5.heap.size+2) 0 (aH A7 (aA L) c7) []):=η ⟨by rw [show fS (L.take 0)=λ_=> [] from by funext q;simp [fS]];exact iz.o.below (aZ _) gD,aZ _,λq=>by simp,by rw [<-wL.o];exact hO7,by omega,cz.o.size,cz.o.trans ((gz.o.trans (gD.mono (by rw [wL.o];omega))).mono cz.o.size)⟩;have aGE:=mG;clear mG aGE hO7 gD AY iz gz wL;generalize w5.heap.size=b at*;generalize b+2=lo at*;clear cz;go_wp2_with fail
 go_loopw [48] (λi wr=>∃k:Nat,k<=aA L/\i=ν k/\Hid (∃m,JI L w wr b lo k (aH A7 (aA L) c7) m)) (λi _=>aA L-(ag i).toNat)
 case atStart=>exact⟨0,bL _,rfl,_,Z3.o⟩
 case round=>
  clear Z3;obtain⟨k,hk,rfl,HM⟩:=hrel;obtain⟨m,hm⟩:=HM.o;have HW:=η hm;have hsz:=hm.b.size;clear hm HM;by_cases hlt:k<aA L
  ·obtain⟨b',o,rfl,hb',d0,d1,d2⟩:=oG (aW.cA HW.o.own) hlt;obtain⟨tF,xF⟩:=td.o _ (cK hlt);obtain⟨q,hq⟩:∃q,q=L[k].m:=⟨_,rfl⟩;obtain⟨wv,hn⟩:∃n,n=L[k].n:=⟨_,rfl⟩;obtain⟨av,Jj⟩:∃a,a=L[k].a:=⟨_,rfl⟩;rw [<-hq] at d0 tF;rw [<-hn] at d2 xF;rw [<-Jj] at d1;have HQ:=η (kT hq hn);clear hq hn Jj;go_wp2_with fail
   have hgb:wr.heap.size<(wr.alloc (aK #[ν q,ν av,ν wv] 76)).heap.size:=by simp
   have kG:Hid ((wr.alloc (aK #[ν q,ν av,ν wv] 76)).cell? ⟨wr.heap.size,0,aB⟩=aC (ν q)/\(wr.alloc (aK #[ν q,ν av,ν wv] 76)).cell? ⟨wr.heap.size,2,aB⟩=aC (ν wv)):=η ⟨by rw [cM _ _ _ _ rfl];rfl,by rw [cM _ _ _ _ rfl];rfl⟩;have gB:Hid (JI L w (wr.alloc (aK #[ν q,ν av,ν wv] 76)) b lo k (aH (aC ⟨b',o,aB⟩) (aA L) c7) m):=η (HW.o.below σ);have rA:Hid (aC wr.heap.size≠(lj q m).ownBlock):=η λe=>by have:=((HW.o.g.slot q).lt _ e.symm).2;omega
   have xg:Hid (wr.heap.size≠b):=η (by have:=HW.o.g.map.lt;omega);clear d0 d1 d2;generalize wr.alloc (aK #[ν q,ν av,ν wv] 76)=w2 at*;generalize wr.heap.size=gb at*;have Gr:=gB.o.g.map;have kF:Hid (∀W,eU aM 3 encI W b m->(Instr.lookup 272 (.map (aC b)) (ν q) aP).run aM W= .ok (lj q m) W):=η λW hW=>eU.look (P:=aM) aP Bb GI (z:=aH aB 0 0) (by kernel_rfl) hW gB.o.g.dom tF
   refine wp_region_held_drew (S:=λw'=>w'.cell? ⟨gb,0,aB⟩=aC (ν q)/\w'.cell? ⟨gb,2,aB⟩=aC (ν wv)) (by kernel_rfl) ?_ (λhHeld=> ?_)
   ·exact kG.o
   obtain⟨i0,bj,hz0,fh,hz2⟩:=dK a4D;have gV:aA (fS (L.take k) q)<=1000:=by have:=(UO (L:=L.take k) (λy hy=>(td.o y (List.mem_of_mem_take hy)).2) q).1;rw [ur] at this;omega
   have Ed:b+1<=w2.heap.size:=by have:=Gr.lt;omega
   refine jk (i:=0) (v:= .map (aC b)) rfl (by kernel_rfl) (by kernel_rfl) (by kernel_rfl) (λ_ _ _ h=>h) (aS ⟨by rfl,λw' hSw=>by obtain⟨Gt,Gu⟩:=hSw;go_simp⟩) hHeld ?_;refine jk (i:=1) (v:=π gb) rfl (by kernel_rfl) (by kernel_rfl) (by kernel_rfl) (λ_ _ _ h=>h) (aS ⟨by rfl,λw' hSw=>by obtain⟨Gt,Gu⟩:=hSw;go_simp⟩) hHeld ?_;refine jk (i:=2) (v:=ν q) rfl (by kernel_rfl) (by kernel_rfl) (by kernel_rfl) (λ_ _ _ h=>h) (aS ⟨by rfl,λw' hSw=>by obtain⟨Gt,Gu⟩:=hSw;go_simp⟩) hHeld ?_;refine jk (i:=3) (v:= .map (aC b)) rfl (by kernel_rfl) (by kernel_rfl) (by kernel_rfl) (λ_ _ _ h=>h) (aS ⟨by rfl,λw' hSw=>by obtain⟨Gt,Gu⟩:=hSw;go_simp⟩) hHeld ?_;refine jk (i:=4) (v:=π gb) rfl (by kernel_rfl) (by kernel_rfl) (by kernel_rfl) (λ_ _ _ h=>h) (aS ⟨by rfl,λw' hSw=>by obtain⟨Gt,Gu⟩:=hSw;go_simp⟩) hHeld ?_;refine jk (i:=5) (v:=ν q) rfl (by kernel_rfl) (by kernel_rfl) (by kernel_rfl) (λ_ _ _ h=>h) (aS ⟨by rfl,λw' hSw=>by obtain⟨Gt,Gu⟩:=hSw;go_simp⟩) hHeld ?_;refine jk (i:=7) (v:=bH (aC ⟨gb,2,aB⟩)) rfl (by kernel_rfl) (by kernel_rfl) (by kernel_rfl) (λ_ _ _ h=>h) (aS ⟨by rfl,λw' hSw=>by obtain⟨Gt,Gu⟩:=hSw;go_simp⟩) hHeld ?_;refine jk (i:=8) (v:=ν wv) rfl (by kernel_rfl) (by kernel_rfl) (by kernel_rfl) (λ_ _ _ h=>h) (aS ⟨by rfl,λw' hSw=>by obtain⟨Gt,Gu⟩:=hSw;go_simp⟩) hHeld ?_;refine pK (rs:= [6,9]) (by kernel_rfl) (by simp) ?_;refine mU rfl (λK hK=> ?_) (mU rfl (λK hK=> ?_) oM)
   ·have hlk:=kF.o _ Gr.drew;go_simp
    refine hK.o _ _ hHeld (λhHeld=> ?_);clear hK K hlk;refine pK (rs:= [9]) (by kernel_rfl) (by simp) ?_;refine mU rfl (λK hK=> ?_) oM;go_simp
    refine hK.o _ _ ⟨(gg (w:=w2) (fG _ _ hgb)).trans kG.o.1,(gg (w:=w2) (fG _ _ hgb)).trans kG.o.2⟩ (λhHeld=> ?_);clear hK K;refine pK (rs:= [10]) (by kernel_rfl) (by simp) ?_;refine mU rfl (λK hK=> ?_) oM;refine AL _ rfl (.tmp 58) (.tmp 61) 53 rfl (b+1) 2 i0 _ 1 8 mD bj hz0 fh hz2 rfl (by decide) (lj q m) _ _ rfl ((gB.o.g.slot q).alloc _) ⟨w2.heap.size,0,aB⟩ 1 1 [ν wv] rfl rfl (dM _ _ #[_] (by simp)) (by intro u hu;simp at hu;rw [hu];rfl) (by decide) (by simp only [bK];omega) (by omega) (by simp;omega) (w2.heap.size+1) (by simp) ?_;intro g cap w4 pB iH zb _;have ki:w2.grownBy w4 (lj q m).ownBlock:=(GM w2 (aK #[ν wv] 2) _).trans (c:=w4) ⟨iH.os,iH.tape,iH.output,iH.size,iH.block⟩;have pC:w4.cell? ⟨gb,0,aB⟩=aC (ν q)/\w4.cell? ⟨gb,2,aB⟩=aC (ν wv):=⟨(gg (a:=⟨gb,0,aB⟩) (ki.block gb hgb rA.o)).trans kG.o.1,(gg (a:=⟨gb,2,aB⟩) (ki.block gb hgb rA.o)).trans kG.o.2⟩;refine hK.o _ _ pC (λhHeld=> ?_);clear hK K;refine pK (rs:= [11]) (by kernel_rfl) (by simp) ?_;refine mU rfl (λK hK=> ?_) oM;obtain⟨w5,hrun,za,eZ⟩:=lA.put (v':=aH (aC ⟨g,0,aB⟩) (aA (fS (L.take k) q)+1) cap) (ys:=fS (L.take k) q++ [wv]) GI gB.o.g tF ki (by rw [cL,dY];exact pB) (by
     rcases zb with e|e
     ·exact .inl e.symm
     exact .inr ⟨g,rfl,by omega⟩)
    refine Rg rfl _ (.tmp 52) (.tmp 54) (.tmp 62) rfl rfl rfl rfl (R:=λW=>W=w5) ⟨w5,hrun,rfl⟩ ?_;rintro w6 rfl;refine hK.o _ _ ⟨(gg (a:=⟨gb,0,aB⟩) (eZ.block gb (cR hgb ki.size) (λe=>xg.o (od e)))).trans pC.1,(gg (a:=⟨gb,2,aB⟩) (eZ.block gb (cR hgb ki.size) (λe=>xg.o (od e)))).trans pC.2⟩ (λhHeld=> ?_);clear hK K hHeld;refine Nf (by kernel_rfl) ?_ _;have pT:Hid (∃m',JI L w w6 b lo (k+1) (aH (aC ⟨b',o,aB⟩) (aA L) c7) m'):=η ⟨_,gB.o.step (w4:=w4) (v':=aH (aC ⟨g,0,aB⟩) (aA (fS (L.take k) q)+1) cap) hlt (by rw [<-HQ.o.1];exact ki) (by rw [<-HQ.o.1,<-HQ.o.2];exact za) eZ⟩;clear pB iH zb ki pC za eZ hrun;go_wp2_with fail
    go_roundw
    case rel=>exact⟨k+1,by omega,by go_num,pT⟩
    case measure=>simp [ag];omega
   go_simp
   refine hK.o _ _ ⟨(gg (w:=w2) (fG _ _ hgb)).trans kG.o.1,(gg (w:=w2) (fG _ _ hgb)).trans kG.o.2⟩ (λhHeld=> ?_);clear hK K;refine pK (rs:= [6]) (by kernel_rfl) (by simp) ?_;refine mU rfl (λK hK=> ?_) oM;have hlk:=kF.o _ (Gr.alloc (aK #[ν wv] 2)).drew;go_simp
   refine hK.o _ _ hHeld (λhHeld=> ?_);clear hlk;clear hK K;refine pK (rs:= [10]) (by kernel_rfl) (by simp) ?_;refine mU rfl (λK hK=> ?_) oM;refine AL _ rfl (.tmp 58) (.tmp 61) 53 rfl (b+1) 2 i0 _ 1 8 mD bj hz0 fh hz2 rfl (by decide) (lj q m) _ _ rfl ((gB.o.g.slot q).alloc _) ⟨w2.heap.size,0,aB⟩ 1 1 [ν wv] rfl rfl (dM _ _ #[_] (by simp)) (by intro u hu;simp at hu;rw [hu];rfl) (by decide) (by simp only [bK];omega) (by omega) (by simp;omega) (w2.heap.size+1) (by simp) ?_;intro g cap w4 pB iH zb _;have ki:w2.grownBy w4 (lj q m).ownBlock:=(GM w2 (aK #[ν wv] 2) _).trans (c:=w4) ⟨iH.os,iH.tape,iH.output,iH.size,iH.block⟩;have pC:w4.cell? ⟨gb,0,aB⟩=aC (ν q)/\w4.cell? ⟨gb,2,aB⟩=aC (ν wv):=⟨(gg (a:=⟨gb,0,aB⟩) (ki.block gb hgb rA.o)).trans kG.o.1,(gg (a:=⟨gb,2,aB⟩) (ki.block gb hgb rA.o)).trans kG.o.2⟩;refine hK.o _ _ pC (λhHeld=> ?_);clear hK K;refine pK (rs:= [11]) (by kernel_rfl) (by simp) ?_;refine mU rfl (λK hK=> ?_) oM;obtain⟨w5,hrun,za,eZ⟩:=lA.put (v':=aH (aC ⟨g,0,aB⟩) (aA (fS (L.take k) q)+1) cap) (ys:=fS (L.take k) q++ [wv]) GI gB.o.g tF ki (by rw [cL,dY];exact pB) (by
    rcases zb with e|e
    ·exact .inl e.symm
    exact .inr ⟨g,rfl,by omega⟩)
   refine Rg rfl _ (.tmp 52) (.tmp 54) (.tmp 62) rfl rfl rfl rfl (R:=λW=>W=w5) ⟨w5,hrun,rfl⟩ ?_;rintro w6 rfl;refine hK.o _ _ ⟨(gg (a:=⟨gb,0,aB⟩) (eZ.block gb (cR hgb ki.size) (λe=>xg.o (od e)))).trans pC.1,(gg (a:=⟨gb,2,aB⟩) (eZ.block gb (cR hgb ki.size) (λe=>xg.o (od e)))).trans pC.2⟩ (λhHeld=> ?_);clear hK K hHeld;refine Nf (by kernel_rfl) ?_ _;have pT:Hid (∃m',JI L w w6 b lo (k+1) (aH (aC ⟨b',o,aB⟩) (aA L) c7) m'):=η ⟨_,gB.o.step (w4:=w4) (v':=aH (aC ⟨g,0,aB⟩) (aA (fS (L.take k) q)+1) cap) hlt (by rw [<-HQ.o.1];exact ki) (by rw [<-HQ.o.1,<-HQ.o.2];exact za) eZ⟩;clear pB iH zb ki pC za eZ hrun;go_wp2_with fail
   go_roundw
   case rel=>exact⟨k+1,by omega,by go_num,pT⟩
   case measure=>simp [ag];omega
  obtain rfl:k=aA L:=by omega
  have hg:=HW.o.g;have iW:=HW.o.len;rw [cU] at hg;have tZ:=η (a2s hg (by omega) λq=>⟨by have:=(UO (L:=L) (λy hy=>(td.o y hy).2) q).1;omega,(UO (L:=L) (λy hy=>(td.o y hy).2) q).2⟩);have HR:Hid ((nX m).Pairwise (· < ·)/\∀q,q∈nX m↔∃y∈L,y.m=q):=η ⟨a4X hg.map.apart,λq=>by rw [a4W];have:=HW.o.ks q;rw [cU] at this;exact this⟩;have xt:Hid (∀W,β w W->aQ aM 129 #[aH A (aA X) c] W λe w'=>e=aU (bB #[ν (sumI (bF X)),ν 0])/\β W w'):=η λW hW=>by have:=PC X A c W (HA.o.below hW).dh (λy hy=>(Z1.o y hy).2) (by omega);rw [show iO X=sumI (bF X) from by unfold iO;rw [ifP h1],h1] at this;exact this
  have Fg:Hid (∀W,β w W->aQ aM 129 #[aH B (aA Y) d] W λe w'=>e=aU (bB #[ν (sumI (bF Y)),ν 0])/\β W w'):=η λW hW=>by have:=PC Y B d W (HB.o.below hW).dh (λy hy=>(Z2.o y hy).2) (by omega);rw [show iO Y=sumI (bF Y) from by unfold iO;rw [ifP h2],h2] at this;exact this
  have Fl:Hid (aL (sumI (bF X))):=η (BJ h1).2.2;have Ze:Hid (aL (sumI (bF Y))):=η (BJ h2).2.2;have HJE:=η h5;have HT:Hid (Hw X Y=sumI (bF X)+sumI (bF Y)):=η rfl;have hsz:=HW.o.b.size;by_cases hT:aL (Hw X Y)
  ·have hE:=V9 (f:=fS L) (ks:=nX m) λj hj=>by rw [HL.o];exact a4R h1 h2 hT _
   have hLL:rM (fS L) (nX m)=nP (fS L) (nX m):=by unfold rM;rw [ifP hE]
   rw [hE,hLL] at tZ;have Ip:Hid (rY X Y=0):=η (by rw [h5];exact(dy hT).2);have hV:=(dy hT).1;have hV2:=(dy hT).2;rw [HT.o] at hV hV2;have HV:=η (kT hV hV2);clear hg iW hE hLL hT hV hV2 h1 h2 h3 h4 h5;generalize sumI (bF X)=sx at*;generalize sumI (bF Y)=sy at*;go_wp2_with fail
   refine tZ.o.mono ?_;rintro e w8 ⟨A8,c8,rfl,BZ,jr⟩;have B1:=η (BZ.wide hsz);have qE:Hid (β w w8):=η (HW.o.b.trans (jr.mono hsz));clear BZ jr;go_wp2_with fail
   refine(xt.o _ qE.o).mono ?_;rintro e w9 ⟨rfl,gF⟩;have sG:Hid (β w w9):=τ qE gF;have J5:=η (B1.o.below gF);clear gF;go_wp2_with fail
   refine(Fg.o _ sG.o).mono ?_;rintro e s8 ⟨rfl,zg⟩;have AW:Hid (β w s8):=τ sG zg;have ZR:=η (J5.o.below zg);clear zg;go_wp2_with fail
   refine(P7 _ _ _ Fl.o Ze.o).mono ?_;rintro e w11 ⟨rfl,rfl⟩;rw [HV.o.1,HV.o.2];go_wp2_with fail
   go_ret2;exact Or.inr ⟨Ip.o,_,HR.o.1,by rw [<-HL.o];exact HR.o.2,A8,c8,by rw [<-HL.o];rfl,by rw [<-HL.o];exact ZR.o,AW.o⟩
  have Ip:Hid (rY X Y=2):=η (by rw [h5];exact(gh hT).2);have HV:=η (gh hT);rw [HT.o] at HV;rcases a2q (fS L) (nX m) with hE|hE
  ·rw [hE] at tZ;clear hg iW hE hT h1 h2 h3 h4 h5;generalize sumI (bF X)=sx at*;generalize sumI (bF Y)=sy at*;generalize rM (fS L) (nX m)=gl at*;go_wp2_with fail
   refine tZ.o.mono ?_;rintro e w8 ⟨A8,c8,rfl,BZ,jr⟩;have B1:=η BZ;have qE:Hid (β w w8):=η (HW.o.b.trans (jr.mono hsz));clear BZ jr;go_wp2_with fail
   refine(xt.o _ qE.o).mono ?_;rintro e w9 ⟨rfl,gF⟩;have sG:Hid (β w w9):=τ qE gF;have J5:=η (B1.o.below gF);clear gF;go_wp2_with fail
   refine(Fg.o _ sG.o).mono ?_;rintro e s8 ⟨rfl,zg⟩;have AW:Hid (β w s8):=τ sG zg;have ZR:=η (J5.o.below zg);clear zg;go_wp2_with fail
   refine(P7 _ _ _ Fl.o Ze.o).mono ?_;rintro e w11 ⟨rfl,rfl⟩;rw [HV.o.1,HV.o.2];go_wp2_with fail
   go_ret2;exact aS ⟨by rw [Ip.o];decide,aB,0,by rw [Ip.o];rfl,iR.nil,AW.o⟩
  rw [hE] at tZ;have hGL:rM (fS L) (nX m)= []:=by unfold rM;rw [hE,ifN (by decide)]
  rw [hGL] at tZ;clear hg iW hE hT h1 h2 h3 h4 h5 hGL;go_wp2_with fail
  refine tZ.o.mono ?_;rintro e w8 ⟨A8,c8,rfl,BZ,jr⟩;have qE:Hid (β w w8):=η (HW.o.b.trans (jr.mono hsz));clear BZ jr;go_wp2_with fail
  go_ret2;exact aS ⟨by rw [Ip.o];decide,aB,0,by rw [Ip.o];rfl,iR.nil,qE.o⟩
theorem aBq(x:ak)(L:List Lg)(A:Option ai)(c:Nat)(w:aJ)(hc:lS w x)(hs:aW w w.heap.size A (bA L))(hl:aA L<=1000)(hI:∀y∈L,aL y.m/\aL y.a/\aL y.n)(hp:∀i,aL (dW x i).a):
 aQ aM 140 #[x.val,aH A (aA L) c] w (aBp x L w):=by
 have HC:=η hc;have HS:=η hs;have HI:=η hI;have HP:=η hp;have mA:Hid (∀W,W=(w.alloc (aK #[aH x.Am (aA x.ms) x.cm,aH x.As (aA x.ss) x.cs,aH x.Ac (aA x.cy) x.cc,ν x.line,ν x.bu,ν x.lead,ν x.tr,ν x.bY] 26)).alloc (.map #[] 0)->WI x L w W 0 []):=η (by rintro W rfl;have hg:=lA.made (w.alloc (aK #[aH x.Am (aA x.ms) x.cm,aH x.As (aA x.ss) x.cs,aH x.Ac (aA x.cy) x.cc,ν x.line,ν x.bu,ν x.lead,ν x.tr,ν x.bY] 26));rw [show (w.alloc (aK #[aH x.Am (aA x.ms) x.cm,aH x.As (aA x.ss) x.cs,aH x.Ac (aA x.cy) x.cc,ν x.line,ν x.bu,ν x.lead,ν x.tr,ν x.bY] 26)).heap.size=w.heap.size+1 by simp] at hg;exact⟨hg,aZ _,λq=>by simp,λj _ h=>absurd h (Nat.not_lt_zero _),(zS w x).below σ,(mE w x).alloc (by simp) _⟩);have mG:= @run_makeMap aM;clear hc hs hI hp;unfold ak.val;go_enter func140,ntmps140
 go_wp2_with fail
 have xz:=mA.o _ rfl;clear mA;generalize (w.alloc (aK #[aH x.Am (aA x.ms) x.cm,aH x.As (aA x.ss) x.cs,aH x.Ac (aA x.cy) x.cc,ν x.line,ν x.bu,ν x.lead,ν x.tr,ν x.bY] 26)).alloc (.map #[] 0)=w1 at xz ⊢;have HW:=η xz;clear xz;go_loopw [8,9,10,17] (λ_ _ _ i wr=>∃k:Nat,k<=aA L/\i=ν k/\Hid (∃m,WI x L w wr k m)) (λ_ _ _ i _=>aA L-(ag i).toNat)
 case atStart=>exact⟨0,bL _,rfl,_,HW.o⟩
 case round=>
  clear HW;obtain⟨k,hk,rfl,HM⟩:=hrel;obtain⟨m,hm⟩:=HM.o;have HW:=η hm;have hsz:=hm.b.size;by_cases hlt:k<aA L
  ·obtain⟨b,o,rfl,hb,d0,d1,d2⟩:=oG (HS.o.below HW.o.b) hlt;obtain⟨tF,xF,BV⟩:=HI.o _ (cK hlt);obtain⟨q,hq⟩:∃q,q=L[k].m:=⟨_,rfl⟩;obtain⟨a,ha⟩:∃a,a=L[k].a:=⟨_,rfl⟩;obtain⟨n,hn⟩:∃n,n=L[k].n:=⟨_,rfl⟩;rw [<-hq] at d0 tF;rw [<-ha] at d1 xF;rw [<-hn] at d2 BV;have HQ:=η (kT hq (kT ha hn));clear hq ha hn;have OM:Hid (∀W,β w W->aQ aM 197 #[x.val,bO #[ν q,ν a,ν n]] W λe w'=>e=aU (bB #[ν (AR x a n),ν (xT x a n)])/\β W w'):=η λW hW=>aLC x q a n W (HC.o.below hW) xF BV (HP.o a)
   unfold ak.val at OM;have bQ:=HW.o.bx.lt;have c0:=HW.o.bx.c0;have c1:=HW.o.bx.c1;have c2:=HW.o.bx.c2;have c3:=HW.o.bx.c3;have c4:=HW.o.bx.c4;have c5:=HW.o.bx.c5;have c6:=HW.o.bx.c6;have c7:=HW.o.bx.c7;have Ib:Hid (∀o,β w (wr.alloc o)):=η λo=>HW.o.b.alloc hsz o
   obtain⟨wv,Wc⟩:∃wv,wv=AR x a n:=⟨_,rfl⟩;obtain⟨ev,Vd⟩:∃ev,ev=xT x a n:=⟨_,rfl⟩;rw [<-Wc,<-Vd] at OM;have HV:=η (kT Wc Vd);clear Wc Vd hm xF BV;by_cases he:ev=0
   ·subst he;go_wp2_with (go_at_call 197;refine(OM.o _ (Ib.o _)).mono ?_;rintro e w2 ⟨rfl,hb2⟩;have aV:=η hb2;clear hb2)
    have gB:Hid (WI x L w w2 k m):=η (HW.o.below (σ.trans (aV.o.mono (by simp))));have hgb:wr.heap.size<w2.heap.size:=by have:=aV.o.size;simp at this;omega
    have vR:w2.cell? ⟨wr.heap.size,0,aB⟩=aC (ν q):=by rw [aV.o.cell (p:=⟨wr.heap.size,0,aB⟩) (by simp)];simp
    have Gr:=gB.o.g.map;have kF:Hid (∀W,eU aM 3 encI W (w.heap.size+1) m->(Instr.lookup 272 (.map (aC (w.heap.size+1))) (ν q) aP).run aM W= .ok (lj q m) W):=η λW hW=>eU.look (P:=aM) aP Bb GI (z:=aH aB 0 0) (by kernel_rfl) hW gB.o.g.dom tF
    clear c0 c1 c2 c3 c4 c5 c6 c7 d0 d1 d2;have rA:Hid (aC wr.heap.size≠(lj q m).ownBlock):=η λe=>by have:=((HW.o.g.slot q).lt _ e.symm).2;omega
    have fL:Hid (aC (w.heap.size+1)≠(lj q m).ownBlock):=η λe=>by have:=((HW.o.g.slot q).lt _ e.symm).1;omega
    have xg:Hid (wr.heap.size≠w.heap.size+1):=η (by have:=HW.o.g.map.lt;omega);generalize hgg:wr.heap.size=gb at*;refine wp_region_held_drew (S:=λw'=>w'.cell? ⟨gb,0,aB⟩=aC (ν q)) (by kernel_rfl) ?_ (λhHeld=> ?_)
    ·exact vR
    obtain⟨i0,bj,hz0,fh,hz2⟩:=dK a4D;refine jk (i:=0) (v:= .map (aC (w.heap.size+1))) rfl (by kernel_rfl) (by kernel_rfl) (by kernel_rfl) (λ_ _ _ h=>h) (aS ⟨by rfl,λw' hSw=>by dsimp only at hSw;go_simp⟩) hHeld ?_;refine jk (i:=1) (v:=π gb) rfl (by kernel_rfl) (by kernel_rfl) (by kernel_rfl) (λ_ _ _ h=>h) (aS ⟨by rfl,λw' hSw=>by dsimp only at hSw;go_simp⟩) hHeld ?_;refine jk (i:=2) (v:=ν q) rfl (by kernel_rfl) (by kernel_rfl) (by kernel_rfl) (λ_ _ _ h=>h) (aS ⟨by rfl,λw' hSw=>by dsimp only at hSw;go_simp⟩) hHeld ?_;refine jk (i:=3) (v:= .map (aC (w.heap.size+1))) rfl (by kernel_rfl) (by kernel_rfl) (by kernel_rfl) (λ_ _ _ h=>h) (aS ⟨by rfl,λw' hSw=>by dsimp only at hSw;go_simp⟩) hHeld ?_;refine jk (i:=4) (v:=π gb) rfl (by kernel_rfl) (by kernel_rfl) (by kernel_rfl) (λ_ _ _ h=>h) (aS ⟨by rfl,λw' hSw=>by dsimp only at hSw;go_simp⟩) hHeld ?_;refine jk (i:=5) (v:=ν q) rfl (by kernel_rfl) (by kernel_rfl) (by kernel_rfl) (λ_ _ _ h=>h) (aS ⟨by rfl,λw' hSw=>by dsimp only at hSw;go_simp⟩) hHeld ?_;refine jk (i:=7) (v:=ν wv) rfl (by kernel_rfl) (by kernel_rfl) (by kernel_rfl) (λ_ _ _ h=>h) (aS ⟨by rfl,λw' hSw=>by dsimp only at hSw;go_simp⟩) hHeld ?_;have gV:aA (lq x (L.take k) q)<=1000:=by have:=(YE x (L.take k) q).1;rw [ur] at this;omega
    have Ed:w.heap.size+2<=w2.heap.size:=by have:=gB.o.b.size;have:=Gr.lt;omega
    refine pK (rs:= [6,8]) (by kernel_rfl) (by simp) ?_;refine mU rfl (λK hK=> ?_) (mU rfl (λK hK=> ?_) oM)
    ·have hlk:=kF.o _ Gr.drew;go_simp
     refine hK.o _ _ hHeld (λhHeld=> ?_);clear hK K hlk;refine pK (rs:= [8]) (by kernel_rfl) (by simp) ?_;refine mU rfl (λK hK=> ?_) oM;go_simp
     refine hK.o _ _ ((gg (w:=w2) (fG _ _ hgb)).trans vR) (λhHeld=> ?_);clear hK K;refine pK (rs:= [9]) (by kernel_rfl) (by simp) ?_;refine mU rfl (λK hK=> ?_) oM;refine AL _ rfl (.tmp 36) (.tmp 38) 53 rfl (w.heap.size+2) 2 i0 _ 1 8 mD bj hz0 fh hz2 rfl (by decide) (lj q m) _ _ rfl ((gB.o.g.slot q).alloc _) ⟨w2.heap.size,0,aB⟩ 1 1 [ν wv] rfl rfl (dM _ _ #[_] (by simp)) (by intro u hu;simp at hu;rw [hu];rfl) (by decide) (by simp only [bK];omega) (by omega) (by simp;omega) (w2.heap.size+1) (by simp) ?_;intro g cap w4 pB iH zb _;have ki:w2.grownBy w4 (lj q m).ownBlock:=(GM w2 (aK #[ν wv] 2) _).trans (c:=w4) ⟨iH.os,iH.tape,iH.output,iH.size,iH.block⟩;have pC:w4.cell? ⟨gb,0,aB⟩=aC (ν q):=(gg (a:=⟨gb,0,aB⟩) (ki.block gb hgb rA.o)).trans vR;refine hK.o _ _ pC (λhHeld=> ?_);clear hK K;refine pK (rs:= [10]) (by kernel_rfl) (by simp) ?_;refine mU rfl (λK hK=> ?_) oM;obtain⟨w5,hrun,za,eZ⟩:=lA.put (v':=aH (aC ⟨g,0,aB⟩) (aA (lq x (L.take k) q)+1) cap) (ys:=lq x (L.take k) q++ [wv]) GI gB.o.g tF ki (by rw [cL,dY];exact pB) (by
      rcases zb with e|e
      ·exact .inl e.symm
      exact .inr ⟨g,rfl,by omega⟩)
     refine Rg rfl _ (.tmp 30) (.tmp 32) (.tmp 39) rfl rfl rfl rfl (R:=λW=>W=w5) ⟨w5,hrun,rfl⟩ ?_;rintro w6 rfl;refine hK.o _ _ ((gg (a:=⟨gb,0,aB⟩) (eZ.block gb (cR hgb ki.size) (λe=>xg.o (od e)))).trans pC) (λhHeld=> ?_);clear hK K hHeld;refine Nf (by kernel_rfl) ?_ _;have pT:Hid (∃m',WI x L w w6 (k+1) m'):=η ⟨_,gB.o.step (w4:=w4) (v':=aH (aC ⟨g,0,aB⟩) (aA (lq x (L.take k) q)+1) cap) hlt (by rw [<-HQ.o.2.1,<-HQ.o.2.2];exact HV.o.2.symm) (by rw [<-HQ.o.1];exact ki) (by rw [<-HQ.o.1,<-HQ.o.2.1,<-HQ.o.2.2,<-HV.o.1];exact za) eZ⟩;clear pB iH zb ki pC za eZ hrun;go_wp2_with fail
     go_roundw
     case rel=>exact⟨k+1,by omega,by go_num,pT⟩
     case measure=>simp [ag];omega
    go_simp
    refine hK.o _ _ ((gg (w:=w2) (fG _ _ hgb)).trans vR) (λhHeld=> ?_);clear hK K;refine pK (rs:= [6]) (by kernel_rfl) (by simp) ?_;refine mU rfl (λK hK=> ?_) oM;have hlk:=kF.o _ (Gr.alloc (aK #[ν wv] 2)).drew;go_simp
    refine hK.o _ _ hHeld (λhHeld=> ?_);clear hlk;clear hK K;refine pK (rs:= [9]) (by kernel_rfl) (by simp) ?_;refine mU rfl (λK hK=> ?_) oM;refine AL _ rfl (.tmp 36) (.tmp 38) 53 rfl (w.heap.size+2) 2 i0 _ 1 8 mD bj hz0 fh hz2 rfl (by decide) (lj q m) _ _ rfl ((gB.o.g.slot q).alloc _) ⟨w2.heap.size,0,aB⟩ 1 1 [ν wv] rfl rfl (dM _ _ #[_] (by simp)) (by intro u hu;simp at hu;rw [hu];rfl) (by decide) (by simp only [bK];omega) (by omega) (by simp;omega) (w2.heap.size+1) (by simp) ?_;intro g cap w4 pB iH zb _;have ki:w2.grownBy w4 (lj q m).ownBlock:=(GM w2 (aK #[ν wv] 2) _).trans (c:=w4) ⟨iH.os,iH.tape,iH.output,iH.size,iH.block⟩;have pC:w4.cell? ⟨gb,0,aB⟩=aC (ν q):=(gg (a:=⟨gb,0,aB⟩) (ki.block gb hgb rA.o)).trans vR;refine hK.o _ _ pC (λhHeld=> ?_);clear hK K;refine pK (rs:= [10]) (by kernel_rfl) (by simp) ?_;refine mU rfl (λK hK=> ?_) oM;obtain⟨w5,hrun,za,eZ⟩:=lA.put (v':=aH (aC ⟨g,0,aB⟩) (aA (lq x (L.take k) q)+1) cap) (ys:=lq x (L.take k) q++ [wv]) GI gB.o.g tF ki (by rw [cL,dY];exact pB) (by
     rcases zb with e|e
     ·exact .inl e.symm
     exact .inr ⟨g,rfl,by omega⟩)
    refine Rg rfl _ (.tmp 30) (.tmp 32) (.tmp 39) rfl rfl rfl rfl (R:=λW=>W=w5) ⟨w5,hrun,rfl⟩ ?_;rintro w6 rfl;refine hK.o _ _ ((gg (a:=⟨gb,0,aB⟩) (eZ.block gb (cR hgb ki.size) (λe=>xg.o (od e)))).trans pC) (λhHeld=> ?_);clear hK K hHeld;refine Nf (by kernel_rfl) ?_ _;have pT:Hid (∃m',WI x L w w6 (k+1) m'):=η ⟨_,gB.o.step (w4:=w4) (v':=aH (aC ⟨g,0,aB⟩) (aA (lq x (L.take k) q)+1) cap) hlt (by rw [<-HQ.o.2.1,<-HQ.o.2.2];exact HV.o.2.symm) (by rw [<-HQ.o.1];exact ki) (by rw [<-HQ.o.1,<-HQ.o.2.1,<-HQ.o.2.2,<-HV.o.1];exact za) eZ⟩;clear pB iH zb ki pC za eZ hrun;go_wp2_with fail
    go_roundw
    case rel=>exact⟨k+1,by omega,by go_num,pT⟩
    case measure=>simp [ag];omega
   have xZ:Hid (wthsE x L=ev):=η (by rw [HV.o.2,HQ.o.2.1,HQ.o.2.2];exact a7w hlt (λj hj=>HW.o.ok j (by omega) hj) (by rw [<-HQ.o.2.1,<-HQ.o.2.2,<-HV.o.2];exact he));have hez:(ev=0)=False:=eq_false he;go_wp2_with (go_at_call 197;refine(OM.o _ (Ib.o _)).mono ?_;rintro e w2 ⟨rfl,hb2⟩;have aV:=η hb2;clear hb2)
   go_ret2;refine aS ⟨by rw [xZ.o];exact he,aB,0,by rw [xZ.o];rfl,iR.nil,(Ib.o _).trans (aV.o.mono (by simp;omega))⟩
  obtain rfl:k=aA L:=by omega
  have hg:=HW.o.g;have iW:=HW.o.len;rw [cU] at hg;have tZ:=η (a2s hg (by omega) λq=>⟨by have:=(YE x L q).1;omega,(YE x L q).2⟩);have HE:Hid (wthsE x L=0):=η (a7v λj hj=>HW.o.ok j hj hj);have HR:Hid ((nX m).Pairwise (· < ·)/\∀q,q∈nX m↔∃y∈L,y.m=q):=η ⟨a4X hg.map.apart,λq=>by rw [a4W];have:=HW.o.ks q;rw [cU] at this;exact this⟩;clear hg iW hm;go_wp2_with (go_at_call 198;refine tZ.o.mono ?_;rintro e w2 ⟨A2,c2,rfl,hs2,hb2⟩;have cP:=η (hs2.wide HW.o.b.size);have aV:=η hb2;clear hs2 hb2)
  go_ret2;exact Or.inr ⟨HE.o,_,HR.o.1,HR.o.2,A2,c2,rfl,cP.o,HW.o.b.trans (aV.o.mono HW.o.b.size)⟩
def cZ(db:Nat)(p p':Dp)(D':Dk)(w w':aJ):Prop:=bT w' db p' D'/\p'.vb=p.vb/\p'.sb=p.sb/\p'.xb=p.xb/\p'.xc=p.xc/\bC (eY db p) w w'/\∀k,eY db p' k->eY db p k\/w.heap.size<=k
theorem aq.q {db:Nat} {p:Dp} {D':Dk} {w w':aJ}(h:aq db p D' w w'):∃p',cZ db p p' D' w w':=h
theorem cZ.p {db:Nat} {p p':Dp} {D':Dk} {w w':aJ}(h:cZ db p p' D' w w'):aq db p D' w w':=⟨p',h⟩
theorem cZ.at {db:Nat} {p p':Dp} {D':Dk} {w w':aJ}(h:cZ db p p' D' w w'):bT w' db p' D':=h.1
theorem cZ.bV {db:Nat} {p:Dp} {D:Dk} {w w':aJ}(H:bT w db p D)(hb:aa w.heap.size w w'):cZ db p p D w w':=⟨H.below hb,rfl,rfl,rfl,rfl,bC.bV _ hb,λ_ h=> .inl h⟩
theorem cZ.trans {db:Nat} {p p1 p2:Dp} {D1 D2:Dk} {w w1 w2:aJ}(h1:cZ db p p1 D1 w w1)(h2:cZ db p1 p2 D2 w1 w2):cZ db p p2 D2 w w2:=by obtain⟨_,e1,e2,e3,e4,hu,hs⟩:=h1;obtain⟨H2,f1,f2,f3,f4,vS,hs2⟩:=h2;exact⟨H2,f1.trans e1,f2.trans e2,f3.trans e3,f4.trans e4,hu.trans vS hs,λk hk=>(hs2 k hk).elim (hs k) (λh=> .inr (cC hu.size h))⟩
theorem cZ.below {db:Nat} {p p1:Dp} {D1:Dk} {w w1 w2:aJ}(h1:cZ db p p1 D1 w w1)(hb:aa w1.heap.size w1 w2):cZ db p p1 D1 w w2:=h1.trans (cZ.bV h1.at hb)
theorem cZ.then {db:Nat} {p p1:Dp} {D1 D2:Dk} {w w1 w2:aJ}(h1:cZ db p p1 D1 w w1)(h2:aq db p1 D2 w1 w2):∃p2,cZ db p p2 D2 w w2/\cZ db p1 p2 D2 w1 w2:=by obtain⟨p2,h⟩:=h2.q;exact⟨p2,h1.trans h,h⟩
theorem cZ.size {db:Nat} {p p1:Dp} {D1:Dk} {w w1:aJ}(h1:cZ db p p1 D1 w w1):w.heap.size<=w1.heap.size:=h1.2.2.2.2.2.1.size
theorem a6e {w:aJ} {B:Nat} {A:Option ai} {xs:List aN}(h:aW w B A xs)(hx:xs≠ []):∀q,A=aC q->q.block<B:=by
 intro q hq;subst hq;cases xs with
 |nil=>exact absurd rfl hx
 |cons u us=>
  obtain⟨b,o,e,hb,_⟩:=h.at (k:=0) (by simp);injection e with e;subst e;exact hb
structure iE(db:Nat)(p:Dp)(w:aJ)(A:Option ai)(xs:List aN):Prop where
 dh:aW w w.heap.size A xs
 o:xs≠ []->∀q,A=aC q->¬eY db p q.block
theorem iE.I5 {db:Nat} {p:Dp} {D:Dk} {w w':aJ} {A:Option ai} {c:Nat} {L:List Lg}(H:bT w db p D)(h:iR w w' A c L):iE db p w' A (bA L):=
 ⟨h.1,λ_ q hq hs=>by have h1:=H.uR hs;have h2:=h.2.1 q hq;omega⟩
theorem iE.cA {db:Nat} {p:Dp} {D:Dk} {w w':aJ} {A:Option ai} {e:bX} {s n c:Nat} {xs:List aN}(H:bT w db p D)(h:w'.ownsRow w.heap.size e s (aH A n c) n xs):iE db p w' A xs:=
 ⟨aW.cA h,λ_ q hq hs=>by subst hq;have h1:=H.uR hs;have h2:=(h.lt q.block rfl).1;omega⟩
theorem iE.below {db:Nat} {p:Dp} {w w':aJ} {A:Option ai} {xs:List aN}(h:iE db p w A xs)(hb:aa w.heap.size w w'):iE db p w' A xs:=⟨(h.dh.below hb).mono hb.size,h.o⟩
theorem iE.step {db:Nat} {p p':Dp} {D':Dk} {w w':aJ} {A:Option ai} {xs:List aN}(h:iE db p w A xs)(hq:cZ db p p' D' w w'):iE db p' w' A xs:=by
 obtain⟨_,_,_,_,_,hu,hs⟩:=hq;refine⟨hu.dh h.dh h.o,λhx q hq h'=> ?_⟩;rcases hs _ h' with h1|h1
 ·exact h.o hx q hq h1
 have:=a6e h.dh hx q hq;omega
theorem iE.nil {db:Nat} {p:Dp} {w:aJ}:iE db p w aB []:=⟨aW.nil,λh=>absurd rfl h⟩
structure nw(db:Nat)(p:Dp)(w w':aJ)(A:Option ai)(c:Nat)(L:List Lg):Prop where
 o:iE db p w' A (bA L)
 new:∀q,A=aC q->w.heap.size<=q.block
 nil:A=aB->aA L=0/\c=0
theorem nw.I5 {db:Nat} {p:Dp} {D:Dk} {w w':aJ} {A:Option ai} {c:Nat} {L:List Lg}(H:bT w db p D)(h:iR w w' A c L):nw db p w w' A c L:=⟨.I5 H h,h.2.1,h.2.2⟩
theorem nw.wide {db:Nat} {p:Dp} {w0 w w':aJ} {A:Option ai} {c:Nat} {L:List Lg}(h:nw db p w w' A c L)(hz:w0.heap.size<=w.heap.size):nw db p w0 w' A c L:=⟨h.o,λq hq=>cC hz (h.new q hq),h.nil⟩
theorem nw.step {db:Nat} {p p':Dp} {D':Dk} {w0 w w':aJ} {A:Option ai} {c:Nat} {L:List Lg}(h:nw db p w0 w A c L)(hq:cZ db p p' D' w w'):nw db p' w0 w' A c L:=⟨h.o.step hq,h.new,h.nil⟩
theorem nw.below {db:Nat} {p:Dp} {w0 w w':aJ} {A:Option ai} {c:Nat} {L:List Lg}(h:nw db p w0 w A c L)(hb:aa w.heap.size w w'):nw db p w0 w' A c L:=⟨h.o.below hb,h.new,h.nil⟩
def jP(D:Dk)(s:Int):List Lg:=jb (balA (aA D.x.ms) (aA D.x.ss+1) D.l 1 0 s) (dg D s)
def oB(D:Dk)(s:Int):List Lg:=jh (balA (aA D.x.ms) (aA D.x.ss+1) D.l 1 0 s) (dg D s)
def Ea(D:Dk)(s:Int):Dk:=jq (ij D (jP D s)) 14 (oB D s)
def Hand(db:Nat)(p:Dp)(D':Dk)(G K:List Lg)(w:aJ)(e:di)(w':aJ):Prop:=∃A c B d p',e=aU (bB #[aH A (aA G) c,aH B (aA K) d])/\cZ db p p' D' w w'/\nw db p' w w' A c G/\nw db p' w w' B d K
theorem aER(db:Nat)(p:Dp)(D:Dk)(s:Int)(w:aJ)(H:bT w db p D)(hb:aL (balA (aA D.x.ms) (aA D.x.ss+1) D.l 1 0 s))(hO:∀k,k<=aA (jP D s)->fZ (ij D ((jP D s).take k)))(hI:∀x∈jP D s,aL x.m/\aL x.a/\aL x.n/\0<=x.n)(hl:aA (jP D s)<=80000)(hg:(ij D (jP D s)).log.length+aA (oB D s)<=90000)(hk:aA (oB D s)<=80000):
 aQ aM 71 #[π db,ν s] w (Hand db p (Ea D s) (jP D s) (oB D s) w):=by
 have Pw:fZ D:=hO 0 (bL _);have qo:Hid (Ea D s=jq (ij D (jP D s)) 14 (oB D s)):=η rfl;have ew:=η (λW (hW:β w W)=>zW db p D 1 0 s W (H.below hW) (by decide) (by decide));have xe:=η (λW (hW:β w W)=>Lt db p D s W (H.below hW) Pw);have CL:=η (M9 Pw.ob s);have jQ:aA (dg D s)<=100000:=by have h1:=Pn D s;have h2:=Pw.ob.len;omega
 have yj:=η hb;have HF:=η H;have Ds:=η (λW p' (h:bT W db p' D) A c (ho:iE db p' W A (bA (jP D s)))=>a2F db p' D (jP D s) A c W h ho.dh ho.o hO hI (by omega));have SX:=η (λW p' (h:bT W db p' (ij D (jP D s))) A c (ho:iE db p' W A (bA (oB D s)))=>a1c db p' (ij D (jP D s)) (oB D s) 14 A c W h ho.dh ho.o hg hk);clear H hb hO Pw hI hg;have EX:jP D s=jb (balA (aA D.x.ms) (aA D.x.ss+1) D.l 1 0 s) (dg D s):=rfl;have Ji:oB D s=jh (balA (aA D.x.ms) (aA D.x.ss+1) D.l 1 0 s) (dg D s):=rfl;rw [qo.o];have TP:=η (λW A c (hs:aW W W.heap.size A (bA (dg D s)))=>(a6x (balA (aA D.x.ms) (aA D.x.ss+1) D.l 1 0 s) (dg D s) A c W yj.o hs CL.o jQ));rw [<-EX,<-Ji] at TP;clear EX Ji qo;generalize balA (aA D.x.ms) (aA D.x.ss+1) D.l 1 0 s=bq at*;generalize jP D s=G at*;generalize oB D s=K at*;generalize dg D s=L at*;generalize jD bq L=se at*;go_enter func71,ntmps71
 go_upto_region 2 with (first|(go_at_call 61;refine(wY _).mono ?_;rintro e w2 ⟨rfl,hb2⟩;have aV:=η hb2;clear hb2)|(go_at_call 46;refine(ew.o _ aV.o).mono ?_;rintro e w3 ⟨rfl,hb3⟩;have af:=τ aV hb3;clear hb3)|(go_at_call 68;refine(xe.o _ af.o).mono ?_;rintro e w4 ⟨v4,rfl,gL,hb4⟩;have ar:=τ af hb4;obtain⟨A4,c4,hv4⟩:=bJ gL;subst hv4;have kH:=η (aW.cA gL);clear gL hb4)|(go_at_call 137;refine(TP.o _ A4 c4 kH.o).mono ?_;rintro e w5 ⟨A5,c5,B5,d5,rfl,QI,hm5,dG⟩;have cz:=τ ar dG;have qz:=η (nw.I5 HF.o (QI.wide ar.o.size));have O6:=η (nw.I5 HF.o (hm5.wide ar.o.size));have oU:=η (cZ.bV HF.o cz.o);clear QI hm5 dG))
 clear ew xe TP aV af ar kH cz;go_upto_region 3 with (go_at_call 138;refine(Ds.o _ p oU.o.at A5 c5 qz.o.o).mono ?_;rintro e w6 ⟨rfl,h6⟩;obtain⟨p6,Es,Mk⟩:=oU.o.then h6;have oV:=η Es;have wH:=η (qz.o.step Mk);have Iu:=η (O6.o.step Mk);clear h6 Es Mk qz O6 oU)
 go_wp2_with (go_at_call 139;refine(SX.o _ p6 oV.o.at B5 d5 Iu.o.o).mono ?_;rintro e w7 ⟨rfl,h7⟩;obtain⟨p7,QP,DR⟩:=oV.o.then h7;have qI:=η QP;have E2:=η (wH.o.step DR);have O7:=η (Iu.o.step DR);clear h7 QP DR wH Iu oV)
 go_ret2;exact⟨A5,c5,B5,d5,p7,rfl,qI.o,E2.o,O7.o⟩
def xL(x:Int):List Int->List Int
 | []=> [x]
 |y::l=>if x<y then x::y::l else if x=y then y::l else y::xL x l
theorem X2 {x q:Int}:∀ {l:List Int},q∈xL x l↔q=x\/q∈l
 | []=>by simp [xL]
 |y::l=>by
  unfold xL;by_cases h:x<y
  ·rw [ifP h];simp
  rw [ifN h];by_cases h2:x=y
  ·rw [ifP h2];subst h2;simp
  rw [ifN h2,fC,X2,fC];constructor
  ·rintro (h|h|h)
   ·exact .inr (.inl h)
   ·exact .inl h
   exact .inr (.inr h)
  rintro (h|h|h)
  ·exact .inr (.inl h)
  ·exact .inl h
  exact .inr (.inr h)
theorem a4H {x:Int}:∀ {l:List Int},l.Pairwise (· < ·)->(xL x l).Pairwise (· < ·)
 | [],_=>by simp [xL]
 |y::l,h=>by
  obtain⟨h1,h2⟩:=kX.1 h;unfold xL;by_cases hx:x<y
  ·rw [ifP hx];refine kX.2 ⟨λz hz=> ?_,h⟩;rcases fC.1 hz with rfl|hz
   ·exact hx
   have:=h1 z hz;omega
  rw [ifN hx];by_cases h3:x=y
  ·rw [ifP h3];exact h
  rw [ifN h3];refine kX.2 ⟨λz hz=> ?_,a4H h2⟩;rcases X2.1 hz with rfl|hz
  ·omega
  exact h1 z hz
theorem a4G {x:Int}:∀ {l:List Int},aA (xL x l)<=aA l+1
 | []=>by simp [xL]
 |y::l=>by
  have:=a4G (x:=x) (l:=l);unfold xL;split
  ·simp
  split
  ·simp
  simp only [uB];omega
def xM(L:List Lg):List Int:=L.foldr (λy ks=>xL y.m ks) []
theorem aGw(L:List Lg):(xM L).Pairwise (· < ·):=by
 induction L with
 |nil=>exact Ti
 |cons y L ih=>exact a4H ih
theorem Qq(L:List Lg)(q:Int):q∈xM L↔∃y∈L,y.m=q:=by
 induction L with
 |nil=>simp [xM]
 |cons y L ih=>
  have e:xM (y::L)=xL y.m (xM L):=rfl;rw [e,X2,ih];constructor
  ·rintro (h|⟨z,hz,h⟩)
   ·exact⟨y,by simp,h.symm⟩
   exact⟨z,by simp [hz],h⟩
  rintro⟨z,hz,h⟩;rcases fC.1 hz with rfl|hz
  ·exact .inl h.symm
  exact .inr ⟨z,hz,h⟩
theorem a4b(L:List Lg):aA (xM L)<=aA L:=by
 induction L with
 |nil=>simp [xM]
 |cons y L ih=>
  have e:xM (y::L)=xL y.m (xM L):=rfl;have:=a4G (x:=y.m) (l:=xM L);rw [e,uB];omega
theorem a4a {L:List Lg} {ks:List Int}(h:ks.Pairwise (· < ·))(hm:∀q,q∈ks↔∃y∈L,y.m=q):ks=xM L:=
 a6s h (aGw L) (λq=>(hm q).trans (Qq L q).symm)
def oL(x:ak)(K:List Lg):List Lg:=if wthsE x K=0 then rM (lq x K) (xM K) else []
def DX(X Y:List Lg):List Lg:=if rY X Y=0 then nP (fS (X++Y)) (xM (X++Y)) else []
theorem a2o {f:Int->List Int}:∀ {ks:List Int},gatE f ks=0->∀k∈ks,aL (sumI (f k))
 | [],_,k,hk=>by cases hk
 |x::xs,h,k,hk=>by
  unfold gatE at h;by_cases hx:aL (sumI (f x))
  ·rw [ifP hx] at h;rcases fC.1 hk with rfl|hk
   ·exact hx
   exact a2o h k hk
  rw [ifN hx] at h;cases h
theorem a2r(f:Int->List Int)(ks:List Int):aA (nP f ks)=aA ks:=by simp [nP]
theorem aFH(f:Int->List Int)(ks:List Int):aA (rM f ks)<=aA ks:=by
 unfold rM;split
 ·rw [a2r];exact aZ _
 simp
theorem YB(x:ak)(K:List Lg):aA (oL x K)<=aA K:=by
 unfold oL;split
 ·exact cC (aFH _ _) (a4b K)
 simp
theorem aLB {x:ak} {K:List Lg}(h:∀y∈K,aL y.m):∀y∈oL x K,aL y.m/\aL y.n:=by
 intro y hy;unfold oL at hy;split at hy
 ·unfold rM at hy;split at hy
  ·rename_i he;unfold nP at hy;obtain⟨k,hk,rfl⟩:=dV.1 hy;obtain⟨z,hz,hzk⟩:=(Qq K k).1 hk;exact⟨hzk▸h z hz,a2o he k hk⟩
  cases hy
 cases hy
theorem a4T(X Y:List Lg):aA (DX X Y)<=aA X+aA Y:=by
 unfold DX;split
 ·rw [a2r];exact cC (a4b _) (by simp)
 simp
theorem a4S {X Y:List Lg}:∀y∈DX X Y,aL y.n:=by
 intro y hy;unfold DX at hy;split at hy
 ·rename_i he;unfold nP at hy;obtain⟨k,hk,rfl⟩:=dV.1 hy;rcases a4Q X Y with⟨h1,h2⟩|⟨h1,h2,h3⟩|⟨h1,h2,h3,h4⟩|⟨h1,h2,h3,h4,h5⟩|⟨h1,h2,h3,h4,h5⟩
  ·rw [he] at h2;exact absurd h2.symm h1
  ·rw [he] at h3;exact absurd h3.symm h2
  ·rw [he] at h4;cases h4
  ·rw [he] at h5;cases h5
  refine a4R h1 h2 ?_ k;rw [he] at h5;by_cases hT:aL (Hw X Y)
  ·exact hT
  rw [(gh hT).2] at h5;cases h5
 cases hy
def gY(D:Dk)(K:List Lg):List Lg:=DX (dg D 0) (oL D.x K)
def vg(D:Dk)(K:List Lg):Int:=K6 D (iO (gY D K))
def dZ(D:Dk)(K:List Lg):Dk:=lY D (vg D K)
def iu(D:Dk)(K:List Lg):List Lg:=zU (balA (dZ D K).x.ms.length ((dZ D K).x.ss.length+1) (dZ D K).l 1 0 0) (gY D K)
def mQ(D:Dk)(K:List Lg):List Lg:=zV (balA (dZ D K).x.ms.length ((dZ D K).x.ss.length+1) (dZ D K).l 1 0 0) (gY D K)
def I8(D:Dk)(K:List Lg):Dk:=jq (ij (dZ D K) (iu D K)) 15 (mQ D K)
structure Oh(D:Dk)(K:List Lg):Prop where
 ok:fZ D
 b0:aL (balA (aA D.x.ms) (aA D.x.ss+1) D.l 1 0 0)
 kl:aA K<=400
 kI:∀y∈K,aL y.m/\aL y.a/\aL y.n
 sp:∀i,aL (dW D.x i).a
 gl:aA (dg D 0)<=400
 gm:∀y∈dg D 0,aL y.m
 ml:aA D.x.ms<=100000
 wI:∀x∈D.who,aL x
 nI:aL (vg D K)
 dO:∀k,k<=aA (iC D (vg D K))->fZ (o8 D ((iC D (vg D K)).take k))
 dI:∀x∈iC D (vg D K),aL x.k/\aL x.m/\aL x.n/\0<=x.n
 dl:aA (iC D (vg D K))<=100000
 b1:aL (balA (dZ D K).x.ms.length ((dZ D K).x.ss.length+1) (dZ D K).l 1 0 0)
 gO:∀k,k<=aA (iu D K)->fZ (ij (dZ D K) ((iu D K).take k))
 gI:∀x∈iu D K,aL x.m/\aL x.a/\aL x.n/\0<=x.n
 pl:aA (iu D K)<=80000
 lg:(ij (dZ D K) (iu D K)).log.length+aA (mQ D K)<=90000
 ll:aA (mQ D K)<=80000
theorem aEa(db:Nat)(p:Dp)(D:Dk)(K:List Lg)(A:Option ai)(c:Nat)(w:aJ)(H:bT w db p D)(hs:aW w w.heap.size A (bA K))(P:Oh D K):
 aQ aM 72 #[π db,aH A (aA K) c] w (Hand db p (I8 D K) (iu D K) (mQ D K) w):=by
 have HF:=η H;have xe:=η (λW (hW:β w W)=>Lt db p D 0 W (H.below hW) P.ok);have Ta:=η (aBq D.x K A c w H.src hs (by have:=P.kl;omega) P.kI P.sp);have Nz:=η (λW A B c d (h1:sN W A c (dg D 0)) (h2:sN W B d (oL D.x K))=>a9L (dg D 0) (oL D.x K) A B c d W h1 h2 (by have:=P.gl;omega) (by have:=P.kl;have:=YB D.x K;omega) (λy hy=>⟨P.gm y hy,M9 P.ok.ob 0 y hy⟩) (λy hy=>aLB (λz hz=>(P.kI z hz).1) y hy));have mH:aA (gY D K)<=100000:=by have h1:=P.gl;have h2:=P.kl;have h3:=YB D.x K;have h4:=a4T (dg D 0) (oL D.x K);unfold gY;omega
 have LB:=η (λW A c (hs:aW W W.heap.size A (bA (gY D K)))=>Um (gY D K) A c W hs a4S mH);have kF:=η (λW (hW:β w W)=>a2K db p D (iO (gY D K)) W (H.below hW) (Ro _) P.b0);have Ik:=η (λW (hW:β w W)=>Un db p D (vg D K) W (H.below hW) P.nI P.ml P.wI (by have:=P.ok.wl;omega) P.dO P.dI P.dl);have E5:=η (λW A c (hs:aW W W.heap.size A (bA (gY D K)))=>aIj (balA (dZ D K).x.ms.length ((dZ D K).x.ss.length+1) (dZ D K).l 1 0 0) (gY D K) A c W P.b1 hs a4S mH);have ew:=η (λW p' (h:bT W db p' (dZ D K))=>zW db p' (dZ D K) 1 0 0 W h (by decide) (by decide));have Ds:=η (λW p' (h:bT W db p' (dZ D K)) A c (ho:iE db p' W A (bA (iu D K)))=>a2F db p' (dZ D K) (iu D K) A c W h ho.dh ho.o P.gO P.gI (by have:=P.pl;omega));have SX:=η (λW p' (h:bT W db p' (ij (dZ D K) (iu D K))) A c (ho:iE db p' W A (bA (mQ D K)))=>a1c db p' (ij (dZ D K) (iu D K)) (mQ D K) 15 A c W h ho.dh ho.o P.lg P.ll);obtain⟨c0,c1,c2,c3,c4,c5,c6,c7,c8,c9,c10,c11,c12,c13,c14,c15⟩:=H.cells;have MF:lY D (vg D K)=dZ D K:=rfl;rw [MF] at Ik;have hE2:K6 D (iO (gY D K))=vg D K:=rfl;rw [hE2] at kF;have hE3:zU (balA (dZ D K).x.ms.length ((dZ D K).x.ss.length+1) (dZ D K).l 1 0 0) (gY D K)=iu D K:=rfl;have MG:zV (balA (dZ D K).x.ms.length ((dZ D K).x.ss.length+1) (dZ D K).l 1 0 0) (gY D K)=mQ D K:=rfl;rw [hE3,MG] at E5;have hE5:I8 D K=jq (ij (dZ D K) (iu D K)) 15 (mQ D K):=rfl;rw [hE5];unfold ak.val at Ta;have Ks:Hid (∀W A B c d,sN W A c (dg D 0)->sN W B d (oL D.x K)->aQ aM 141 #[aH A (aA (dg D 0)) c,aH B (aA (oL D.x K)) d] W λe W'=>∃er,FQ (gY D K) er W e W'):=η (λW A B c d h1 h2=>(Nz.o W A B c d h1 h2).mono (by
  rintro e W' (⟨h,hg⟩|⟨h,ks,zl,hk2,hg⟩)
  ·refine⟨rY (dg D 0) (oL D.x K), ?_⟩;have e2:gY D K= []:=by unfold gY DX;rw [ifN h]
   rw [e2];exact hg
  refine⟨0, ?_⟩;have e2:gY D K=nP (fS (dg D 0++oL D.x K)) ks:=by rw [a4a zl hk2];unfold gY DX;rw [ifP h]
  rw [e2];exact hg))
 have gB:Hid (aQ aM 140 #[bO #[aH D.x.Am (aA D.x.ms) D.x.cm,aH D.x.As (aA D.x.ss) D.x.cs,aH D.x.Ac (aA D.x.cy) D.x.cc,ν D.x.line,ν D.x.bu,ν D.x.lead,ν D.x.tr,ν D.x.bY],aH A (aA K) c] w λe W'=>∃er,FQ (oL D.x K) er w e W'):=η (Ta.o.mono (by
  rintro e W' (⟨h,hg⟩|⟨h,ks,zl,hk2,hg⟩)
  ·refine⟨wthsE D.x K, ?_⟩;have e2:oL D.x K= []:=by unfold oL;rw [ifN h]
   rw [e2];exact hg
  refine⟨gatE (lq D.x K) ks, ?_⟩;have e2:oL D.x K=rM (lq D.x K) ks:=by rw [a4a zl hk2];unfold oL;rw [ifP h]
  rw [e2];exact hg))
 clear Nz Ta MF hE2 hE3 MG hE5;generalize balA (dZ D K).x.ms.length ((dZ D K).x.ss.length+1) (dZ D K).l 1 0 0=bq at*;generalize yI bq (gY D K)=pe at*;generalize iu D K=G at*;generalize mQ D K=L at*;generalize dZ D K=E at*;generalize vg D K=n at*;generalize gY D K=O at*;generalize oL D.x K=V at*;generalize dg D 0=X at*;generalize iO O=sv at*;go_enter func72,ntmps72
 go_upto_region 2 with (go_at_call 140;refine gB.o.mono ?_;rintro e w1 ⟨er,A1,k1,rfl,ju,hb1⟩;have aR:=η hb1;have xy:=η ju.src)
 go_upto_region 3 with (first|(go_at_call 68;refine(xe.o _ aR.o).mono ?_;rintro e w2 ⟨v2,rfl,fN,hb2⟩;obtain⟨A2,k2,hv2⟩:=bJ fN;subst hv2;have kJ:=η ((⟨aW.cA fN,I7 fN⟩:sN w2 A2 k2 X));have aV:=τ aR hb2;have TW:=η (xy.o.below hb2))|(go_at_call 141;refine(Ks.o _ A2 A1 k2 k1 kJ.o TW.o).mono ?_;rintro e w3 ⟨er3,A3,k3,rfl,pn,hb3⟩;have af:=τ aV hb3;have cB:=η (iE.I5 HF.o (pn.wide aV.o.size))))
 go_upto_region 4 with (first|(go_at_call 67;refine(LB.o _ A3 k3 cB.o.dh).mono ?_;rintro e w4 ⟨rfl,hb4⟩;have ar:=τ af hb4;have dU:=η (cB.o.below hb4))|(go_at_call 66;refine(kF.o _ ar.o).mono ?_;rintro e w5 ⟨rfl,dG⟩;have cz:=τ ar dG;have fK:=η (dU.o.below dG))|(go_at_call 65;refine(Ik.o _ cz.o).mono ?_;rintro e w6 ⟨rfl,h6⟩;obtain⟨p6,Es,Mk⟩:=(cZ.bV HF.o cz.o).then h6;have oV:=η Es;have lV:=η (fK.o.step Mk)))
 go_upto_region 5 with (first|(go_at_call 61;refine(wY _).mono ?_;rintro e w7 ⟨rfl,gD⟩;have qI:=η (oV.o.below gD);have pQ:=η (lV.o.below gD))|(go_at_call 46;refine(ew.o _ p6 qI.o.at).mono ?_;rintro e w8 ⟨rfl,jr⟩;have oW:=η (qI.o.below jr);have tj:=η (pQ.o.below jr))|(go_at_call 142;refine(E5.o _ A3 k3 tj.o.dh).mono ?_;rintro e w9 ⟨A5,c5,B5,d5,rfl,hn9,hm9,gF⟩;have Iy:=η ((nw.I5 oW.o.at hn9).wide oW.o.size);have yu:=η ((nw.I5 oW.o.at hm9).wide oW.o.size);have sH:=η (oW.o.below gF)))
 go_upto_region 6 with (go_at_call 138;refine(Ds.o _ p6 sH.o.at A5 c5 Iy.o.o).mono ?_;rintro e wa ⟨rfl,ha⟩;obtain⟨pa,QR,hra⟩:=sH.o.then ha;have ZO:=η QR;have HNa:=η (Iy.o.step hra);have ZF:=η (yu.o.step hra))
 go_wp2_with (go_at_call 139;refine(SX.o _ pa ZO.o.at B5 d5 ZF.o.o).mono ?_;rintro e wb ⟨rfl,hb⟩;obtain⟨pb,Jv,Jx⟩:=ZO.o.then hb;have HQb:=η Jv;have HNb:=η (HNa.o.step Jx);have HMb:=η (ZF.o.step Jx))
 go_ret2;exact⟨A5,c5,B5,d5,pb,rfl,HQb.o,HNb.o,HMb.o⟩
def takeN(x:Bd)(la ca:Int):Int:=min x.q (min la (ca/x.p))
def mR:List Bd->Int->Int->List Fi
 | [],_,_=> []
 |x::L,la,ca=>if la=0 then [] else if takeN x la ca=0 then mR L la ca else⟨x,takeN x la ca,takeN x la ca*x.p⟩::mR L (la-takeN x la ca) (ca-takeN x la ca*x.p)
theorem aF2:(aM.info? 208).map (λi=>(i.zero,i.size,i.bytes))=aC (aC (bO #[aG aF 0,aG aF 0,aG aF 0,aG aF 0,aG aF 0,aG aF 0,aG aF 0]),7,56):=by kernel_rfl
theorem aF1(l:List Fi)(x:Fi):BM (l++ [x])=BM l++x.cells:=by simp [BM]
theorem aF3(x:Fi):∀u∈x.cells,u.oneCell'=aO:=by intro u hu;simp [Fi.cells] at hu;rcases hu with rfl|rfl|rfl|rfl|rfl|rfl|rfl<;>rfl
theorem XE {w:aJ} {b t st n:Nat} {v:aN} {l:List aN}(h:w.ownsRow b t st v n l)(m:Nat):(w.drewN m).ownsRow b t st v n l:=h
theorem aKf {s m c q p a b n:Int}(hq:0<=q)(ha:0<=a)(hb:0<=b)(hp:0<p)(hn:n=(if b/p<if a<q then a else q then b/p else if a<q then a else q)):0<=n/\n<=q/\n<=a/\n*p<=b/\n=takeN ⟨s,m,c,q,p⟩ a b:=by
 have h1:0<=b/p:=Int.ediv_nonneg hb (by omega);have h2:b/p*p<=b:=Int.ediv_mul_le b (by omega);have h3:n<=b/p:=by split at hn<;>split at hn<;>omega
 refine⟨by split at hn<;>split at hn<;>omega,by split at hn<;>split at hn<;>omega,by split at hn<;>split at hn<;>omega,jm (LL h3 (by omega)) h2, ?_⟩;unfold takeN;show n=min q (min a (b/p));split at hn<;>split at hn<;>omega
theorem aCE(L:List Bd)(A:Option ai)(c:Nat)(la ca:Int)(w:aJ)(hs:aW w w.heap.size A (ny L))(he:uG L la ca=0)(Vw:aL la)(qV:aL ca)(hI:∀x∈L,aL x.q/\aL x.p):
 aQ aM 133 #[aH A (aA L) c,ν la,ν ca] w λe w'=>∃v,e=aU (bB #[v,ν 0])/\w'.ownsRow w.heap.size 208 7 v (aA (mR L la ca)) (BM (mR L la ca))/\β w w':=by
 have HS:=η hs;have hg:aA L<=1024/\0<=la/\0<=ca/\L.any rH=aP:=by
  unfold uG at he;by_cases h1:1024<aA L
  ·rw [ifP h1] at he;cases he
  rw [ifN h1] at he;by_cases h2:la<0\/ca<0\/L.any rH=aO
  ·rw [ifP h2] at he;cases he
  exact⟨by omega,by omega,by omega,by cases h:L.any rH;rfl;exact absurd (.inr (.inr h)) h2⟩
 obtain⟨hl,h0,h1,h2⟩:=hg;have pN:=η (aBu L A c la ca w hs (by omega));rw [he] at pN;have HP:Hid (∀x∈L,1<=x.q/\1<=x.p/\aL x.q/\aL x.p):=η λx hx=>by have:=zE.1 h2 x hx;simp [rH] at this;exact⟨by omega,by omega,hI x hx⟩
 obtain⟨i0,bj,hz0,fh,xK⟩:=dK aF2;obtain⟨R,HR⟩:∃R,Hid (mR L la ca=R):=⟨_,η rfl⟩;have tx:Hid (R= []++mR (L.drop 0) la ca):=η HR.o.symm;rw [HR.o];obtain⟨a3k,Vw⟩:=Vw;obtain⟨a3c,qV⟩:=qV;go_enter func133,ntmps133
 go_wp2_with fail
 go_step3
 go_wp2_with (go_at_call 192;refine pN.o.mono ?_;rintro e w1 ⟨rfl,hb1⟩;have aR:=η hb1)
 go_step3
 go_wp2_with fail
 go_loopw [1,2,9,11,12,22] (λlv cv u _ _ i wr=>∃(k:Nat) (a b:Int) (F:List Fi),k<=aA L/\i=ν (k:Int)/\lv=ν a/\cv=ν b/\0<=a/\a<=9223372036854775807/\0<=b/\b<=9223372036854775807/\aA F<=k/\Hid (R=F++mR (L.drop k) a b)/\Hid (wr.ownsRow w.heap.size 208 7 u (aA F) (BM F))/\Hid (β w wr)) (λ_ _ _ _ _ i _=>aA L-(ag i).toNat)
 case atStart=>exact⟨0,la,ca,[],bL _,rfl,rfl,rfl,h0,Vw,h1,qV,aZ _,tx,gC _ _ _ _,aR⟩
 case round=>
  obtain⟨k,a,b,F,hk,rfl,rfl,rfl,ha0,ha1,hb0,hb1,hF,HR,HO,HB⟩:=hrel;have hsz:=HB.o.size;by_cases hlt:k<aA L
  ·obtain⟨bb,oo,rfl,js,d0,d1,d2,d3,d4⟩:=PF ((HS.o.below HB.o).mono hsz) hlt;obtain⟨p1,p2,p3,p4⟩:=HP.o _ (cK hlt);have Ik:Hid (L.drop k=L[k]::L.drop (k+1)):=η (JF hlt);have hkb:(k:Int)<(aA L:Int):=by omega
   generalize L[k]=x at*;obtain⟨xs,xm,xc,xq,xp⟩:=x;simp only at p1 p2 p3 p4 d0 d1 d2 d3 d4;unfold aL at p3 p4;go_upto_region 8 with fail
   go_quiet (fail)
   obtain⟨n,hn⟩:∃n,n=(if b/xp<if a<xq then a else xq then b/xp else if a<xq then a else xq):=⟨_,rfl⟩;rw [<-hn];obtain⟨t1,t2,t3,t4,t5⟩:=aKf (s:=xs) (m:=xm) (c:=xc) (show 0<=xq by omega) ha0 hb0 (show 0<xp by omega) hn;clear hn;rw [Ik.o] at HR;by_cases Wj:a=0
   ·subst Wj;have lL:Hid (R=F):=η (by rw [HR.o];simp [mR]);go_wp2_with fail
    rw [a8G];go_ret2;rw [lL.o];exact⟨_,rfl,XE ((HO.o.alloc _)) nq,below_drewN (HB.o.alloc hsz _) nq⟩
   by_cases DV:n=0
   ·subst DV;have lL:Hid (R=F++mR (L.drop (k+1)) a b):=η (by rw [HR.o];simp [mR,Wj,<-t5]);clear HR;go_wp2_with fail
    go_roundw
    case rel=>exact⟨k+1,a,b,F,by omega,by go_num,rfl,rfl,ha0,ha1,hb0,hb1,by omega,lL,η (XE (HO.o.alloc _) nq),η (below_drewN (HB.o.alloc hsz _) nq)⟩
    case measure=>simp [ag];omega
   have t6:0<=n*xp:=Int.mul_nonneg t1 (by omega);have jH:Hid (R=(F++ [⟨⟨xs,xm,xc,xq,xp⟩,n,n*xp⟩])++mR (L.drop (k+1)) (a-n) (b-n*xp)):=η (by rw [HR.o];simp [mR,Wj,<-t5,DV]);clear HR;have yP:fV (n*xp)=n*xp:=by unfold fV;omega
   have hw2:fV (a-n)=a-n:=by unfold fV;omega
   have hw3:fV (b-n*xp)=b-n*xp:=by unfold fV;omega
   have cB:=η (XE (HO.o.alloc (aK #[ν xs,ν xm,ν xc,ν xq,ν xp] 41)) nq);have hzF:(aA F:Int)<=1024:=by omega
   clear t5;generalize hzz:n*xp=z at*;go_wp2_with (at_builtin;refine iw _ rfl _ _ 201 rfl w.heap.size 208 i0 _ 7 56 underlying201 bj hz0 fh xK rfl (by decide) _ (aA F) (BM F) rfl (cB.o.alloc _) ⟨wr.heap.size+1,0,aB⟩ 1 1 (Fi.cells ⟨⟨xs,xm,xc,xq,xp⟩,n,z⟩) rfl rfl ?c1 (aF3 _) ?c3 ?c4 ?c5 ?_)
   case c1=>exact dM _ _ #[_,_,_,_,_,_,_] (by simp)
   case c3=>simp only [bK];omega
   case c4=>omega
   case c5=>simp;omega
   intro v' w4 hown1 dE _;have dU:Hid (w4.ownsRow w.heap.size 208 7 v' (aA (F++ [(⟨⟨xs,xm,xc,xq,xp⟩,n,z⟩:Fi)])) (BM (F++ [⟨⟨xs,xm,xc,xq,xp⟩,n,z⟩]))):=by show jn _ _ _ _ _ _ _;rw [aF1,cL,uC];exact hown1
   have ar:Hid (β w w4):=η (((below_drewN (HB.o.alloc hsz _) nq).alloc (by simp;omega) _).grown dE (by simp;omega) (λj hj=>ei cB.o j hj));have hbl:w4.heap[wr.heap.size]? =aC (aK #[ν xs,ν xm,ν xc,ν xq,ν xp] 41):=by
    refine(dE.block _ (by simp;omega) (λhe=> ?_)).trans ?_
    ·have:=(HO.o.lt _ he.symm).2;omega
    rw [fG _ _ (by simp)];exact cT _ _
   have hc4:w4.cell? ⟨wr.heap.size,4,aB⟩=aC (ν xp):=by
    first
     |(simp [World.cell?,hbl];done)
     |(simp [World.cell?,aJ.aMX,hbl];done)
   clear hown1 dE hbl;go_wp2_with fail
   go_roundw
   case rel=>exact⟨k+1,a-n,b-z,F++ [⟨⟨xs,xm,xc,xq,xp⟩,n,z⟩],by omega,by go_num,rfl,rfl,by omega,by omega,by omega,by omega,by rw [cL,uC];omega,jH,dU,ar⟩
   case measure=>simp [ag];omega
  obtain rfl:k=aA L:=by omega
  have lL:Hid (R=F):=η (by rw [HR.o];simp [mR]);go_wp2_with fail
  rw [a8G];go_ret2;rw [lL.o];exact⟨_,rfl,HO.o,HB.o⟩
def fM(s:Int)(x:Fi):List En:= [⟨7,x.b.m,s,-x.q⟩,⟨1,0,s,x.q⟩,⟨1,0,0,-x.c⟩,⟨7,x.b.m,0,x.c⟩]
def eK(D:Dk)(es:List En):List Int:=if lR (aA D.x.ms) (aA D.x.ss+1) D.l D.h es=0 then jw (aA D.x.ms) (aA D.x.ss+1) D.l es else D.l
def Gk(s:Int)(D:Dk)(x:Fi):Dk:= {D with l:=eK D (fM s x),log:=D.log++ [⟨12,x.b.m,s,x.q,x.b.s⟩,⟨19,x.b.m,0,x.c,x.b.s⟩]}
def tB(s:Int)(D:Dk)(L:List Fi):Dk:=L.foldl (Gk s) D
theorem aF4 {s:Int} {D:Dk} {L:List Fi} {k:Nat}(h:k<aA L):tB s D (L.take (k+1))=Gk s (tB s D (L.take k)) L[k]:=by rw [fF h];unfold tB;rw [List.foldl_append];rfl
def FM(D:Dk)(s:Int)(Bs:List Bd):Prop:=∃is,JD ((q9 D.bx s).map bk) is/\Bs=is.map λi=>(q9 D.bx s).getD i ⟨0,0,0,0,0⟩
def yG(D:Dk):Int:=yF D+qg (jB D) D.who
def mZ(D:Dk)(s:Int)(Bs:List Bd):List Fi:=mR Bs (jE D s) (yG D)
def ot(D:Dk)(s:Int)(Bs:List Bd):Int:=rI (mZ D s Bs)-yF D
def JS(D:Dk)(s:Int)(Bs:List Bd):Dk:=tB s (lY D (ot D s Bs)) (mZ D s Bs)
structure YL(D:Dk)(s:Int)(Bs:List Bd):Prop where
 cI:aL (yG D)
 au:uG Bs (jE D s) (yG D)=0
 bI:∀x∈Bs,aL x.q/\aL x.p
 nI:aL (ot D s Bs)
 dO:∀k,k<=aA (iC D (ot D s Bs))->fZ (o8 D ((iC D (ot D s Bs)).take k))
 dI:∀x∈iC D (ot D s Bs),aL x.k/\aL x.m/\aL x.n/\0<=x.n
 dl:aA (iC D (ot D s Bs))<=100000
 fO:∀k,k<=aA (mZ D s Bs)->fZ (tB s (lY D (ot D s Bs)) ((mZ D s Bs).take k))
 fI:∀x∈mZ D s Bs,aL x.b.m/\aL x.q/\aL x.c/\0<=x.q/\0<=x.c
 fl:aA (mZ D s Bs)<=80000
structure SE(D:Dk)(s:Int):Prop where
 ok:fZ D
 sI:aL s
 bs:aL (balA (aA D.x.ms) (aA D.x.ss+1) D.l 1 0 s)
 b0:aL (balA (aA D.x.ms) (aA D.x.ss+1) D.l 1 0 0)
 ml:aA D.x.ms<=100000
 wI:∀x∈D.who,aL x
 xI:∀d∈D.bx,aL d.s
 all:jE D s≠0->∀Bs,FM D s Bs->YL D s Bs
def IW(D:Dk)(s:Int)(D':Dk):Prop:=(jE D s=0/\D'=D)\/(jE D s≠0/\∃Bs,FM D s Bs/\D'=JS D s Bs)
theorem vq {n:Int}(h:aL n):aF.wrap n=n:=by rw [fW];unfold aL at h;omega
theorem aJy(a:Int)(L:List Lg):aL (AJ a L):=by
 unfold AJ;split
 ·unfold yX;split
  ·decide
  split
  ·exact UQ _
  decide
 decide
theorem aIX(a b:Int):aL (pG a b):=by
 unfold pG;split
 ·decide
 split
 ·assumption
 decide
theorem aEL(db:Nat)(p:Dp)(D:Dk)(s:Int)(w:aJ)(H:bT w db p D)(P:SE D s):
 aQ aM 70 #[π db,ν s] w λe w'=>e=aU (bB #[])/\∃D',IW D s D'/\aq db p D' w w':=by
 have HF:=η H;have HP:=η P;have uj:=η (Uq db p D s w H P.ok P.bs);have yN:=H.lt;clear H P;by_cases h0:jE D s=0
 ·rw [h0] at uj;have HR:Hid (IW D s D):=η (.inl ⟨h0,rfl⟩);clear h0 HP;go_enter aAd,aBP
  go_wp2_with (go_at_call 69;refine uj.o.mono ?_;rintro e w1 ⟨rfl,hb1⟩;have aR:=η hb1;clear hb1)
  (try simp only [Exit.inBlock,Exit.then])
  refine bodyPost_ret (results_none rfl _ _ _) rfl ?_;exact⟨rfl,D,HR.o,aq.bV HF.o aR.o⟩
 have hb0:(jE D s==0)=aP:=by simpa using h0
 have oP:=η h0;have Dm:=η (HP.o.all h0);clear h0;have CS:=η (λW (hW:β w W)=>a2N db p D W (HF.o.below hW) HP.o.ml);obtain⟨Aw,cw,hv⟩:=bJ HF.o.who;have sL:=η (λW (hW:β w W)=>(show aW W W.heap.size Aw (D.who.map (aG aF)) by have h1:=(HF.o.below hW).who;rw [hv] at h1;exact aW.cA h1));have bW:=η (λW (hW:β w W)=>(show W.cell? ⟨db,11,aB⟩=aC (aH Aw (aA D.who) cw) from(by rw [<-hv];exact(HF.o.below hW).cells.c11)));have Ii:=η (λW (hW:β w W)=>(HF.o.below hW).cells.c10);have Kc:=η (λW (hW:β w W)=>aEK db p D W (HF.o.below hW) HP.o.ok HP.o.b0);have xt:=η (λW (hW:β w W)=>aLa p.xc p.xv D.bx s p.xb W (HF.o.below hW).bx (by have:=HP.o.ok.bl;omega) HP.o.xI);have LC:Hid (aL (jE D s)):=η (aJy _ _);have HR:Hid (∀Bs D',FM D s Bs->D'=JS D s Bs->IW D s D'):=η (λBs D' h e=> .inr ⟨oP.o,Bs,h,e⟩);have LI:Hid (aA D.who<=1000):=η (by have:=HP.o.ok.wl;omega);have Jz:=LI.o;go_enter aAd,aBP
 go_upto_region 2 with (go_at_call 69;refine uj.o.mono ?_;rintro e w1 ⟨rfl,hb1⟩;have aR:=η hb1;clear hb1)
 have bU:β w w1.drew:=aR.o.drew;have hdd:=bW.o _ bU;clear uj aR;go_region_held3 (λW=>W.cell? ⟨db,11,aB⟩=aC (aH Aw (aA D.who) cw)) (first|(with_reducible assumption)) (first|(go_at_call 128;refine(CS.o _ (by with_reducible assumption)).mono ?_;rintro e w2 ⟨P,rfl,mK,nV,uO,xJ,Er,hb2⟩;have eH:β w w2:=jl (by with_reducible assumption) (hb2.mono (gS (by with_reducible assumption)));have hcc:=bW.o _ eH)|(go_at_call 132;refine(aJV P D.who Aw cw _ Er (by rw [mK,o6];simp only [bK];have:=HP.o.ml;omega) (sL.o _ eH) Jz HP.o.wI).mono ?_;rintro e w3 ⟨rfl,hb3⟩;have VX:=eH.trans (hb3.mono eH.size);have hc3:=bW.o _ VX))
 all_goals
  rw [aJU mK nV uO xJ];have af:=η VX;generalize gH P D.who=me at*;clear mK nV uO xJ Er hb2 eH hcc hb3 VX hc3 bU hdd CS sL bW;have c10:=Ii.o _ af.o;have FR:Hid (yF D+qg (jB D) D.who=yG D):=η rfl;have yj:Hid (aL (yF D)):=η (aIX _ _);have J7:Hid (∀Bs,mR Bs (jE D s) (yG D)=mZ D s Bs):=η (λ_=>rfl);have HNF:Hid (∀Bs,rI (mZ D s Bs)-yF D=ot D s Bs):=η (λ_=>rfl);have HDF:Hid (∀Bs,JS D s Bs=tB s (lY D (ot D s Bs)) (mZ D s Bs)):=η (λ_=>rfl);clear Ii;generalize qg (jB D) D.who=rv at*;have rC:Hid (∀Bs,FM D s Bs->aF.wrap (yF D+rv)=yG D):=η (λBs h=>by rw [FR.o];exact vq (Dm.o Bs h).cI);go_upto_region 4 with (first|(go_at_call 134;refine(xt.o _ af.o).mono ?_;rintro e w4 ⟨v4,is,rfl,Vm,gL,hb4⟩;obtain⟨A4,k4,hv4⟩:=bJ gL;subst hv4;have ar:=τ af hb4;have lD:Hid (FM D s (is.map λi=>(q9 D.bx s).getD i ⟨0,0,0,0,0⟩)):=η ⟨is,Vm,rfl⟩;have kH:=η (aW.cA gL);have nR:aA is=aA (is.map λi=>(q9 D.bx s).getD i ⟨0,0,0,0,0⟩):=(by simp);clear gL hb4 Vm xt;rw [nR];clear nR;generalize (is.map λi=>(q9 D.bx s).getD i (⟨0,0,0,0,0⟩:Bd))=Bs at*;have dP:=η (Dm.o Bs lD.o))|(go_at_call 135;refine(Kc.o _ ar.o).mono ?_;rintro e w5 ⟨rfl,dG⟩;have cz:=τ ar dG;have J4:=η ((kH.o.below dG).mono dG.size);have hwr:=rC.o Bs lD.o;clear dG ar kH)|(go_at_call 133;refine(aCE Bs A4 k4 (jE D s) (yG D) _ J4.o dP.o.au LC.o dP.o.cI dP.o.bI).mono ?_;rintro e w6 ⟨v6,rfl,tH,iL⟩;obtain⟨A6,k6,hv6⟩:=bJ tH;subst hv6;rw [J7.o] at tH ⊢;have gz:=τ cz iL;have lV:=η (iE.cA HF.o (jT tH cz.o.size));clear tH iL cz J4 hwr))
  clear af c10;have FW:=η dP.o.fl;have gV:=FW.o;have Yj:=η (λW (hW:β w W)=>Un db p D (ot D s Bs) W (HF.o.below hW) dP.o.nI HP.o.ml HP.o.wI LI.o dP.o.dO dP.o.dI dP.o.dl);have hwr:aF.wrap (rI (mZ D s Bs)-yF D)=ot D s Bs:=vq dP.o.nI;have HFO:=η dP.o.fO;have Il:=η dP.o.fI;have HSI:=η HP.o.sI;have pS:Hid (IW D s (tB s (lY D (ot D s Bs)) (mZ D s Bs))):=η (HR.o Bs _ lD.o rfl);clear dP lD HR Dm LC FR J7 HDF yj HNF;generalize ot D s Bs=bn at*;generalize mZ D s Bs=L at*;generalize lY D bn=D1 at*;go_upto_region 5 with (first|(go_at_call 136;refine(aDy L A6 k6 _ lV.o.dh (by have:=FW.o;omega)).mono ?_;rintro e w7 ⟨rfl,gD⟩;have ub:=τ gz gD;have pQ:=η (lV.o.below gD);clear gD lV gz)|(go_at_call 135;refine(Kc.o _ ub.o).mono ?_;rintro e w8 ⟨rfl,jr⟩;have qE:=τ ub jr;have tj:=η (pQ.o.below jr);clear jr pQ ub)|(go_at_call 65;refine(Yj.o _ qE.o).mono ?_;rintro e w9 ⟨rfl,h9⟩;obtain⟨p9,zq,Ew⟩:=(cZ.bV HF.o qE.o).then h9;have sH:=η zq;have wJ:=η (tj.o.step Ew);clear h9 zq Ew tj qE))
  clear Yj Kc hwr;have iP:Hid (aq db p9 (tB s D1 (L.take 0)) w9 w9):=η (aq.refl sH.o.at);have B2:Hid (∀W D2,aq db p9 D2 w9 W->aW W W.heap.size A6 (BM L)):=η (λW D2 h=>by obtain⟨_,_,_,_,_,_,hu,_⟩:=h;exact hu.dh wJ.o.dh wJ.o.o);clear wJ;go_wp2_with fail
  go_loopw [10,11,51] (λ_ _ i wr=>∃k:Nat,k<=aA L/\i=ν (k:Int)/\Hid (aq db p9 (tB s D1 (L.take k)) w9 wr)) (λ_ _ i _=>aA L-(ag i).toNat)
  case atStart=>exact⟨0,bL _,rfl,iP⟩
  case round=>
   clear iP;obtain⟨k,hk,rfl,L8⟩:=hrel;by_cases hlt:k<aA L
   ·obtain⟨bl,ol,kN,hbl,l0,l1,l2,l3,l4,l5,l6⟩:=a2h (B2.o _ _ L8.o) hlt;have eV:(0:Int)<=(k:Int):=by omega
    have hkb:(k:Int)<(aA L:Int):=by omega
    obtain⟨p1,h1,e1,e2,e3,e4,cj,hs1⟩:=L8.o;have HFk:=η h1;have mW:Hid (∀j,eY db p1 j->j<wr.heap.size):=η (λj hj=>h1.uR hj);have HT:Hid (∀W D2,aq db p1 D2 wr W->aq db p9 D2 w9 W):=η (λW D2 h=>aq.trans cj hs1 ⟨e1,e2,e3,e4⟩ h);have HL:=η (aF4 (s:=s) (D:=D1) hlt);have Sz:=η (HFO.o k hk);obtain⟨pg,pj,rQ,vL,Vj⟩:=Il.o _ (cK hlt);clear h1 e1 e2 e3 e4 cj hs1 L8;subst kN;generalize tB s D1 (L.take k)=E at*;generalize L[k]=x at*;obtain⟨⟨fs,fm,fe,fr,fp⟩,fq,fc⟩:=x;simp only at l0 l1 l2 l3 l4 l5 l6 pg pj rQ vL Vj;have oN:=η (kT pg (kT pj (kT rQ (kT vL Vj))));have hwq:aF.wrap (-fq)= -fq:=vq (by unfold aL at pj ⊢;omega);have hwc:aF.wrap (-fc)= -fc:=vq (by unfold aL at rQ ⊢;omega);have ug:Hid (Gk s E ⟨⟨fs,fm,fe,fr,fp⟩,fq,fc⟩= {E with l:=eK E (fM s ⟨⟨fs,fm,fe,fr,fp⟩,fq,fc⟩),log:=E.log++ [⟨12,fm,s,fq,fs⟩,⟨19,fm,0,fc,fs⟩]}):=η rfl;have ar:Hid (β wr (wr.alloc (aK #[ν fs,ν fm,ν fe,ν fr,ν fp,ν fq,ν fc] 208))):=η σ;have oY:Hid ((wr.alloc (aK #[ν fs,ν fm,ν fe,ν fr,ν fp,ν fq,ν fc] 208)).heap[wr.heap.size]? =aC (aK #[ν fs,ν fm,ν fe,ν fr,ν fp,ν fq,ν fc] 208 (0,0))):=η (cT wr _);have mM:wr.heap.size<(wr.alloc (aK #[ν fs,ν fm,ν fe,ν fr,ν fp,ν fq,ν fc] 208)).heap.size:=by simp
    clear pg pj rQ vL Vj;go_upto_region 8 with (fail)
    generalize wr.alloc (aK #[ν fs,ν fm,ν fe,ν fr,ν fp,ν fq,ν fc] 208)=w4 at*;obtain⟨bx,bQ⟩:∃bx,bx=wr.heap.size:=⟨_,rfl⟩;have dN:=η bQ;rw [<-bQ] at oY mM ⊢;clear bQ l0 l1 l2 l3 l4 l5 l6;have x1:w4.cell? ⟨bx,1,aB⟩=aC (ν fm):=ρ oY.o;go_upto_region 9 with (fail)
    clear x1;have lF:=η (HFk.o.below ar.o);have bP:Hid (¬eY db p1 bx):=η (λh=>by have:=mW.o bx h;rw [dN.o] at this;omega);have bW:Hid (∀W,β w4 W->W.cell? ⟨db,8,aB⟩=aC (π p1.vb)/\W.cell? ⟨bx,0,aB⟩=aC (ν fs)/\W.cell? ⟨bx,5,aB⟩=aC (ν fq)/\W.cell? ⟨bx,6,aB⟩=aC (ν fc)):=η (λW hW=>by have hd:=(hW.block bx mM).trans oY.o;exact⟨(lF.o.below hW).cells.c8,ρ hd,ρ hd,ρ hd⟩);have lU:Hid (∀W b,β w4 W->aW W W.heap.size (aC ⟨b,0,aB⟩) (qT (fM s ⟨⟨fs,fm,fe,fr,fp⟩,fq,fc⟩))->aQ aM 50 #[π p1.vb,aH (aC ⟨b,0,aB⟩) 4 4] W λe W'=>e=aU (ν (lR (aA E.x.ms) (aA E.x.ss+1) E.l E.h (fM s ⟨⟨fs,fm,fe,fr,fp⟩,fq,fc⟩)))/\aq db p1 {E with l:=eK E (fM s ⟨⟨fs,fm,fe,fr,fp⟩,fq,fc⟩)} W W'/\W'.cell? ⟨db,8,aB⟩=aC (π p1.vb)/\W'.cell? ⟨bx,0,aB⟩=aC (ν fs)/\W'.cell? ⟨bx,5,aB⟩=aC (ν fq)/\W'.cell? ⟨bx,6,aB⟩=aC (ν fc)):=η (λW b hW mn=>by
     refine(Y7 p1.vb p1.vp (aA E.x.ms) (aA E.x.ss+1) (aA E.x.ms) E.l E.h (fM s ⟨⟨fs,fm,fe,fr,fp⟩,fq,fc⟩) (aC ⟨b,0,aB⟩) 4 W (lF.o.below hW).vt mn ?_ Sz.o.lI (by have:=Sz.o.hl;omega) (by simp [fM])).mono ?_
     ·have h2:=oN.o;have h3:=HSI.o;intro y hy;simp only [fM,fC,List.not_mem_nil,or_false] at hy;rcases hy with rfl|rfl|rfl|rfl
      ·exact⟨(by decide:aL 7),h2.1,h3,(by have:=h2.2.1;have:=h2.2.2.2.1;unfold aL at*;simp only;omega)⟩
      ·exact⟨(by decide:aL 1),(by decide:aL 0),h3,h2.2.1⟩
      ·exact⟨(by decide:aL 1),(by decide:aL 0),(by decide:aL 0),(by have:=h2.2.2.1;have:=h2.2.2.2.2;unfold aL at*;simp only;omega)⟩
      exact⟨(by decide:aL 7),h2.1,(by decide:aL 0),h2.2.2.1⟩
     intro e W' h;obtain⟨q1,q2⟩:=(lF.o.below hW).moved h;have hz:=cR mM hW.size;obtain⟨_,r0,r1,r2⟩:=bW.o W hW;obtain⟨p3,H3,f1,f2,f3,f4,px,hs3⟩:=q2;have RM:aq db p1 {E with l:=eK E (fM s ⟨⟨fs,fm,fe,fr,fp⟩,fq,fc⟩)} W W':=⟨p3,H3,f1,f2,f3,f4,px,hs3⟩;exact⟨q1,RM,by rw [<-f1];exact H3.cells.c8,(RM.cell 0 hz bP.o).trans r0,(RM.cell 5 hz bP.o).trans r1,(RM.cell 6 hz bP.o).trans r2⟩)
    have bU:β w4 w4.drew:=(aX _ _).drew;have hdd:=bW.o _ bU;go_region_held3 (λW=>W.cell? ⟨db,8,aB⟩=aC (π p1.vb)/\W.cell? ⟨bx,0,aB⟩=aC (ν fs)/\W.cell? ⟨bx,5,aB⟩=aC (ν fq)/\W.cell? ⟨bx,6,aB⟩=aC (ν fc)) (first|(with_reducible assumption)|(refine bW.o _ (qj (by with_reducible assumption) (gS (by with_reducible assumption)) _))) (first|(go_at_call 61;refine(wY _).mono ?_;rintro e w5 ⟨rfl,gG⟩;have pd:β w4 w5:=jl (by with_reducible assumption) (gG.mono (gS (by with_reducible assumption)));have hcc:=bW.o _ pd)|(go_at_call 49;refine(EM fm _).mono ?_;rintro e w6 ⟨rfl,tD⟩;have xC:β w4 w6:=jl (by with_reducible assumption) (tD.mono (gS (by with_reducible assumption)));have qW:=bW.o _ xC)|(go_at_call 50;refine(lU.o _ _ (qj (by with_reducible assumption) (gS (by with_reducible assumption)) _) (a6f _ _ (qT (fM s ⟨⟨fs,fm,fe,fr,fp⟩,fq,fc⟩)))).mono ?_;rintro e w7 ⟨rfl,dD,zn⟩))
    all_goals
     have gA:Hid (aq db p1 {E with l:=eK E (fM s ⟨⟨fs,fm,fe,fr,fp⟩,fq,fc⟩)} wr w7):=η (aq.trans (bC.bV _ (ar.o.trans (Below.mono (qj (by with_reducible assumption) (gS (by with_reducible assumption)) _) ar.o.size))) (λ_ h=> .inl h) ⟨rfl,rfl,rfl,rfl⟩ dD);obtain⟨_,m0,m1,m2⟩:=zn;have Hv:bx<w7.heap.size:=World.block_lt_of_cell? _ _ m0;clear dD gG pd hcc tD xC qW bU hdd lU bW lF ar oY mM;obtain⟨p4,H4,e1,e2,e3,e4,py,jv⟩:=gA.o;have kU:=η (H4.below ((aX w7.heap.size w7).alloc (aZ _) (aK #[ν 12,ν fm,ν s,ν fq,ν fs,ν 19,ν fm,ν 0,ν fc,ν fs] 45)));have kW:=η (wx db p4 {E with l:=eK E (fM s ⟨⟨fs,fm,fe,fr,fp⟩,fq,fc⟩)} [⟨12,fm,s,fq,fs⟩,⟨19,fm,0,fc,fs⟩] w7.heap.size 2 _ kU.o (dM w7 45 #[ν 12,ν fm,ν s,ν fq,ν fs,ν 19,ν fm,ν 0,ν fc,ν fs] rfl) (by simp) (by simp) (by have:=Sz.o.gl;simp only;omega));have pO:Hid (∀W,aq db p4 {E with l:=eK E (fM s ⟨⟨fs,fm,fe,fr,fp⟩,fq,fc⟩),log:=E.log++ [⟨12,fm,s,fq,fs⟩,⟨19,fm,0,fc,fs⟩]} (w7.alloc (aK #[ν 12,ν fm,ν s,ν fq,ν fs,ν 19,ν fm,ν 0,ν fc,ν fs] 45)) W->aq db p9 (tB s D1 (L.take (k+1))) w9 W):=η (λW h=>by rw [HL.o,ug.o];exact HT.o W _ (aq.trans py jv ⟨e1,e2,e3,e4⟩ (aq.trans (bC.bV _ σ) (λ_ h=> .inl h) ⟨rfl,rfl,rfl,rfl⟩ h)));clear H4 e1 e2 e3 e4 py jv gA;go_wp2_with (go_at_call 55;refine kW.o.mono ?_;rintro e w8 ⟨rfl,h8⟩;have dt:=η (pO.o _ h8);clear h8)
     go_roundw
     case rel=>exact⟨k+1,by omega,by go_num,dt⟩
     case measure=>simp [ag];omega
   obtain rfl:k=aA L:=by omega
   rw [cU] at L8;go_wp2_with fail
   go_end0
   obtain⟨pz,hqz,_⟩:=sH.o.then L8.o;exact⟨rfl,_,pS.o,hqz.p⟩
def SK(w:aJ)(zs:List Int)(e:di)(w':aJ):Prop:=∃A c,e=aU (aH A (aA zs) c)/\w'.ownsRow w.heap.size 3 1 (aH A (aA zs) c) (aA zs) (zs.map (aG aF))/\aa w.heap.size w w'
theorem a5W(zs:List Int)(A:Option ai)(c:Nat)(w:aJ)(h:aW w w.heap.size A (zs.map (aG aF)))(hl:aA zs<=1000000):
 aQ aM 179 #[aH A (aA zs) c] w (SK w (qc zs)):=by
 have HS:=η h;have HE:=η (show qc zs=sP (zs.mergeSort λx y=>decide (x<=y)) from rfl);rcases Nat.eq_zero_or_pos (aA zs) with h0|h0
 ·have hz:zs= []:=nG h0;subst hz;cases A with
  |none=>
   go_enter a0H,a0a
   go_wp2_with fail
   refine(slices_Clone_int_nil 0 c _).mono ?_;rintro e w1 ⟨rfl,rfl⟩;go_wp2_with fail
   refine(slices_Sort_int_none aB 0 _).mono ?_;rintro e w2 ⟨rfl,rfl⟩;go_wp2_with fail
   refine(slices_Compact_int_empty aB 0 _).mono ?_;rintro e w3 ⟨rfl,rfl⟩;go_wp2_with fail
   go_ret;exact⟨aB,0,by rw [R9];rfl,by rw [R9];exact gC _ _ _ _,aX _ _⟩
  |some a=>
   go_enter a0H,a0a
   go_wp2_with fail
   refine(slices_Clone_int_zero a c _).mono ?_;rintro e w1 ⟨v1,rfl,eR,_,hb1⟩;obtain⟨A1,c1,rfl⟩:=bJ eR;have aR:=η hb1;have cF:=η eR;go_wp2_with fail
   refine(slices_Sort_int_none A1 c1 _).mono ?_;rintro e w2 ⟨rfl,rfl⟩;go_wp2_with fail
   refine(slices_Compact_int_empty A1 c1 _).mono ?_;rintro e w3 ⟨rfl,rfl⟩;go_wp2_with fail
   go_ret;exact⟨A1,c1,by rw [R9];rfl,by rw [R9];exact cF.o,aR.o⟩
 obtain⟨b,o,rfl,hb,_⟩:=tK HS.o h0;go_enter a0H,a0a
 go_wp2_with fail
 refine(slices_Clone_int b o (aA zs) c zs _ (aZ _) (by omega) (Xe HS.o)).mono ?_;rintro e w1 ⟨v1,rfl,eR,_,hb1⟩;rw [cU] at eR;obtain⟨g,cap,rfl,hg,hlt⟩:=eR.form h0;have cF:=η eR;have aR:=η hb1;have hz1:=hb1.size;clear eR hb1;go_wp2_with fail
 refine(aI5 zs g cap w.heap.size w _ hg cF.o hl aR.o hz1).mono ?_;rintro e w2 ⟨rfl,fN,hb2⟩;have iW:aA (zs.mergeSort λx y=>decide (x<=y))=aA zs:=List.length_mergeSort _;generalize (zs.mergeSort λx y=>decide (x<=y))=ms at*;rw [<-iW] at fN;have dB:=η fN;have aV:=η hb2;have hz2:=hb2.size;have aGD:aA ms<=1000000:=by omega
 clear fN hb2;rw [<-iW];clear iW;go_wp2_with fail
 refine(aDm ms g cap w.heap.size w _ hg dB.o aGD aV.o hz2).mono ?_;rintro e w3 ⟨rfl,ik,hb3⟩;have cB:=η ik;have af:=η hb3;clear ik hb3;go_wp2_with fail
 go_ret;rw [HE.o];exact⟨_,_,rfl,cB.o,af.o⟩
theorem aEv(L:List Ob)(A:Option ai)(c:Nat)(w:aJ)(hs:aW w w.heap.size A (fJ L))(hl:aA L<=1000000):
 aQ aM 121 #[aH A (aA L) c] w (SK w (qc ((L.filter λx=>x.st==1&&BK x).map (·.m)))):=by
 have HC:=η (aII L A c BK w hs hl (λx W _=>aEu x W));have hDl:aA (L.filter λx=>x.st==1&&BK x)<=aA L:=qN _ _;obtain⟨i0,bj,hz0,fh,hz2⟩:=dK Qp;generalize hzs:qc ((L.filter λx=>x.st==1&&BK x).map (·.m))=zs;have HZ:=η hzs;go_enter func121,ntmps121
 go_wp2_with fail
 refine HC.o.mono ?_;rintro e w1 ⟨v1,rfl,eR,hb1⟩;generalize (L.filter λx=>x.st==1&&BK x)=D at*;obtain⟨A1,c1,rfl⟩:=bJ eR;have HS:=η (aW.cA eR);have aR:=η hb1;have hz1:=hb1.size;go_wp2_with fail
 go_loopw [3,5,9] (λu _ i wr=>∃k:Nat,k<=aA D/\i=ν k/\Hid (wr.ownsRow w1.heap.size 3 1 u (aA ((D.take k).map (·.m))) (((D.take k).map (·.m)).map (aG aF)))/\Hid (β w1 wr)) (λ_ _ i _=>aA D-(ag i).toNat)
 case atStart=>exact⟨0,bL _,rfl,⟨by simp,aS ⟨rfl,rfl⟩⟩,aX _ _⟩
 case round=>
  obtain⟨k,hk,rfl,HO,HB⟩:=hrel;have hsz:=HB.o.size;by_cases hlt:k<aA D
  ·obtain⟨b,o,rfl,hb,d0,d1,d2,d3,d4,d5⟩:=xO (HS.o.below HB.o) hlt;have jH:Hid ((D.take (k+1)).map (·.m)=(D.take k).map (·.m)++ [D[k].m]):=by show _=_;rw [fF hlt,dY];rfl
   have Ba:aA ((D.take k).map (·.m))<=k:=by rw [iK];exact List.length_take_le _ _
   generalize (D.take k).map (·.m)=ys at*;go_wp2_with (at_builtin;refine iw _ rfl _ _ 46 rfl w1.heap.size 3 i0 _ 1 8 yD bj hz0 fh hz2 rfl (by decide) _ (aA ys) (ys.map (aG aF)) rfl ((HO.o.alloc _).alloc _) ⟨wr.heap.size+1,0,aB⟩ 1 1 [ν D[k].m] rfl rfl ?c1 xQ ?c3 ?c4 ?c5 ?_)
   case c1=>exact dM _ _ #[_] (by simp)
   case c3=>simp only [bK];omega
   case c4=>omega
   case c5=>simp;omega
   intro v' w4 hown1 dE _;have dU:Hid (w4.ownsRow w1.heap.size 3 1 v' (aA ((D.take (k+1)).map (·.m))) (((D.take (k+1)).map (·.m)).map (aG aF))):=by show jn _ _ _ _ _ _ _;rw [jH.o,dY,cL,uC];exact hown1
   have pP:Hid (β w1 w4):=((HB.o.alloc hsz _).alloc (by simp;omega) _).grown dE (by simp;omega) (λj hj=>ei HO.o j hj);go_wp2_with fail
   go_roundw
   case rel=>exact⟨k+1,by omega,by go_num,dU,pP⟩
   case measure=>simp [ag];omega
  obtain rfl:k=aA D:=by omega
  have hO:=HO.o;rw [cU] at hO;have Ba:aA (D.map (·.m))<=aA D:=by rw [iK];exact aZ _
  generalize D.map (·.m)=ys at*;obtain⟨A2,c2,rfl,hs2⟩:=Xf hO rfl;have cP:=η hs2;have cE:Hid (β w wr):=aR.o.trans (HB.o.mono hz1);go_wp2_with fail
  refine(a5W ys A2 c2 _ cP.o (by omega)).mono ?_;rintro e w5 ⟨A5,c5,rfl,hs5,dG⟩;rw [HZ.o] at hs5 ⊢;have J4:=η (jT hs5 cE.o.size);have cz:Hid (β w w5):=cE.o.trans (dG.mono cE.o.size);go_wp2_with fail
  go_ret;exact⟨A5,c5,rfl,J4.o,cz.o⟩
theorem aGq(z1 z2:List Int)(A1 A2:Option ai)(c1 c2:Nat)(w:aJ)(h1:wR w A1 c1 z1)(h2:wR w A2 c2 z2)(oD:aA z1<=100000)(hl2:aA z2<=100000):
 aQ aM 122 #[aH A1 (aA z1) c1,aH A2 (aA z2) c2] w (SK w (qc (z1++z2))):=by
 have hb:β w (w.alloc (aK #[aH A1 (aA z1) c1,aH A2 (aA z2) c2] 46)):=(aX _ _).alloc (aZ _) _;have HC:=η (aDs z1 z2 A1 A2 c1 c2 w.heap.size _ (h1.below hb) (h2.below hb) (by rw [cM _ _ _ _ rfl];rfl) (by rw [cM _ _ _ _ rfl];rfl) (by simp) oD hl2);have HB:=η hb;have mi:aA (z1++z2)<=1000000:=by rw [cL];omega
 generalize (z1++z2)=zs at*;go_enter func122,ntmps122
 go_wp2_with fail
 refine HC.o.mono ?_;rintro e w1 ⟨A3,c3,rfl,hs3,hb3⟩;have sJ:=η hs3;have af:Hid (β w w1):=HB.o.trans (hb3.mono (by simp));go_wp2_with fail
 refine(a5W zs A3 c3 _ sJ.o mi).mono ?_;rintro e w2 ⟨A4,c4,rfl,jv,hb4⟩;have kH:=η (jT jv af.o.size);have ar:Hid (β w w2):=af.o.trans (hb4.mono af.o.size);go_wp2_with fail
 go_ret;exact⟨A4,c4,rfl,kH.o,ar.o⟩
def nO(x:Ob)(who:List Int):Int:=if x.st≠1 then x.st else if 0<x.az/\x.done=x.az then 2 else if 0<x.az then 3 else if x.az<0/\hasB who x.m=aO then 3 else x.st
def vE(x:Ob)(who:List Int):Int:=if x.st≠1 then x.done else if 0<x.az/\x.done=x.az then x.done else if 0<x.az then x.done else if x.az<0/\hasB who x.m=aO then 0 else x.done
theorem KN {k:IntKind} {a b c d:Int}(h:a=c)(h':b=d):aU (bB #[aG k a,aG k b])=aU (bB #[aG k c,aG k d]):=by rw [h,h']
theorem aEw(x:Ob)(who:List Int)(A:Option ai)(c:Nat)(w:aJ)(hs:aW w w.heap.size A (who.map (aG aF)))(hl:aA who<=1000000):
 aQ aM 123 #[x.val,aH A (aA who) c] w λe w'=>e=aU (bB #[ν (nO x who),ν (vE x who)])/\β w w':=by
 obtain⟨xc,xm,xa,xn,xd,xs⟩:=x;unfold Ob.val nO vE;simp only;have hb0:β w (w.alloc (aK #[ν xc,ν xm,ν xa,ν xn,ν xd,ν xs] 59)):=(aX _ _).alloc (aZ _) _;have dC:Hid ((w.alloc (aK #[ν xc,ν xm,ν xa,ν xn,ν xd,ν xs] 59)).heap[w.heap.size]? =aC (aK #[ν xc,ν xm,ν xa,ν xn,ν xd,ν xs] 59 (0,0))):=η (cT w _);have hz0:w.heap.size<(w.alloc (aK #[ν xc,ν xm,ν xa,ν xn,ν xd,ν xs] 59)).heap.size:=by simp
 have fL:=η (λW (hW:β w W)=>((hs.below hW).mono hW.size:aW W W.heap.size A (who.map (aG aF))));have xj:=η (λW (hW:β w W)=>MM who A c xm W (fL.o W hW) hl);have aY:=η hb0;clear hs hb0;go_enter func123,ntmps123
 go_upto_region 1 with (fail)
 generalize w.alloc (aK #[ν xc,ν xm,ν xa,ν xn,ν xd,ν xs] 59)=w1 at*;obtain⟨bx,bQ⟩:∃bx,bx=w.heap.size:=⟨_,rfl⟩;rw [<-bQ] at dC hz0 ⊢;clear bQ;have c1:w1.cell? ⟨bx,1,aB⟩=aC (ν xm):=ρ dC.o;have c3:w1.cell? ⟨bx,3,aB⟩=aC (ν xn):=ρ dC.o;have c4:w1.cell? ⟨bx,4,aB⟩=aC (ν xd):=ρ dC.o;have c5:w1.cell? ⟨bx,5,aB⟩=aC (ν xs):=ρ dC.o;clear dC;by_cases h1:xs=1
 case neg=>
  have hb:(xs==1)=aP:=by simpa using h1
  go_upto_region 8 with (fail)
  go_quiet (fail)
  go_wp2_with fail
  go_ret2;exact⟨KN (by simp [h1]) (by simp [h1]),below_drewN aY.o nq⟩
 subst h1;by_cases h2:0<xn
 ·have hg:decide (xn>0)=aO:=decide_eq_true h2;by_cases h3:xd=xn
  ·subst h3;go_upto_region 3 with (fail)
   go_quiet (fail)
   go_wp2_with fail
   go_ret2;exact⟨KN (by simp [h2]) (by simp [h2]),below_drewN aY.o nq⟩
  have hb:(xd==xn)=aP:=by simpa using h3
  go_upto_region 5 with (fail)
  go_quiet (fail)
  go_wp2_with fail
  go_ret2;exact⟨KN (by simp [h2,h3]) (by simp [h2,h3]),below_drewN aY.o nq⟩
 have hg:decide (xn>0)=aP:=decide_eq_false h2;by_cases h3:xn<0
 ·have hn:decide (xn<0)=aO:=decide_eq_true h3;have xh:=xj.o _ aY.o;cases hh:hasB who xm
  ·rw [hh] at xh;have HH:=η xh;clear xh;go_upto_region 8 with (go_at_call 89;refine HH.o.mono ?_;rintro e w2 ⟨rfl,rfl⟩)
   go_quiet (fail)
   go_wp2_with fail
   go_ret2;exact⟨KN (by simp [h2,h3,hh]) (by simp [h2,h3,hh]),below_drewN aY.o nq⟩
  rw [hh] at xh;have HH:=η xh;clear xh;go_wp2_with (go_at_call 89;refine HH.o.mono ?_;rintro e w2 ⟨rfl,rfl⟩)
  go_ret2;exact⟨KN (by simp [h2,h3,hh]) (by simp [h2,h3,hh]),aY.o⟩
 have hn:decide (xn<0)=aP:=decide_eq_false h3;go_upto_region 8 with (fail)
 go_quiet (fail)
 go_wp2_with fail
 go_ret2;exact⟨KN (by simp [h2,h3]) (by simp [h2,h3]),below_drewN aY.o nq⟩
def su(D:Dk):List Int:=qc ((D.ob.filter λx=>x.st==1&&BK x).map (·.m))
def ru(D:Dk)(L:List Int):List Ev:=(L.filter λm=> !hasB D.who m).map λm=>⟨8,m,0,0,0⟩
def uV(D:Dk)(L:List Int):Dk:= {D with log:=D.log++ru D L}
theorem aIV {D:Dk} {L:List Int} {k:Nat}(h:k<aA L):ru D (L.take (k+1))=ru D (L.take k)++if hasB D.who L[k] then [] else [⟨8,L[k],0,0,0⟩]:=by rw [fF h];unfold ru;rw [List.filter_append,dY,List.filter_cons];cases hasB D.who L[k]<;>simp
theorem aIU(D:Dk)(L:List Int):aA (ru D L)<=aA L:=by unfold ru;rw [iK];exact qN _ _
def ve(D:Dk):Dk:= {D with log:=D.log++ru D (su D),who:=qc (D.who++su D)}
def yH(D:Dk)(x:Ob):Dk:=
 if x.st≠1 then D else if nO x D.who=1 then D else
 if x.az<0 then {D with ob:=lQ x.m x.a (nO x D.who) (vE x D.who) D.ob,log:=D.log++ [⟨9,x.m,x.a,-x.az,0⟩]} else {D with ob:=lQ x.m x.a (nO x D.who) (vE x D.who) D.ob}
def uH(D:Dk)(L:List Ob):Dk:=L.foldl yH D
def qQ(D:Dk):Dk:=uH (ve D) D.ob
theorem aDf {D:Dk} {L:List Ob} {k:Nat}(h:k<aA L):uH D (L.take (k+1))=yH (uH D (L.take k)) L[k]:=by rw [fF h];unfold uH;rw [List.foldl_append];rfl
theorem bT.aL9 {w w1:aJ} {db:Nat} {p:Dp} {D:Dk} {v:aN} {L:List Int}(H:bT w db p D)(hb:aa w.heap.size w w1)(ho:w1.ownsRow w.heap.size 3 1 v (aA L) (L.map (aG aF))):cZ db p {p with wv:=v} {D with who:=L} w (w1.setCell ⟨db,11,aB⟩ v):=by
 have H1:=H.below hb;refine⟨H1.PJ 11 v rfl rfl rfl rfl rfl rfl ⟨rfl,rfl,rfl,rfl,rfl,rfl,rfl⟩ (jT ho (bL _)) H1.log,rfl,rfl,rfl,rfl,(bC.bV _ hb).setCell (p:=⟨db,11,aB⟩) (.inl (.inl rfl)) _, ?_⟩;rintro k (e|e|e|e|e|e)
 ·exact .inl (.inl e)
 ·exact .inl (.inr (.inl e))
 ·exact .inl (.inr (.inr (.inl e)))
 ·exact .inl (.inr (.inr (.inr (.inl e))))
 ·exact .inr (ho.lt k e).1
 exact .inl (.inr (.inr (.inr (.inr (.inr e)))))
structure SH(D:Dk):Prop where
 ok:fZ D
 fl:aA (su D)<=2000
 all:∀k,k<=aA D.ob->fZ (uH (ve D) (D.ob.take k))
theorem aEM(db:Nat)(p:Dp)(D:Dk)(w:aJ)(H:bT w db p D)(P:SH D):
 aQ aM 62 #[π db] w λe w'=>e=aU (bB #[])/\aq db p (qQ D) w w':=by
 have HF:=η H;have HP:=η P;have mH:aA D.ob<=1024:=P.ok.ob.len;have c9:=H.cells.c9;have AV:=η (λW p' D' (h:bT W db p' D') (he:D'.ob=D.ob)=>(he▸N8 D'.ob p'.sv p'.sb 0 W h.sh (by rw [he];omega):aQ aM 43 #[π p'.sb] W (CC W D.ob)));have Yo:=η (λW A c (hs:aW W W.heap.size A (fJ D.ob))=>aEv D.ob A c W hs (by omega));have hfe:qc ((D.ob.filter λx=>x.st==1&&BK x).map (·.m))=su D:=rfl;rw [hfe] at Yo;have lx:=η P.fl;have LI:Hid (aA D.who<=100):=η P.ok.wl;have Ae:Hid (aA D.log<=90000):=η P.ok.gl;have T8:=η mH;have hCE:qQ D=uH (ve D) D.ob:=rfl;have hWE:ve D= {D with log:=D.log++ru D (su D),who:=qc (D.who++su D)}:=rfl;have FR:=η hCE;have ZZ:=η hWE;generalize qQ D=R at*;go_enter func62,ntmps62
 go_upto_region 1 with (first|(go_at_call 43;refine(AV.o _ p D HF.o rfl).mono ?_;rintro e w1 ⟨v1,rfl,eR,hb1⟩;obtain⟨A1,k1,zv⟩:=bJ eR;subst zv;have cW:=η (aW.cA eR);have aR:=η hb1)|(go_at_call 121;refine(Yo.o _ A1 k1 cW.o).mono ?_;rintro e w2 ⟨A2,k2,rfl,fN,hb2⟩;have aV:=τ aR hb2;have dB:=η (iE.cA HF.o (jT fN aR.o.size));have qF:=η (I7 fN)))
 generalize su D=F at*;have iP:Hid (cZ db p p (uV D (F.take 0)) w w2):=η (by
  have e:uV D (F.take 0)=D:=by unfold uV ru;simp
  rw [e];exact cZ.bV HF.o aV.o)
 have TE:=η dB.o;have gV:aA F<=2000:=lx.o;go_upto_region 2 with (fail)
 go_loopw [4,17] (λ_ i wr=>∃(k:Nat) (pk:Dp),k<=aA F/\i=ν (k:Int)/\Hid (cZ db p pk (uV D (F.take k)) w wr)/\Hid (iE db pk wr A2 (F.map (aG aF)))) (λ_ i _=>aA F-(ag i).toNat)
 case atStart=>exact⟨0,p,bL _,rfl,iP,TE⟩
 case round=>
  obtain⟨k,pk,hk,rfl,HQ,HO⟩:=hrel;by_cases hlt:k<aA F
  ·obtain⟨bl,ol,kN,hbl,hF⟩:=HO.o.dh.at (k:=k) (by simpa using hlt);rw [wQ] at hF;have eV:(0:Int)<=(k:Int):=by omega
   have hkb:(k:Int)<(aA F:Int):=by omega
   have cG:=η (aIV (D:=D) hlt);have mi:aA (D.log++ru D (F.take k))<=100000:=by have h1:=aIU D (F.take k);have h3:=Ae.o;rw [cL];have h4:aA (F.take k)<=aA F:=List.length_take_le' _ _;omega
   have a8k:=η mi;have HE:Hid (uV D (F.take k)= {D with log:=D.log++ru D (F.take k)}):=η rfl;have mV:Hid (uV D (F.take (k+1))= {D with log:=D.log++ru D (F.take (k+1))}):=η rfl;obtain⟨Aw,cw,hv⟩:=bJ HQ.o.at.who;have c11:=HQ.o.at.cells.c11;rw [hv] at c11;have sL:Hid (aW wr wr.heap.size Aw (D.who.map (aG aF))):=η (by have h1:=HQ.o.at.who;rw [hv] at h1;exact aW.cA h1);have xj:=η (MM D.who Aw cw F[k] wr sL.o (by have:=LI.o;omega));have Qc:(uV D (F.take k)).who=D.who:=rfl;rw [Qc] at c11;subst kN;generalize F[k]=m at*;cases hh:hasB D.who m with
   |true=>
    rw [hh] at xj;have SZ:Hid (uV D (F.take (k+1))=uV D (F.take k)):=η (by rw [mV.o,HE.o,cG.o,hh];simp);go_wp2_with (go_at_call 89;refine xj.o.mono ?_;rintro e w4 ⟨rfl,rfl⟩)
    go_roundw
    case rel=>exact⟨k+1,pk,by omega,by go_num,η (by rw [SZ.o];exact HQ.o),HO⟩
    case measure=>simp [ag];omega
   |false=>
    rw [hh] at xj;have SZ:Hid (uV D (F.take (k+1))= {uV D (F.take k) with log:=(uV D (F.take k)).log++ [⟨8,m,0,0,0⟩]}):=η (by rw [mV.o,HE.o,cG.o,hh];simp);have jQ:(uV D (F.take k)).log.length<=100000:=a8k.o;have a8e:=η jQ;have kU:=η (HQ.o.at.below ((aX wr.heap.size wr).alloc (aZ _) (aK #[ν 8,ν m,ν 0,ν 0,ν 0] 45)));have kW:=η (wx db pk (uV D (F.take k)) [⟨8,m,0,0,0⟩] wr.heap.size 1 _ kU.o (dM wr 45 #[ν 8,ν m,ν 0,ν 0,ν 0] rfl) (by simp) (by simp) (by have:=a8e.o;omega));have qI:=η (HQ.o.below ((aX wr.heap.size wr).alloc (aZ _) (aK #[ν 8,ν m,ν 0,ν 0,ν 0] 45)));have pQ:=η (HO.o.below ((aX wr.heap.size wr).alloc (aZ _) (aK #[ν 8,ν m,ν 0,ν 0,ν 0] 45)));go_wp2_with (first|(go_at_call 89;refine xj.o.mono ?_;rintro e w4 ⟨rfl,rfl⟩)|(go_at_call 55;refine kW.o.mono ?_;rintro e w8 ⟨rfl,h8⟩;obtain⟨p8,QQ,QS⟩:=qI.o.then h8;have oW:=η QQ;have tj:=η (pQ.o.step QS)))
    go_roundw
    case rel=>exact⟨k+1,p8,by omega,by go_num,η (by rw [SZ.o];exact oW.o),tj⟩
    case measure=>simp [ag];omega
  obtain rfl:k=aA F:=by omega
  rw [cU] at HQ;obtain⟨Aw,cw,hv⟩:=bJ HQ.o.at.who;have Qc:(uV D F).who=D.who:=rfl;have c11:=HQ.o.at.cells.c11;rw [hv,Qc] at c11;have sL:Hid (wR wr Aw cw D.who):=η (by have h1:=HQ.o.at.who;rw [hv,Qc] at h1;exact⟨aW.cA h1,λh=>⟨nG (I7 h1 h).1,(I7 h1 h).2⟩⟩);have CI:Hid (wR wr A2 k2 F):=η ⟨HO.o.dh,λh=>⟨nG (qF.o h).1,(qF.o h).2⟩⟩;have Nz:=η (aGq D.who F Aw A2 cw k2 wr sL.o CI.o (by have:=LI.o;omega) (by have:=lx.o;omega));have DI:∀W,β wr W->W.frozen? ⟨db,11,aB⟩=aP:=λW hW=>by have hb:=(hW.block db HQ.o.at.lt).trans HQ.o.at.blk;simp [iU,hb]
  have jt:∀W,β wr W->W.cell? ⟨db,11,aB⟩=aC (aH Aw (aA D.who) cw):=λW hW=>(hW.cell (p:=⟨db,11,aB⟩) HQ.o.at.lt).trans c11
  have wE:=η DI;have np:=η jt;go_upto_region 8 with (go_at_call 122;refine Nz.o.mono ?_;rintro e w3 ⟨A3,k3,rfl,ik,hb3⟩;have Sr:=η ik;have af:=η hb3;have f11:=wE.o _ hb3;have d11:=np.o _ hb3)
  have J2:Hid (cZ db p _ (ve D) w (w3.setCell ⟨db,11,aB⟩ (aH A3 (aA (qc (D.who++F))) k3))):=η (by have h1:=HQ.o.trans (HQ.o.at.aL9 af.o Sr.o);rw [ZZ.o];exact h1);generalize (w3.setCell ⟨db,11,aB⟩ (aH A3 (aA (qc (D.who++F))) k3))=w4 at*;obtain⟨p3,pR⟩:∃p3,Hid (cZ db p p3 (ve D) w w4):=⟨_,J2⟩;have hoe:(ve D).ob=D.ob:=rfl;have ZI:=η hoe;clear hoe;have d9:=pR.o.at.cells.c9;have aMN:aA D.ob<=1024:=T8.o;have Dm:Hid (∀k,k<=aA D.ob->fZ (uH (ve D) (D.ob.take k))):=η HP.o.all;have OO:Hid (∀x∈D.ob,aL x.az/\fj<x.az):=η (λx hx=>by have h:=HP.o.ok.ob.each x hx;have h1:=h.lo;have h2:=h.hi;unfold fj at h1;unfold aL fj;omega);clear HP ZZ;go_upto_region 9 with (go_at_call 43;refine(AV.o _ p3 (ve D) pR.o.at ZI.o).mono ?_;rintro e w5 ⟨v5,rfl,jA,dG⟩;obtain⟨A5,k5,Mq⟩:=bJ jA;subst Mq;have fK:=η (iE.cA pR.o.at jA);have oU:=η (pR.o.below dG);clear jA dG)
  clear pR d9 AV ZI;generalize ve D=E0 at*;generalize D.ob=L at*;have nr:Hid (cZ db p p3 (uH E0 (L.take 0)) w w5):=η oU.o;clear oU;go_loopw [6,7,8,49] (λ_ _ _ i wr=>∃(k:Nat) (pk:Dp),k<=aA L/\i=ν (k:Int)/\Hid (cZ db p pk (uH E0 (L.take k)) w wr)/\Hid (iE db pk wr A5 (fJ L))) (λ_ _ _ i _=>aA L-(ag i).toNat)
  case atStart=>exact⟨0,p3,bL _,rfl,nr,fK⟩
  case round=>
   clear nr fK;obtain⟨k,pk,hk,rfl,HQ,HO⟩:=hrel;by_cases hlt:k<aA L
   ·obtain⟨bl,ol,kN,hbl,l0,l1,l2,l3,l4,l5⟩:=xO HO.o.dh hlt;have eV:(0:Int)<=(k:Int):=by omega
    have hkb:(k:Int)<(aA L:Int):=by omega
    have HL:=η (aDf (D:=E0) hlt);have dP:=η (Dm.o k hk);have HXN:Hid (aL (L[k].az)/\fj<L[k].az):=η (OO.o _ (cK hlt));have mW:Hid (∀j,eY db pk j->j<wr.heap.size):=η (λj hj=>HQ.o.at.uR hj);subst kN;generalize uH E0 (L.take k)=E at*;generalize L[k]=x at*;obtain⟨xc,xm,xa,xn,xd,xs⟩:=x;simp only at l0 l1 l2 l3 l4 l5;have gz:Hid (β wr (wr.alloc (aK #[ν xc,ν xm,ν xa,ν xn,ν xd,ν xs] 59))):=η σ;have uA:Hid ((wr.alloc (aK #[ν xc,ν xm,ν xa,ν xn,ν xd,ν xs] 59)).heap[wr.heap.size]? =aC (aK #[ν xc,ν xm,ν xa,ν xn,ν xd,ν xs] 59 (0,0))):=η (cT wr _);have vW:wr.heap.size<(wr.alloc (aK #[ν xc,ν xm,ν xa,ν xn,ν xd,ν xs] 59)).heap.size:=by simp
    go_upto_region 11 with (fail)
    generalize wr.alloc (aK #[ν xc,ν xm,ν xa,ν xn,ν xd,ν xs] 59)=w6 at*;obtain⟨bx,bQ⟩:∃bx,bx=wr.heap.size:=⟨_,rfl⟩;have dN:=η bQ;rw [<-bQ] at uA vW ⊢;clear bQ l0 l1 l2 l3 l4 l5;have Kj:=η (HQ.o.at.below gz.o);have bP:Hid (¬eY db pk bx):=η (λh=>by have:=mW.o bx h;rw [dN.o] at this;omega);obtain⟨KW,PR,hv⟩:=bJ Kj.o.who;have sL:Hid (∀W,β w6 W->aW W W.heap.size KW (E.who.map (aG aF))):=η (λW hW=>by have h1:=(Kj.o.below hW).who;rw [hv] at h1;exact aW.cA h1);have Yp:Hid (∀W,β w6 W->aQ aM 123 #[bO #[ν xc,ν xm,ν xa,ν xn,ν xd,ν xs],aH KW (aA E.who) PR] W λe w'=>e=aU (bB #[ν (nO ⟨xc,xm,xa,xn,xd,xs⟩ E.who),ν (vE ⟨xc,xm,xa,xn,xd,xs⟩ E.who)])/\β W w'):=η (λW hW=>aEw ⟨xc,xm,xa,xn,xd,xs⟩ E.who KW PR W (sL.o W hW) (by have:=dP.o.wl;omega));have zA:Hid (∀W,β w6 W->W.cell? ⟨db,11,aB⟩=aC (aH KW (aA E.who) PR)/\W.cell? ⟨bx,0,aB⟩=aC (ν xc)/\W.cell? ⟨bx,1,aB⟩=aC (ν xm)/\W.cell? ⟨bx,2,aB⟩=aC (ν xa)/\W.cell? ⟨bx,3,aB⟩=aC (ν xn)/\W.cell? ⟨bx,4,aB⟩=aC (ν xd)/\W.cell? ⟨bx,5,aB⟩=aC (ν xs)):=η (λW hW=>by have hd:=(hW.block bx vW).trans uA.o;exact⟨by rw [<-hv];exact(Kj.o.below hW).cells.c11,ρ hd,ρ hd,ρ hd,ρ hd,ρ hd,ρ hd⟩);have np:Hid (yH E ⟨xc,xm,xa,xn,xd,xs⟩=if xs≠1 then E else if nO ⟨xc,xm,xa,xn,xd,xs⟩ E.who=1 then E else if xn<0 then {E with ob:=lQ xm xa (nO ⟨xc,xm,xa,xn,xd,xs⟩ E.who) (vE ⟨xc,xm,xa,xn,xd,xs⟩ E.who) E.ob,log:=E.log++ [⟨9,xm,xa,-xn,0⟩]} else {E with ob:=lQ xm xa (nO ⟨xc,xm,xa,xn,xd,xs⟩ E.who) (vE ⟨xc,xm,xa,xn,xd,xs⟩ E.who) E.ob}):=η rfl;clear hv sL;generalize nO ⟨xc,xm,xa,xn,xd,xs⟩ E.who=fs at*;generalize vE ⟨xc,xm,xa,xn,xd,xs⟩ E.who=fn at*;have bU:β w6 w6.drew:=(aX _ _).drew;have hdd:=zA.o _ bU;go_region_held3 (λW=>W.cell? ⟨db,11,aB⟩=aC (aH KW (aA E.who) PR)/\W.cell? ⟨bx,0,aB⟩=aC (ν xc)/\W.cell? ⟨bx,1,aB⟩=aC (ν xm)/\W.cell? ⟨bx,2,aB⟩=aC (ν xa)/\W.cell? ⟨bx,3,aB⟩=aC (ν xn)/\W.cell? ⟨bx,4,aB⟩=aC (ν xd)/\W.cell? ⟨bx,5,aB⟩=aC (ν xs)) (first|(with_reducible assumption)) ((go_at_call 123;refine(Yp.o _ (by with_reducible assumption)).mono ?_;rintro e w7 ⟨rfl,gD⟩;have eH:β w6 w7:=jl (by with_reducible assumption) (gD.mono (gS (by with_reducible assumption)));have hcc:=zA.o _ eH))
    have ub:=η eH;obtain⟨_,_,e1,e2,e3,_,e5⟩:=hcc;have Hv:=cR vW eH.size;clear gD eH bU hdd Yp;have cE:Hid (β wr w7):=η (gz.o.trans (ub.o.mono gz.o.size));by_cases h1:xs=1
    case neg=>
     have hb:(xs==1)=aP:=by simpa using h1
     rw [ifP h1] at np;clear h1 zA;go_wp2_with fail
     go_roundw
     case rel=>exact⟨k+1,pk,by omega,by go_num,η (by rw [HL.o,np.o];exact HQ.o.below cE.o),η (HO.o.below cE.o)⟩
     case measure=>simp [ag];omega
    subst h1;rw [ifN (by simp)] at np;by_cases h2:fs=1
    ·subst h2;rw [ifP rfl] at np;clear zA;go_wp2_with fail
     go_roundw
     case rel=>exact⟨k+1,pk,by omega,by go_num,η (by rw [HL.o,np.o];exact HQ.o.below cE.o),η (HO.o.below cE.o)⟩
     case measure=>simp [ag];omega
    have hb2:(fs==1)=aP:=by simpa using h2
    rw [ifN h2] at np
    skip
    have Nr:=η (Kj.o.below ub.o);have TN:Hid (∀W,β w7 W->W.cell? ⟨db,9,aB⟩=aC (π pk.sb)/\W.cell? ⟨bx,1,aB⟩=aC (ν xm)/\W.cell? ⟨bx,2,aB⟩=aC (ν xa)/\W.cell? ⟨bx,3,aB⟩=aC (ν xn)):=η (λW hW=>by obtain⟨_,_,r1,r2,r3,_,_⟩:=zA.o W (ub.o.trans (hW.mono ub.o.size));exact⟨(Nr.o.below hW).cells.c9,r1,r2,r3⟩);have qy:Hid (∀W,β w7 W->aQ aM 124 #[π pk.sb,ν xm,ν xa,ν fs,ν fn] W λe W'=>e=aU (ν (vY xm xa fs fn E.ob))/\aq db pk {E with ob:=lQ xm xa fs fn E.ob} W W'/\W'.cell? ⟨db,9,aB⟩=aC (π pk.sb)/\W'.cell? ⟨bx,1,aB⟩=aC (ν xm)/\W'.cell? ⟨bx,2,aB⟩=aC (ν xa)/\W'.cell? ⟨bx,3,aB⟩=aC (ν xn)):=η (λW hW=>by refine(N9 E.ob xm xa fs fn pk.sv pk.sb 0 W (Nr.o.below hW).sh dP.o.ob).mono ?_;intro e W' h;obtain⟨q1,q2⟩:=(Nr.o.below hW).FH h;have hz:=cR Hv hW.size;obtain⟨_,r1,r2,r3⟩:=TN.o W hW;exact⟨q1,q2,q2.c9,(q2.cell 1 hz bP.o).trans r1,(q2.cell 2 hz bP.o).trans r2,(q2.cell 3 hz bP.o).trans r3⟩);have Km:Hid (aA E.log<=90000):=η dP.o.gl;clear zA Kj dP;generalize lQ xm xa fs fn E.ob=ob2 at*;generalize vY xm xa fs fn E.ob=me at*;go_upto_region 13 with (fail)
    have bU:β w7 w7.drew:=(aX _ _).drew;have hdd:=TN.o _ bU;clear e1 e2 e3 e5;go_region_held3 (λW=>W.cell? ⟨db,9,aB⟩=aC (π pk.sb)/\W.cell? ⟨bx,1,aB⟩=aC (ν xm)/\W.cell? ⟨bx,2,aB⟩=aC (ν xa)/\W.cell? ⟨bx,3,aB⟩=aC (ν xn)) (first|(with_reducible assumption)) ((go_at_call 124;refine(qy.o _ (by with_reducible assumption)).mono ?_;rintro e w8 ⟨rfl,dD,zn⟩))
    have dt:Hid (aq db pk {E with ob:=ob2} wr w8):=η (aq.trans (bC.bV _ (cE.o.trans (bU.mono cE.o.size))) (λ_ h=> .inl h) ⟨rfl,rfl,rfl,rfl⟩ dD);obtain⟨_,m1,m2,m3⟩:=zn;clear dD bU hdd qy TN Nr;obtain⟨p8,QQ,QS⟩:=HQ.o.then dt.o;have oW:=η QQ;have tj:=η (HO.o.step QS);clear QQ QS dt HQ HO;by_cases h3:xn<0
    ·have hn:decide (xn<0)=aO:=decide_eq_true h3;rw [ifP h3] at np;have hwn:aF.wrap (-xn)= -xn:=vq (by have h:=HXN.o;(try simp only at h);unfold fj aL at*;omega);have kU:=η (oW.o.at.below ((aX w8.heap.size w8).alloc (aZ _) (aK #[ν 9,ν xm,ν xa,ν (-xn),ν 0] 45)));have kW:=η (wx db p8 {E with ob:=ob2} [⟨9,xm,xa,-xn,0⟩] w8.heap.size 1 _ kU.o (dM w8 45 #[ν 9,ν xm,ν xa,ν (-xn),ν 0] rfl) (by simp) (by simp) (by have:=Km.o;simp only;omega));have sH:=η (oW.o.below ((aX w8.heap.size w8).alloc (aZ _) (aK #[ν 9,ν xm,ν xa,ν (-xn),ν 0] 45)));have wJ:=η (tj.o.below ((aX w8.heap.size w8).alloc (aZ _) (aK #[ν 9,ν xm,ν xa,ν (-xn),ν 0] 45)));clear oW tj kU;go_wp2_with (go_at_call 55;refine kW.o.mono ?_;rintro e w9 ⟨rfl,h9⟩;obtain⟨p9,zq,Ew⟩:=sH.o.then h9;have lK:=η zq;have HOA:=η (wJ.o.step Ew);clear h9 zq Ew)
     go_roundw
     case rel=>exact⟨k+1,p9,by omega,by go_num,η (by rw [HL.o,np.o];exact lK.o),HOA⟩
     case measure=>simp [ag];omega
    have hn:decide (xn<0)=aP:=decide_eq_false h3;rw [ifN h3] at np;go_wp2_with fail
    go_roundw
    case rel=>exact⟨k+1,p8,by omega,by go_num,η (by rw [HL.o,np.o];exact oW.o),tj⟩
    case measure=>simp [ag];omega
   obtain rfl:k=aA L:=by omega
   rw [cU] at HQ;go_wp2_with fail
   go_end0
   rw [FR.o];exact⟨rfl,HQ.o.p⟩
theorem bT.held {w w':aJ} {db:Nat} {p:Dp} {D:Dk} {h':List Hr} {e:di}(H:bT w db p D)(h:Ld p.vb p.vp (aA D.x.ms) (aA D.x.ss+1) (aA D.x.ms) D.l h' w e w'):e=aU (aG aF 0)/\aq db p {D with h:=h'} w w':=by
 obtain⟨tv,rfl,hv,hu,hs⟩:=h;refine⟨rfl, {p with vp:= {p.vp with tv:=tv}},H.a7k hu hv,rfl,rfl,rfl,rfl,hu.mono (λk hk=> .inl (.inr (.inl hk))), ?_⟩;rintro k (e|(e|e|e|e|e)|e|e|e|e)
 ·exact .inl (.inl e)
 ·exact .inl (.inr (.inl (.inl e)))
 ·exact .inl (.inr (.inl (.inr (.inl e))))
 ·exact .inl (.inr (.inl (.inr (.inr (.inl e)))))
 ·exact .inl (.inr (.inl (.inr (.inr (.inr (.inl e))))))
 ·exact(hs k e).imp (λh=> .inr (.inl (.inr (.inr (.inr (.inr h)))))) id
 ·exact .inl (.inr (.inr (.inl e)))
 ·exact .inl (.inr (.inr (.inr (.inl e))))
 ·exact .inl (.inr (.inr (.inr (.inr (.inl e)))))
 exact .inl (.inr (.inr (.inr (.inr (.inr e)))))
theorem bT.Rf {w:aJ} {db:Nat} {p:Dp} {D:Dk}(H:bT w db p D)(s:Int):cZ db p p {D with st:=s} w (w.setCell ⟨db,13,aB⟩ (aG aF s)):=
 ⟨H.PJ 13 (ν s) rfl rfl rfl rfl rfl rfl ⟨rfl,rfl,rfl,rfl,rfl,rfl,rfl⟩ H.who H.log,rfl,rfl,rfl,rfl,(bC.refl _ _).setCell (p:=⟨db,13,aB⟩) (.inl (.inl rfl)) _,λ_ h=> .inl h⟩
theorem aL3(vb:Nat)(p:Vp)(M A:Nat)(room:Int)(l:List Int)(h:List Hr)(k:Nat)(hk:k<aA h)(w:aJ)(H:iB w vb p M A room l (h.drop k))(hl:aA h<=99999)(hu:pU h):
 aQ aM 64 #[π vb,ν (h[k]).i] w (Ld vb p M A room l (h.drop (k+1)) w):=by
 rw [JF hk] at H;refine aL4 vb p M A room l h[k] (h.drop (k+1)) w H (by rw [List.length_drop];omega) ?_;rw [<-JF hk];exact aLq (List.drop_sublist k h) hu
def gQ(D:Dk):Dk:= {qQ D with h:= []}
def uJ(D:Dk):Int:=K6 (gQ D) (iO (dg (gQ D) 0))
def oA(D:Dk):Dk:= {lY (gQ D) (uJ D) with st:=2}
def PW(D:Dk):Bool:=(dQ (oA D).x.ss.length).any λ(s:Nat)=>decide (jE (oA D) ((s:Int)+1)>0)
def Gg(D:Dk):Bool:=if D.st=1 then PW D else aP
def Gf(D:Dk):Int:=if D.st=1 then 0 else 11
def D6(D:Dk):Dk:=if D.st=1 then oA D else D
structure SI(D:Dk):Prop where
 cl:SH D
 up:pU (qQ D).h
 KG:fZ (gQ D)
 b0:aL (balA (gQ D).x.ms.length ((gQ D).x.ss.length+1) (gQ D).l 1 0 0)
 ml:(gQ D).x.ms.length<=100000
 wI:∀x∈(gQ D).who,aL x
 nI:aL (uJ D)
 dO:∀k,k<=aA (iC (gQ D) (uJ D))->fZ (o8 (gQ D) ((iC (gQ D) (uJ D)).take k))
 dI:∀x∈iC (gQ D) (uJ D),aL x.k/\aL x.m/\aL x.n/\0<=x.n
 dl:aA (iC (gQ D) (uJ D))<=100000
 ok4:fZ (oA D)
 sl:(oA D).x.ss.length<=100000
 bS:∀s:Nat,s<(oA D).x.ss.length->aL (balA (oA D).x.ms.length ((oA D).x.ss.length+1) (oA D).l 1 0 ((s:Int)+1))
theorem a1J {f:Nat->Bool} {n k:Nat}(hk:k<n)(h:f k=aO):(dQ n).any f=aO:=kK.2 ⟨k,nH.2 hk,h⟩
theorem a1K {f:Nat->Bool} {n:Nat}(h:∀k,k<n->f k=aP):(dQ n).any f=aP:=by rw [zE];intro k hk;rw [h k (nH.1 hk)];decide
theorem a6L {b c:Bool} {a d:Int}(h:b=c)(h':a=d):aU (bB #[bM b,aG aF a])=aU (bB #[bM c,aG aF d]):=by rw [h,h']
theorem a1x(db:Nat)(p:Dp)(D:Dk)(w:aJ)(H:bT w db p D)(hP:D.st=1->SI D):
 aQ aM 28 #[π db] w λe w'=>e=aU (bB #[bM (Gg D),ν (Gf D)])/\aq db p (D6 D) w w':=by
 have hb0:β w (w.alloc (aK #[ν 1] 3)):=(aX _ _).alloc (aZ _) _;have jI:=η (JY db p D 1 (aC ⟨w.heap.size,0,aB⟩) 1 _ (H.below hb0) (λj u hu=>⟨w.heap.size,0,rfl,by simp,by
  match j,hu with
  |0,hu=>exact(cM w #[ν 1] 3 0 rfl).trans (by simpa using hu)
  |j+1,hu=>simp at hu⟩))
 have HF:=η H;have aY:=η hb0;by_cases h1:D.st=1
 case neg=>
  have e1:Gg D=aP:=by unfold Gg;rw [ifN h1]
  have e2:Gf D=11:=by unfold Gf;rw [ifN h1]
  have e3:D6 D=D:=by unfold D6;rw [ifN h1]
  rw [ifN h1] at jI;rw [e1,e2,e3];go_enter aAS,aBE
  go_wp2_with (go_at_call 51;refine κ jI.o aY λw1 aR=> ?_)
  go_ret2;exact⟨rfl,aq.bV HF.o aR.o⟩
 have HP:=η (hP h1);have e1:Gg D=PW D:=by unfold Gg;rw [ifP h1]
 have e2:Gf D=0:=by unfold Gf;rw [ifP h1]
 have e3:D6 D=oA D:=by unfold D6;rw [ifP h1]
 rw [ifP h1] at jI;rw [e1,e2,e3];have np:=η (λW (hW:β w W)=>aEM db p D W (HF.o.below hW) HP.o.cl);have qH:Hid (fZ (qQ D)):=η (by have h:=HP.o.cl.all (aA D.ob) (aZ _);rw [cU] at h;exact h);have ud:Hid (gQ D= {qQ D with h:= []}):=η rfl;have Kh:Hid (uJ D=K6 (gQ D) (iO (dg (gQ D) 0))):=η rfl;have HD4:Hid (oA D= {lY (gQ D) (uJ D) with st:=2}):=η rfl;have yl:Hid (PW D=(dQ (oA D).x.ss.length).any λ(s:Nat)=>decide (jE (oA D) ((s:Int)+1)>0)):=η rfl;have HUP:=η HP.o.up;have xe:=η (λW p' (h:bT W db p' (gQ D))=>Lt db p' (gQ D) 0 W h HP.o.KG);have CL:=η (M9 HP.o.KG.ob 0);have jQ:aA (dg (gQ D) 0)<=100000:=by have h1:=Pn (gQ D) 0;have h2:=HP.o.KG.ob.len;omega
 have LB:=η (λW A c (hs:aW W W.heap.size A (bA (dg (gQ D) 0)))=>Um (dg (gQ D) 0) A c W hs CL.o jQ);have kF:=η (λW p' (h:bT W db p' (gQ D))=>a2K db p' (gQ D) (iO (dg (gQ D) 0)) W h (Ro _) HP.o.b0);rw [<-Kh.o] at kF;have Ik:=η (λW p' (h:bT W db p' (gQ D))=>Un db p' (gQ D) (uJ D) W h HP.o.nI HP.o.ml HP.o.wI (by have:=HP.o.KG.wl;omega) HP.o.dO HP.o.dI HP.o.dl);have uj:=η (λW p' (h:bT W db p' (oA D)) (s:Nat) (hs:s<(oA D).x.ss.length)=>Uq db p' (oA D) ((s:Int)+1) W h HP.o.ok4 (HP.o.bS s hs));have jf:(oA D).x.ss.length<=100000:=HP.o.sl;have CV:=η jf;generalize qQ D=C at*;generalize gQ D=D2 at*;generalize uJ D=dn at*;generalize oA D=D4 at*;generalize PW D=bv at*;generalize dg D2 0=G at*;generalize iO G=sv at*;go_enter aAS,aBE
 go_upto_region 5 with (first|(go_at_call 51;refine κ jI.o aY λw1 aR=> ?_)|(go_at_call 62;refine(np.o _ aR.o).mono ?_;rintro e w2 ⟨rfl,h2⟩;obtain⟨p2,vR,_⟩:=(cZ.bV HF.o aR.o).then h2;have kG:=η vR))
 have c8:=kG.o.at.cells.c8;have nD:=η (aKy p2.vb p2.vp (aA C.x.ms) (aA C.x.ss+1) (aA C.x.ms) C.l C.h w2 kG.o.at.vt (by have:=qH.o.hl;omega));have Vh:aA C.h<=100:=qH.o.hl;go_upto_region 6 with (go_at_call 63;refine nD.o.mono ?_;rintro e w3 ⟨v3,rfl,ik,hb3⟩;obtain⟨A3,k3,hv3⟩:=bJ ik;subst hv3;have cB:=η (iE.cA kG.o.at ik);have J2:=η (kG.o.below hb3))
 have iP:Hid (cZ db p p2 {C with h:=C.h.drop 0} w w3):=η J2.o;go_loopw [6,22] (λ_ i wr=>∃(k:Nat) (pk:Dp),k<=aA C.h/\i=ν (k:Int)/\Hid (cZ db p pk {C with h:=C.h.drop k} w wr)/\Hid (iE db pk wr A3 ((C.h.map (·.i)).map (aG aF)))) (λ_ i _=>aA C.h-(ag i).toNat)
 case atStart=>exact⟨0,p2,bL _,rfl,iP,cB⟩
 case round=>
  obtain⟨k,pk,hk,rfl,HQ,HO⟩:=hrel;by_cases hlt:k<aA C.h
  ·obtain⟨bl,ol,kN,hbl,hF⟩:=HO.o.dh.at (k:=k) (by simpa using hlt);rw [wQ,wQ] at hF;have eV:(0:Int)<=(k:Int):=by omega
   have hkb:(k:Int)<(aA C.h:Int):=by omega
   have c8:=HQ.o.at.cells.c8;have HVR:=η (aL3 pk.vb pk.vp (aA C.x.ms) (aA C.x.ss+1) (aA C.x.ms) C.l C.h k hlt wr HQ.o.at.vt (by omega) HUP.o);have Nw:Hid (∀e W',Ld pk.vb pk.vp (aA C.x.ms) (aA C.x.ss+1) (aA C.x.ms) C.l (C.h.drop (k+1)) wr e W'->e=aU (ν 0)/\aq db pk {C with h:=C.h.drop (k+1)} wr W'):=η (λe W' h=>HQ.o.at.held h);subst kN;generalize (C.h[k]).i=id at*;go_wp2_with (go_at_call 64;refine HVR.o.mono ?_;intro e w4 h4;obtain⟨rfl,h5⟩:=Nw.o e w4 h4;obtain⟨p5,BX,uP⟩:=HQ.o.then h5;have oU:=η BX;have fK:=η (HO.o.step uP))
   go_roundw
   case rel=>exact⟨k+1,p5,by omega,by go_num,oU,fK⟩
   case measure=>simp [ag];omega
  obtain rfl:k=aA C.h:=by omega
  have oV:Hid (cZ db p pk D2 w wr):=η (by rw [ud.o];have h:=HQ.o;rw [List.drop_length] at h;exact h);go_upto_region 11 with (first|(go_at_call 68;refine(xe.o _ pk oV.o.at).mono ?_;rintro e w4 ⟨v4,rfl,gL,hb4⟩;obtain⟨A4,k4,hv4⟩:=bJ gL;subst hv4;have kH:=η (aW.cA gL);have qI:=η (oV.o.below hb4))|(go_at_call 67;refine(LB.o _ A4 k4 kH.o).mono ?_;rintro e w5 ⟨rfl,dG⟩;have oW:=η (qI.o.below dG))|(go_at_call 66;refine(kF.o _ pk oW.o.at).mono ?_;rintro e w6 ⟨rfl,iL⟩;have sH:=η (oW.o.below iL))|(go_at_call 65;refine(Ik.o _ pk sH.o.at).mono ?_;rintro e w7 ⟨rfl,h7⟩;obtain⟨p7,QP,_⟩:=sH.o.then h7;have lK:=η QP))
  have f13:w7.frozen? ⟨db,13,aB⟩=aP:=by have hb:=lK.o.at.blk;simp [iU,hb]
  have c13:=lK.o.at.cells.c13;go_upto_region 12 with (fail)
  have CT:Hid (cZ db p p7 D4 w (w7.setCell ⟨db,13,aB⟩ (ν 2))):=η (by rw [HD4.o];exact lK.o.trans (lK.o.at.Rf 2));generalize (w7.setCell ⟨db,13,aB⟩ (ν 2))=w8 at*;have c1:=CT.o.at.cells.c1;have jf:aA D4.x.ss<=100000:=CV.o;have oP:Hid (∀j,j<0->(λ(s:Nat)=>decide (jE D4 ((s:Int)+1)>0)) j=aP):=η (λj hj=>absurd hj (Nat.not_lt_zero _));go_upto_region 13 with (fail)
  go_loopw [7,49] (λ_ i wq=>∃k:Nat,k<=aA D4.x.ss/\i=ν (k:Int)/\Hid (∀j,j<k->(λ(s:Nat)=>decide (jE D4 ((s:Int)+1)>0)) j=aP)/\Hid (cZ db p p7 D4 w wq)) (λ_ i _=>aA D4.x.ss-(ag i).toNat)
  case atStart=>exact⟨0,bL _,rfl,oP,CT⟩
  case round=>
   clear oP CT c1;obtain⟨j,hj,rfl,HN,HQ⟩:=hrel;by_cases rS:j<aA D4.x.ss
   ·have zk:(0:Int)<=(j:Int):=by omega
    have hjb:(j:Int)<(aA D4.x.ss:Int):=by omega
    have cW:=η (uj.o _ p7 HQ.o.at j rS);have Yk:Hid ((λ(s:Nat)=>decide (jE D4 ((s:Int)+1)>0)) j=decide (jE D4 ((j:Int)+1)>0)):=η rfl;generalize jE D4 ((j:Int)+1)=sh at*;by_cases h2:0<sh
    ·have hd:decide (sh>0)=aO:=decide_eq_true h2;have SS:Hid (aO=bv):=η (by rw [yl.o];exact(a1J rS (Yk.o.trans hd)).symm);go_wp2_with (go_at_call 69;refine cW.o.mono ?_;rintro e wz ⟨rfl,hz⟩;have TG:=η (HQ.o.below hz))
     go_ret2;exact⟨a6L SS.o rfl,TG.o.p⟩
    have hd:decide (sh>0)=aP:=decide_eq_false h2;have ui:Hid (∀i,i<j+1->(λ(s:Nat)=>decide (jE D4 ((s:Int)+1)>0)) i=aP):=η (λi hi=>by
     rcases Nat.lt_succ_iff_lt_or_eq.1 hi with h|rfl
     ·exact HN.o i h
     exact Yk.o.trans hd)
    go_wp2_with (go_at_call 69;refine cW.o.mono ?_;rintro e wz ⟨rfl,hz⟩;have TG:=η (HQ.o.below hz))
    go_roundw
    case rel=>exact⟨j+1,by omega,by go_num,ui,TG⟩
    case measure=>simp [ag];omega
   obtain rfl:j=aA D4.x.ss:=by omega
   have SS:Hid (aP=bv):=η (by rw [yl.o];exact(a1K (λi hi=>HN.o i hi)).symm);go_wp2
   go_ret2;exact⟨a6L SS.o rfl,HQ.o.p⟩
end Go.Proofs.YtdokipdchlcmeaaGreat
