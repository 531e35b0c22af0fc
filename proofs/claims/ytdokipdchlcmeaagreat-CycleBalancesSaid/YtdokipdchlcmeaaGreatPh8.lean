/-
  Several texts in one, for one claim (printed by pack.py).
-/
import Derived.Test.YtdokipdchlcmeaaGreatPh7
import Derived.WalkMore
set_option linter.all false
set_option maxRecDepth 100000
set_option maxHeartbeats 12800000
open And renaming intro→kX
open Array renaming getElem?_eq_some_iff→fX
open Bool renaming true→aO,false→aP
open Go renaming World→aJ,Value→aN,Calls→aQ,Addr→aj,cell_of_row→bH,maxLen→bM,TypeId→bY,heap_alloc_new→cO,info_parts→dJ,Ending→dU,rounds_succ→eB,wpList_append_own→iZ,wpAnyH_take→jx,wpAnyH_ready→pW,wp_loop_rounds→um,step_append_lies→AY,wpAnyH_done→Nx
open Go.AllReadyH renaming cons→ma,nil→oW
open Go.Calls renaming mono→tz
open Go.Ending renaming returned→aT
open Go.Exit renaming noGoto_ret→a8i
open Go.IntKind renaming i64→aF,wrap_i64→fg
open Go.Lib renaming compact→su
open Go.Obj renaming cells→aK
open Go.Proofs renaming intOf→af
open Go.Proofs.Tryz renaming prog→aM,underlying53→mP,underlying39→tE,underlying46→yN,underlying272→Gi,func179→a0b,ntmps179→a0v,func137→aAe,func142→aAf,func28→aAy,func65→aB8,func70→aB9,ntmps137→aBR,ntmps142→aBS,ntmps28→aBk,ntmps65→aBu,ntmps70→aBv
open Go.RowKit renaming Below→aY,wrap64→fW
open Go.RowKit.Below renaming refl→aX,size→gV,trans→jy,heap_setCell→nK,alloc→rF
open Go.Value renaming int→aG,slice→aH,tuple→bB,pointer→bF,bool→bJ,agg→bQ,ownBlock→dy
open Go.World renaming ownsRow_nil→fh,cell?_of_block→gu,frozen?→iK,ownsRow→kB,grownBy_alloc→Gm
open Int renaming le_trans→jz,mul_le_mul_of_nonneg_right→Lb
open List renaming length→aA,getElem_mem→cH,length_append→cN,take_length→cT,range→dR,map_append→dZ,mem_map→df,mem_cons→fE,take_succ_eq_append_getElem→fF,mem_append→gL,length_map→iV,any_eq_true→kA,pairwise_cons→kf,eq_nil_of_length_eq_zero→nO,mem_range→nP,length_filter_le→qg,mem_iff_getElem→tB,length_cons→uL,length_singleton→uM,length_take→vD,getElem_map→wk,any_eq_false→zQ,drop_eq_getElem_cons→Jd,mergeSort_perm→a0H
open List.Pairwise renaming nil→U7,sublist→aMT
open Nat renaming le_refl→aa,zero_le→bK,le_trans→bz,lt_of_lt_of_le→cP
open Option renaming none→aB,some→aC
open Option.some renaming inj→pF
open Or renaming inl→aS
namespace Go.Proofs.YtdokipdchlcmeaaGreat
open Go.Proofs.Tryz Go.RowKit
def iA(D:Dk)(n:Nat):List Int:=(dR n).map λ(i:Nat)=>balA (aA D.x.ms) (aA D.x.ss+1) D.l 8 ((i:Int)+1) 0
def iG(D:Dk)(n:Nat):List Int:=(dR n).map λ(i:Nat)=>balA (aA D.x.ms) (aA D.x.ss+1) D.l 9 ((i:Int)+1) 0
theorem aEE(D:Dk)(n:Nat):iA D (n+1)=iA D n++ [balA (aA D.x.ms) (aA D.x.ss+1) D.l 8 ((n:Int)+1) 0]:=by unfold iA;rw [List.range_succ,dZ];rfl
theorem aFk(D:Dk)(n:Nat):iG D (n+1)=iG D n++ [balA (aA D.x.ms) (aA D.x.ss+1) D.l 9 ((n:Int)+1) 0]:=by unfold iG;rw [List.range_succ,dZ];rfl
theorem pJ(D:Dk)(n:Nat):aA (iA D n)=n:=by simp [iA]
theorem vR(D:Dk)(n:Nat):aA (iG D n)=n:=by simp [iG]
structure lq(w:aJ)(bR bp:Nat)(cv fv:aN)(co fu:List Int)(li ca:Int)(W:aJ):Prop where
 bl:β w W
 rb:W.heap[bR]? =aC (aK #[aH aB 0 0,aH aB 0 0,ν 0,ν 0] 193 (0,0))
 pb:W.heap[bp]? =aC (aK #[cv,fv,ν li,ν ca] 193 (0,0))
 co:W.ownsRow w.heap.size 2 1 cv (aA co) (co.map (aG aF))
 fo:W.ownsRow w.heap.size 2 1 fv (aA fu) (fu.map (aG aF))
 ap:∀k,cv.ownBlock=aC k->fv.ownBlock≠aC k
 ne:bR≠bp
 zr:w.heap.size<=bR
 zp:w.heap.size<=bp
theorem lq.below {w:aJ} {bR bp:Nat} {cv fv:aN} {co fu:List Int} {li ca:Int} {W W':aJ}(h:lq w bR bp cv fv co fu li ca W)(hb:aY W.heap.size W W'):lq w bR bp cv fv co fu li ca W':=
 ⟨h.bl.trans (hb.mono h.bl.size),(hb.block _ (fX.1 h.rb).1).trans h.rb,(hb.block _ (fX.1 h.pb).1).trans h.pb,gh h.co hb,gh h.fo hb,h.ap,h.ne,h.zr,h.zp⟩
theorem lq.lp {w:aJ} {bR bp:Nat} {cv fv:aN} {co fu:List Int} {li ca:Int} {W:aJ}(h:lq w bR bp cv fv co fu li ca W):bp<W.heap.size:=(fX.1 h.pb).1
theorem lq.lr {w:aJ} {bR bp:Nat} {cv fv:aN} {co fu:List Int} {li ca:Int} {W:aJ}(h:lq w bR bp cv fv co fu li ca W):bR<W.heap.size:=(fX.1 h.rb).1
theorem Ei {B:Nat} {w W W':aJ} {r:Option Nat}(h:aY B w W)(hg:W.grownBy W' r)(hr:∀k,r=aC k->B<=k)(hB:B<=W.heap.size):aY B w W':=
 ⟨hg.os.trans h.os,hg.tape.trans h.tape,hg.output.trans h.output,bz h.size hg.size,λk hk=>(hg.block k (cP hk hB) (λe=>by have:=hr k e.symm;omega)).trans (h.block k hk)⟩
theorem uQ {B:Nat} {w W:aJ} {b i:Nat}(u:aN)(h:aY B w W)(hb:B<=b):aY B w (W.setCell ⟨b,i,aB⟩ u):=
 ⟨h.os,h.tape,h.output,by simpa using h.size,λk hk=>(nK _ _ _ _ (λe=>by subst e;omega)).trans (h.block k hk)⟩
theorem lq.aJi {w:aJ} {bR bp:Nat} {cv fv:aN} {co fu:List Int} {li ca x:Int} {W W':aJ} {g cap n:Nat}(h:lq w bR bp cv fv co fu li ca W)(hg:W.grownBy W' cv.ownBlock)(ho:W'.ownsRow w.heap.size 2 1 (aH (aC ⟨g,0,aB⟩) n cap) n ((co++ [x]).map (aG aF)))(hn:n=aA (co++ [x]))(hat:cv.ownBlock=aC g\/W.heap.size<=g):lq w bR bp (aH (aC ⟨g,0,aB⟩) n cap) fv (co++ [x]) fu li ca (W'.setCell ⟨bp,0,aB⟩ (aH (aC ⟨g,0,aB⟩) n cap)):=by
 have hb1:=gP h.co h.pb (by decide);have hb2:=gP h.co h.rb (by decide);have IC:=(hg.block bp h.lp (λe=>hb1 e.symm)).trans h.pb;have KL:=(hg.block bR h.lr (λe=>hb2 e.symm)).trans h.rb;have hbl:=Ei h.bl hg (λk hk=>(h.co.lt k hk).1) h.bl.size;have hfo:=h.fo.kept hg (by
  cases hf:fv.ownBlock with
  |none=>exact .inl rfl
  |some k=>exact .inr (λe=>h.ap k e.symm hf))
 subst hn;refine⟨uQ _ hbl h.zp,(nK _ _ _ _ h.ne).trans KL,(lu IC 0 _).trans rfl,kK ho (gP ho IC (by decide)) _,kK hfo (gP hfo IC (by decide)) _, ?_,h.ne,h.zr,h.zp⟩;intro k hk hf;have e:g=k:=by simpa [dy] using hk
 subst e;rcases hat with hat|hat
 ·exact h.ap g hat hf
 have:=(h.fo.lt g hf).2;omega
theorem lq.aJj {w:aJ} {bR bp:Nat} {cv fv:aN} {co fu:List Int} {li ca x:Int} {W W':aJ} {g cap n:Nat}(h:lq w bR bp cv fv co fu li ca W)(hg:W.grownBy W' fv.ownBlock)(ho:W'.ownsRow w.heap.size 2 1 (aH (aC ⟨g,0,aB⟩) n cap) n ((fu++ [x]).map (aG aF)))(hn:n=aA (fu++ [x]))(hat:fv.ownBlock=aC g\/W.heap.size<=g):lq w bR bp cv (aH (aC ⟨g,0,aB⟩) n cap) co (fu++ [x]) li ca (W'.setCell ⟨bp,1,aB⟩ (aH (aC ⟨g,0,aB⟩) n cap)):=by
 have hb1:=gP h.fo h.pb (by decide);have hb2:=gP h.fo h.rb (by decide);have IC:=(hg.block bp h.lp (λe=>hb1 e.symm)).trans h.pb;have KL:=(hg.block bR h.lr (λe=>hb2 e.symm)).trans h.rb;have hbl:=Ei h.bl hg (λk hk=>(h.fo.lt k hk).1) h.bl.size;have qw:=h.co.kept hg (by
  cases hf:cv.ownBlock with
  |none=>exact .inl rfl
  |some k=>exact .inr (λe=>h.ap k hf e.symm))
 subst hn;refine⟨uQ _ hbl h.zp,(nK _ _ _ _ h.ne).trans KL,(lu IC 1 _).trans rfl,kK qw (gP qw IC (by decide)) _,kK ho (gP ho IC (by decide)) _, ?_,h.ne,h.zr,h.zp⟩;intro k hk hf;have e:g=k:=by simpa [dy] using hf
 subst e;rcases hat with hat|hat
 ·exact h.ap g hk hat
 have:=(h.co.lt g hk).2;omega
theorem Ic {w:aJ} {base:Nat} {A:Option aj} {n c m:Nat} {e:bY} {xs:List aN}(h:w.ownsRow base e m (aH A n c) n xs)(hA:A=aB):n=0/\c=0:=by
 rcases h.2 with⟨h1,h2⟩|⟨g,cap,cur,h1,_⟩
 ·injection h1 with h3 h4 h5;exact⟨h4,h5⟩
 rw [hA] at h1;injection h1 with h3;cases h3
structure PB(w:aJ)(bR:Nat)(cv fv:aN)(co fu:List Int)(W:aJ):Prop where
 bl:β w W
 co:W.ownsRow w.heap.size 2 1 cv (aA co) (co.map (aG aF))
 fo:W.ownsRow w.heap.size 2 1 fv (aA fu) (fu.map (aG aF))
 n1:cv.ownBlock≠aC bR
 n2:fv.ownBlock≠aC bR
 zr:w.heap.size<=bR
theorem lq.res {w:aJ} {bR bp:Nat} {cv fv:aN} {co fu:List Int} {li ca:Int} {W:aJ}(h:lq w bR bp cv fv co fu li ca W):PB w bR cv fv co fu W:=
 ⟨h.bl,h.co,h.fo,gP h.co h.rb (by decide),gP h.fo h.rb (by decide),h.zr⟩
theorem PB.set {w:aJ} {bR:Nat} {cv fv:aN} {co fu:List Int} {W:aJ}(h:PB w bR cv fv co fu W)(i:Nat)(u:aN):PB w bR cv fv co fu (W.setCell ⟨bR,i,aB⟩ u):=
 ⟨uQ _ h.bl h.zr,kK h.co h.n1 _,kK h.fo h.n2 _,h.n1,h.n2,h.zr⟩
def a8y(D:Dk)(w:aJ)(e:dU)(w':aJ):Prop:=∃P:cB,e=aT P.val/\P.co=iA D (aA D.x.ms)/\P.fu=iG D (aA D.x.ms)/\P.line=balA (aA D.x.ms) (aA D.x.ss+1) D.l 3 0 0/\P.cap=balA (aA D.x.ms) (aA D.x.ss+1) D.l 4 0 0/\Cu w' P/\aY w.heap.size w w'
theorem a2n(db:Nat)(p:Dp)(D:Dk)(w:aJ)(H:bW w db p D)(hm:aA D.x.ms<=100000):
 aQ aM 128 #[π db] w (a8y D w):=by
 have ew:=η (λW (hW:β w W) k m (hk:aL k) (hm:aL m)=>zm db p D k m 0 W (H.below hW) hk hm);have nz:=η (λW m=>zg m W);have HC:=η (λW (hW:β w W)=>(H.below hW).cells.c0);clear H;have mL:Hid (β w (w.alloc (aK #[aH aB 0 0,aH aB 0 0,ν 0,ν 0] 193))):=η σ;have sX:Hid ((w.alloc (aK #[aH aB 0 0,aH aB 0 0,ν 0,ν 0] 193)).heap[w.heap.size]? =aC (aK #[aH aB 0 0,aH aB 0 0,ν 0,ν 0] 193 (0,0))):=η (cO w _);have hz0:w.heap.size<(w.alloc (aK #[aH aB 0 0,aH aB 0 0,ν 0,ν 0] 193)).heap.size:=by simp
 obtain⟨i0,bu,sB,sD,sF⟩:=dJ Uk;go_enter func128,ntmps128
 go_upto_region 1 with (fail)
 generalize w.alloc (aK #[aH aB 0 0,aH aB 0 0,ν 0,ν 0] 193)=w0 at*;obtain⟨bR,Vl⟩:∃bR,bR=w.heap.size:=⟨_,rfl⟩;have Ks:=η Vl;rw [<-Vl] at sX hz0 ⊢;clear Vl;have uw:=η (ew.o w0 mL.o 3 0 (by decide) (by decide));obtain⟨li,WT⟩:∃li,li=balA (aA D.x.ms) (aA D.x.ss+1) D.l 3 0 0:=⟨_,rfl⟩;obtain⟨ca,qu⟩:∃ca,ca=balA (aA D.x.ms) (aA D.x.ss+1) D.l 4 0 0:=⟨_,rfl⟩;rw [<-WT] at uw;have Ca:=η (λW (hW:β w W)=>ew.o W hW 4 0 (by decide) (by decide));rw [<-qu] at Ca;have EJ:=η WT;have CP:=η qu;clear WT qu;go_upto_region 2 with (go_at_call 46;first|(with_reducible refine tz uw.o ?_;rintro e w1 ⟨rfl,hb1⟩;have yI:=τ mL hb1;have lT:=η ((hb1.block bR hz0).trans sX.o);have hz1:=cP hz0 hb1.size;clear hb1 uw)|(with_reducible refine tz (Ca.o _ yI.o) ?_;rintro e w2 ⟨rfl,hb2⟩;have gD:=τ yI hb2;have pn:=η ((hb2.block bR hz1).trans lT.o);have hz2:=cP hz1 hb2.size;clear hb2 Ca mL yI sX lT hz0 hz1))
 have ie:Hid (lq w bR w2.heap.size (aH aB 0 0) (aH aB 0 0) [] [] li ca (w2.alloc (aK #[aH aB 0 0,aH aB 0 0,ν li,ν ca] 193))):=η ⟨gD.o.trans ((aX _ _).alloc gD.o.size _),(fG w2 _ hz2).trans pn.o,cO w2 _,fh _ _ _ _,fh _ _ _ _,by intro k hk;simp [dy] at hk,by have:=Ks.o;omega,by have:=Ks.o;omega,gD.o.size⟩;clear gD pn;generalize w2.alloc (aK #[aH aB 0 0,aH aB 0 0,ν li,ν ca] 193)=w3 at*;obtain⟨bp,Vo⟩:∃bp,bp=w2.heap.size:=⟨_,rfl⟩;rw [<-Vo] at ie ⊢;clear Vo hz2;have c0:=HC.o _ ie.o.bl;generalize hM:aA D.x.ms=M at*;go_upto_region 3 with (fail)
 go_loopw [4,18] (λ_ i wr=>∃k:Nat,∃cv fv,k<=M/\i=ν (k:Int)/\Hid (lq w bR bp cv fv (iA D k) (iG D k) li ca wr)) (λ_ i _=>M-(af i).toNat)
 case atStart=>exact⟨0,_,_,bK _,rfl,ie⟩
 case round=>
  clear ie c0;obtain⟨k,cv,fv,hk,rfl,HP⟩:=hrel;by_cases hlt:k<M
  ·have eY:(0:Int)<=(k:Int):=by omega
   have hkb:(k:Int)<(M:Int):=by omega
   obtain⟨A1,c1,AJ⟩:=bL HP.o.co;obtain⟨A2,c2,hv2⟩:=bL HP.o.fo;subst AJ hv2;rw [pJ,vR] at HP;have FA:aL ((k:Int)+1):=by unfold aL;omega
   have OL:=η FA;have Bc:aF.wrap ((k:Int)+1)=(k:Int)+1:=by rw [fg];omega
   clear FA;go_upto_region 5 with (fail)
   have d0:wr.drew.cell? ⟨bp,0,aB⟩=aC (aH A1 k c1):=ρ HP.o.pb;have Cc:Hid (lq w bR bp (aH A1 k c1) (aH A2 k c2) (iA D k) (iG D k) li ca wr.drew):=η (HP.o.below (aX _ _).drew);clear HP;refine Iw (S:=λW=>W.cell? ⟨bp,0,aB⟩=aC (aH A1 k c1)) 10 (by kernel_rfl) d0 (λhHeld=> ?_);have bO:Hid (∀W,lq w bR bp (aH A1 k c1) (aH A2 k c2) (iA D k) (iG D k) li ca W->W.cell? ⟨bp,0,aB⟩=aC (aH A1 k c1)):=η (λW h=>ρ h.pb);clear d0;generalize wr.drew=w5 at*;refine eC (i:=0) (v:=π bp) rfl (by kernel_rfl) (by kernel_rfl) (by kernel_rfl) (by kernel_rfl) (by kernel_rfl) (λ_ _ _ h=>h) (aS ⟨by rfl,λw' hSw=>by have s0:=hSw;go_simp⟩) hHeld ?_;refine eC (i:=1) (v:=aH A1 k c1) rfl (by kernel_rfl) (by kernel_rfl) (by kernel_rfl) (by kernel_rfl) (by kernel_rfl) (λ_ _ _ h=>h) (aS ⟨by rfl,λw' hSw=>by have s0:=hSw;go_simp⟩) hHeld ?_;refine eC (i:=2) (v:=π db) rfl (by kernel_rfl) (by kernel_rfl) (by kernel_rfl) (by kernel_rfl) (by kernel_rfl) (λ_ _ _ h=>h) (aS ⟨by rfl,λw' hSw=>by have s0:=hSw;go_simp⟩) hHeld ?_;refine eC (i:=3) (v:=ν (k:Int)) rfl (by kernel_rfl) (by kernel_rfl) (by kernel_rfl) (by kernel_rfl) (by kernel_rfl) (λ_ _ _ h=>h) (aS ⟨by rfl,λw' hSw=>by have s0:=hSw;go_simp⟩) hHeld ?_;refine eC (i:=4) (v:=ν ((k:Int)+1)) rfl (by kernel_rfl) (by kernel_rfl) (by kernel_rfl) (by kernel_rfl) (by kernel_rfl) (λ_ _ _ h=>h) (aS ⟨by rfl,λw' hSw=>by have s0:=hSw;go_simp⟩) hHeld ?_;clear hHeld;refine nx (rs:= [5]) (by kernel_rfl) (by simp) ?_;refine ei.cons rfl (λK hK=> ?_) ei.nil;go_simp
   refine(nz.o _ _).mono ?_;rintro e w6 ⟨rfl,iM⟩;have Od:=η (Cc.o.below iM);clear iM Cc;refine hK.o _ _ (λ_=>bO.o _ Od.o) (λ_=> ?_);clear hK K;refine nx (rs:= [6]) (by kernel_rfl) (by simp) ?_;refine ei.cons rfl (λK hK=> ?_) ei.nil;go_simp
   refine(ew.o _ Od.o.bl 8 _ (by decide) OL.o).mono ?_;rintro e w7 ⟨rfl,fP⟩;have gC:=η (Od.o.below fP);clear fP Od;refine hK.o _ _ (λ_=>bO.o _ gC.o) (λ_=> ?_);clear hK K;have Fv:=η (aEE D k);rw [hM] at Fv;generalize balA M (aA D.x.ss+1) D.l 8 ((k:Int)+1) 0=bv at*;refine nx (rs:= [7]) (by kernel_rfl) (by simp) ?_;refine ei.cons rfl (λK hK=> ?_) ei.nil;go_simp
   have dw:Hid (lq w bR bp (aH A1 k c1) (aH A2 k c2) (iA D k) (iG D k) li ca (w7.alloc (aK #[ν bv] 2))):=η (gC.o.below σ);have LI:Hid (∀j u,([ν bv]:List aN)[j]? =aC u->(w7.alloc (aK #[ν bv] 2)).cell? ((⟨w7.heap.size,0,aB⟩:aj).add j)=aC u):=η (dK w7 2 #[ν bv] rfl);refine hK.o _ _ (λ_=>bO.o _ dw.o) (λ_=> ?_);clear hK K gC;generalize (w7.alloc (aK #[ν bv] 2))=w8 at*;refine nx (rs:= [8]) (by kernel_rfl) (by simp) ?_;refine ei.cons rfl (λK hK=> ?_) ei.nil;have qV:=dw.o.co;rw [pJ] at qV;refine AY _ rfl (.tmp 22) (.tmp 28) 53 rfl w.heap.size 2 i0 _ 1 8 mP bu sB sD sF rfl (by decide) _ k ((iA D k).map (aG aF)) rfl qV ⟨w7.heap.size,0,aB⟩ 1 1 [ν bv] rfl rfl LI.o xh (by decide) (by simp only [bM];omega) (by omega) dw.o.bl.size w8.heap.size rfl ?_;clear qV;intro g cap w9 hown hgr hat _;have rO:Hid (∀v,v=aH (aC ⟨g,0,aB⟩) (k+1) cap->lq w bR bp v (aH A2 k c2) (iA D (k+1)) (iG D k) li ca (w9.setCell ⟨bp,0,aB⟩ v)):=η (by rintro v rfl;rw [Fv.o];exact dw.o.aJi hgr (by rw [dZ];exact hown) (by simp [pJ]) (hat.imp id (λe=>by omega)));have xO:w9.cell? ⟨bp,0,aB⟩=aC (aH A1 k c1):=by have hn:(aH A1 k c1).ownBlock≠aC bp:=gP dw.o.co dw.o.pb (by decide);exact bH _ _ _ _ _ (0,0) ((hgr.block bp dw.o.lp (λe=>hn e.symm)).trans dw.o.pb)
   have KB:w9.frozen? ⟨bp,0,aB⟩=aP:=by have hn:(aH A1 k c1).ownBlock≠aC bp:=gP dw.o.co dw.o.pb (by decide);have hb:=(hgr.block bp dw.o.lp (λe=>hn e.symm)).trans dw.o.pb;simp [iK,hb]
   refine hK.o _ _ (λ_=>xO) (λ_=> ?_);clear hK K hown hgr hat dw LI Fv;refine eC (i:=9) (v:=π bp) rfl (by kernel_rfl) (by kernel_rfl) (by kernel_rfl) (by kernel_rfl) (by kernel_rfl) (λ_ _ _ h=>h) (aS ⟨by rfl,λw' hSw=>by have s0:=hSw;go_simp⟩) xO ?_;refine nx (rs:= [10]) (by kernel_rfl) (by simp) ?_;refine ei.cons rfl (λK hK=> ?_) ei.nil;go_simp
   refine hK.o _ _ (λh=>absurd rfl h) (λ_=> ?_);clear hK K bO xO KB;refine Iu (by kernel_rfl) ?_ _;have zJ:=η (rO.o _ rfl);clear rO;generalize aH (aC ⟨g,0,aB⟩) (k+1) cap=Gy at*;generalize w9.setCell ⟨bp,0,aB⟩ Gy=wa at*;go_upto_region 6 with (fail)
   have d0:wa.drew.cell? ⟨bp,1,aB⟩=aC (aH A2 k c2):=ρ zJ.o.pb;have Cc:Hid (lq w bR bp Gy (aH A2 k c2) (iA D (k+1)) (iG D k) li ca wa.drew):=η (zJ.o.below (aX _ _).drew);clear zJ;refine Iw (S:=λW=>W.cell? ⟨bp,1,aB⟩=aC (aH A2 k c2)) 10 (by kernel_rfl) d0 (λhHeld=> ?_);have bO:Hid (∀W,lq w bR bp Gy (aH A2 k c2) (iA D (k+1)) (iG D k) li ca W->W.cell? ⟨bp,1,aB⟩=aC (aH A2 k c2)):=η (λW h=>ρ h.pb);clear d0;generalize wa.drew=wb at*;refine eC (i:=0) (v:=bF (aC ⟨bp,1,aB⟩)) rfl (by kernel_rfl) (by kernel_rfl) (by kernel_rfl) (by kernel_rfl) (by kernel_rfl) (λ_ _ _ h=>h) (aS ⟨by rfl,λw' hSw=>by have s0:=hSw;go_simp⟩) hHeld ?_;refine eC (i:=1) (v:=aH A2 k c2) rfl (by kernel_rfl) (by kernel_rfl) (by kernel_rfl) (by kernel_rfl) (by kernel_rfl) (λ_ _ _ h=>h) (aS ⟨by rfl,λw' hSw=>by have s0:=hSw;go_simp⟩) hHeld ?_;refine eC (i:=2) (v:=π db) rfl (by kernel_rfl) (by kernel_rfl) (by kernel_rfl) (by kernel_rfl) (by kernel_rfl) (λ_ _ _ h=>h) (aS ⟨by rfl,λw' hSw=>by have s0:=hSw;go_simp⟩) hHeld ?_;refine eC (i:=3) (v:=ν (k:Int)) rfl (by kernel_rfl) (by kernel_rfl) (by kernel_rfl) (by kernel_rfl) (by kernel_rfl) (λ_ _ _ h=>h) (aS ⟨by rfl,λw' hSw=>by have s0:=hSw;go_simp⟩) hHeld ?_;refine eC (i:=4) (v:=ν ((k:Int)+1)) rfl (by kernel_rfl) (by kernel_rfl) (by kernel_rfl) (by kernel_rfl) (by kernel_rfl) (λ_ _ _ h=>h) (aS ⟨by rfl,λw' hSw=>by have s0:=hSw;go_simp⟩) hHeld ?_;refine eC (i:=5) (v:=bQ #[ν 9,ν ((k:Int)+1)]) rfl (by kernel_rfl) (by kernel_rfl) (by kernel_rfl) (by kernel_rfl) (by kernel_rfl) (λ_ _ _ h=>h) (aS ⟨by rfl,λw' hSw=>by have s0:=hSw;go_simp⟩) hHeld ?_;clear hHeld;refine nx (rs:= [6]) (by kernel_rfl) (by simp) ?_;refine ei.cons rfl (λK hK=> ?_) ei.nil;go_simp
   refine(ew.o _ Cc.o.bl 9 _ (by decide) OL.o).mono ?_;rintro e wc ⟨rfl,fP⟩;have gC:=η (Cc.o.below fP);clear fP Cc;refine hK.o _ _ (λ_=>bO.o _ gC.o) (λ_=> ?_);clear hK K;have Fv:=η (aFk D k);rw [hM] at Fv;generalize balA M (aA D.x.ss+1) D.l 9 ((k:Int)+1) 0=Jp at*;refine nx (rs:= [7]) (by kernel_rfl) (by simp) ?_;refine ei.cons rfl (λK hK=> ?_) ei.nil;go_simp
   have dw:Hid (lq w bR bp Gy (aH A2 k c2) (iA D (k+1)) (iG D k) li ca (wc.alloc (aK #[ν Jp] 2))):=η (gC.o.below σ);have LI:Hid (∀j u,([ν Jp]:List aN)[j]? =aC u->(wc.alloc (aK #[ν Jp] 2)).cell? ((⟨wc.heap.size,0,aB⟩:aj).add j)=aC u):=η (dK wc 2 #[ν Jp] rfl);refine hK.o _ _ (λ_=>bO.o _ dw.o) (λ_=> ?_);clear hK K gC;generalize (wc.alloc (aK #[ν Jp] 2))=wd at*;refine nx (rs:= [8]) (by kernel_rfl) (by simp) ?_;refine ei.cons rfl (λK hK=> ?_) ei.nil;have qV:=dw.o.fo;rw [vR] at qV;refine AY _ rfl (.tmp 32) (.tmp 38) 53 rfl w.heap.size 2 i0 _ 1 8 mP bu sB sD sF rfl (by decide) _ k ((iG D k).map (aG aF)) rfl qV ⟨wc.heap.size,0,aB⟩ 1 1 [ν Jp] rfl rfl LI.o xh (by decide) (by simp only [bM];omega) (by omega) dw.o.bl.size wd.heap.size rfl ?_;clear qV;intro g2 a2A we hown hgr hat _;have rO:Hid (∀v,v=aH (aC ⟨g2,0,aB⟩) (k+1) a2A->lq w bR bp Gy v (iA D (k+1)) (iG D (k+1)) li ca (we.setCell ⟨bp,1,aB⟩ v)):=η (by rintro v rfl;rw [Fv.o];exact dw.o.aJj hgr (by rw [dZ];exact hown) (by simp [vR]) (hat.imp id (λe=>by omega)));have xO:we.cell? ⟨bp,1,aB⟩=aC (aH A2 k c2):=by have hn:(aH A2 k c2).ownBlock≠aC bp:=gP dw.o.fo dw.o.pb (by decide);exact bH _ _ _ _ _ (0,0) ((hgr.block bp dw.o.lp (λe=>hn e.symm)).trans dw.o.pb)
   have KB:we.frozen? ⟨bp,1,aB⟩=aP:=by have hn:(aH A2 k c2).ownBlock≠aC bp:=gP dw.o.fo dw.o.pb (by decide);have hb:=(hgr.block bp dw.o.lp (λe=>hn e.symm)).trans dw.o.pb;simp [iK,hb]
   refine hK.o _ _ (λ_=>xO) (λ_=> ?_);clear hK K hown hgr hat dw LI Fv;refine eC (i:=9) (v:=bF (aC ⟨bp,1,aB⟩)) rfl (by kernel_rfl) (by kernel_rfl) (by kernel_rfl) (by kernel_rfl) (by kernel_rfl) (λ_ _ _ h=>h) (aS ⟨by rfl,λw' hSw=>by have s0:=hSw;go_simp⟩) xO ?_;refine nx (rs:= [10]) (by kernel_rfl) (by simp) ?_;refine ei.cons rfl (λK hK=> ?_) ei.nil;go_simp
   refine hK.o _ _ (λh=>absurd rfl h) (λ_=> ?_);clear hK K bO xO KB;refine Iu (by kernel_rfl) ?_ _;have zJ:=η (rO.o _ rfl);clear rO;generalize aH (aC ⟨g2,0,aB⟩) (k+1) a2A=fv2 at*;generalize we.setCell ⟨bp,1,aB⟩ fv2=wf at*;go_wp2_with fail
   go_roundw
   case rel=>exact⟨k+1,_,_,by omega,by go_num,zJ⟩
   case measure=>simp [af];omega
  obtain rfl:k=M:=by omega
  obtain⟨A1,c1,AJ⟩:=bL HP.o.co;obtain⟨A2,c2,hv2⟩:=bL HP.o.fo;subst AJ hv2;have Ce:=HP.o;rw [pJ,vR] at Ce;have q0:=Ce.pb;have q1:=Ce.rb;have p0:wr.cell? ⟨bp,0,aB⟩=aC (aH A1 k c1):=ρ q0;have p1:wr.cell? ⟨bp,1,aB⟩=aC (aH A2 k c2):=ρ q0;have p2:wr.cell? ⟨bp,2,aB⟩=aC (ν li):=ρ q0;have p3:wr.cell? ⟨bp,3,aB⟩=aC (ν ca):=ρ q0;have r0:wr.cell? ⟨bR,0,aB⟩=aC (aH aB 0 0):=ρ q1;have r1:wr.cell? ⟨bR,1,aB⟩=aC (aH aB 0 0):=ρ q1;have r2:wr.cell? ⟨bR,2,aB⟩=aC (ν 0):=ρ q1;have r3:wr.cell? ⟨bR,3,aB⟩=aC (ν 0):=ρ q1;have HPH:=η Ce;clear Ce q0 HP ew nz;have f0:wr.frozen? ⟨bR,0,aB⟩=aP:=by simp [iK,q1]
  have f1:wr.frozen? ⟨bR,1,aB⟩=aP:=by simp [iK,q1]
  have f2:wr.frozen? ⟨bR,2,aB⟩=aP:=by simp [iK,q1]
  have f3:wr.frozen? ⟨bR,3,aB⟩=aP:=by simp [iK,q1]
  clear q1;go_wp2_with fail
  refine bodyPost_ret (v:=bQ #[aH A1 k c1,aH A2 k c2,ν li,ν ca]) (by simp [results,results128,go_sem,r0,r1,r2,r3]) rfl ?_;have hR:=(((HPH.o.res.set 0 (aH A1 k c1)).set 1 (aH A2 k c2)).set 2 (ν li)).set 3 (ν ca);have o1:=hR.co;have o2:=hR.fo;rw [pJ] at o1;rw [vR] at o2;have g1:=aW.cA o1;have g2:=aW.cA o2;refine⟨⟨iA D k,A1,c1,iG D k,A2,c2,li,ca⟩, ?_,by rw [hM],by rw [hM],EJ.o.trans (by rw [hM]),CP.o.trans (by rw [hM]),⟨⟨g1,λh=> ?_⟩,⟨g2,λh=> ?_⟩⟩,hR.bl⟩
  ·unfold cB.val;simp only [pJ,vR]
  ·have:=Ic o1 h;rw [pJ];exact this
  have:=Ic o2 h;rw [vR];exact this
def ju(D:Dk):cB:=⟨iA D (aA D.x.ms),aB,0,iG D (aA D.x.ms),aB,0,balA (aA D.x.ms) (aA D.x.ss+1) D.l 3 0 0,balA (aA D.x.ms) (aA D.x.ss+1) D.l 4 0 0⟩
theorem aJR {P:cB} {D:Dk}(h1:P.co=iA D (aA D.x.ms))(h2:P.fu=iG D (aA D.x.ms))(h3:P.line=balA (aA D.x.ms) (aA D.x.ss+1) D.l 3 0 0)(h4:P.cap=balA (aA D.x.ms) (aA D.x.ss+1) D.l 4 0 0)(os:List Int)(n:Int):oO P os n=oO (ju D) os n:=by obtain⟨co,Ac,cc,fu,Af,cf,li,ca⟩:=P;simp only at h1 h2 h3 h4;subst h1 h2 h3 h4;rfl
theorem aK4 {P:cB} {D:Dk}(h1:P.co=iA D (aA D.x.ms))(h2:P.fu=iG D (aA D.x.ms))(h3:P.line=balA (aA D.x.ms) (aA D.x.ss+1) D.l 3 0 0)(h4:P.cap=balA (aA D.x.ms) (aA D.x.ss+1) D.l 4 0 0)(os:List Int):rC P os=rC (ju D) os:=by obtain⟨co,Ac,cc,fu,Af,cf,li,ca⟩:=P;simp only at h1 h2 h3 h4;subst h1 h2 h3 h4;rfl
def qI(D:Dk)(x:Dw):Dk:= {D with l:=bj D x.k x.m 1 0 0 x.n,log:=D.log++ [⟨10,x.m,0,x.n,x.k⟩]}
def oG(D:Dk)(L:List Dw):Dk:=L.foldl qI D
def iF(D:Dk)(n:Int):List Dw:=if n<=0 then [] else oO (ju D) D.who n
def ly(D:Dk)(n:Int):Dk:=oG D (iF D n)
theorem aF7 {D:Dk} {L:List Dw} {k:Nat}(h:k<aA L):oG D (L.take (k+1))=qI (oG D (L.take k)) L[k]:=by rw [fF h];unfold oG;rw [List.foldl_append];rfl
theorem VD(db:Nat)(p:Dp)(D:Dk)(n:Int)(w:aJ)(H:bW w db p D)(hn:aL n)(hm:aA D.x.ms<=100000)(hw:∀x∈D.who,aL x)(KM:aA D.who<=1000)(hO:∀k,k<=aA (iF D n)->fY (oG D ((iF D n).take k)))(hI:∀x∈iF D n,aL x.k/\aL x.m/\aL x.n/\0<=x.n)(hl:aA (iF D n)<=100000):
 aQ aM 65 #[π db,ν n] w λe w'=>e=aT (bB #[])/\aq db p (ly D n) w w':=by
 have zB:=η H;have jg:Hid (iF D n=if n<=0 then [] else oO (ju D) D.who n):=η rfl;have rI:Hid (ly D n=oG D (iF D n)):=η rfl;have HO:=η hO;have HI:=η hI;have mH:=η hl;have Ci:=η (λW (hW:β w W)=>a2n db p D W (H.below hW) hm);obtain⟨Aw,cw,hv⟩:=bL H.who;have pC:=η (λW (hW:β w W)=>(show aW W W.heap.size Aw (D.who.map (aG aF)) by have h1:=(H.below hW).who;rw [hv] at h1;exact aW.cA h1));have bO:=η (λW (hW:β w W)=>(show W.cell? ⟨db,11,aB⟩=aC (aH Aw (aA D.who) cw) from(by rw [<-hv];exact(H.below hW).cells.c11)));have Tz:=η hw;have OW:=η hn;have wU:=η hm;by_cases h0:n<=0
 ·have hd:decide (n<=0)=aO:=decide_eq_true h0;rw [ifP h0] at jg;have Fw:Hid (ly D n=D):=η (by rw [rI.o,jg.o];rfl);rw [Fw.o];go_enter aB8,aBu
  go_wp2_with fail
  (try simp only [Exit.inBlock,Exit.then])
  refine bodyPost_ret (results_none rfl _ _ _) rfl ?_;exact⟨rfl,aq.refl zB.o⟩
 have hd:decide (n<=0)=aP:=decide_eq_false h0;rw [ifN h0] at jg;rw [rI.o];generalize iF D n=L at*;go_enter aB8,aBu
 go_upto_region 1 with (fail)
 have bP:β w w.drew:=(aX _ _).drew;have hdd:=bO.o _ bP;go_region_held3 (λW=>W.cell? ⟨db,11,aB⟩=aC (aH Aw (aA D.who) cw)) (first|(with_reducible assumption)) (first|(go_at_call 128;refine(Ci.o _ (by with_reducible assumption)).mono ?_;rintro e w1 ⟨P,rfl,mU,jZ,uZ,xU,FJ,hb1⟩;have dW:β w w1:=jy (by with_reducible assumption) (hb1.mono (gV (by with_reducible assumption)));have hcc:=bO.o _ dW)|(go_at_call 127;refine(aJS P D.who n Aw cw _ FJ (by rw [mU,pJ];simp only [bM];have:=wU.o;omega) (pC.o _ dW) KM Tz.o OW.o).mono ?_;rintro e w2 ⟨A2,c2,rfl,eU,hb2⟩;have Vs:=dW.trans (hb2.mono dW.size);have hc2:=bO.o _ Vs))
 all_goals
  rw [aJR mU jZ uZ xU,<-jg.o] at eU ⊢;have a9a:Hid (aW w2 w2.heap.size A2 (gU (L))):=η (aW.cA eU);have MS:gU (L)≠ []->∀q,A2=aC q->¬eW db p q.block:=by intro _ q hq hs;subst hq;have:=(eU.lt q.block rfl).1;have h2:=zB.o.tW hs;have h3:=dW.size;omega
  have cK:=η (zB.o.below Vs);have aV:=η Vs;have ie:Hid (aq db p (oG D ((L).take 0)) w2 w2):=η (aq.refl cK.o);have BH:Hid (∀W D2,aq db p D2 w2 W->aW W W.heap.size A2 (gU (L))):=η (λW D2 h=>by obtain⟨_,_,_,_,_,_,hu,_⟩:=h;exact hu.dt a9a.o MS);go_wp2_with fail
  go_loopw [7,23] (λ_ i wr=>∃k:Nat,k<=aA L/\i=ν (k:Int)/\Hid (aq db p (oG D (L.take k)) w2 wr)) (λ_ i _=>aA L-(af i).toNat)
  case atStart=>exact⟨0,bK _,rfl,ie⟩
  case round=>
   obtain⟨k,hk,rfl,HP⟩:=hrel;by_cases hlt:k<aA L
   ·obtain⟨bl,ol,jn,hbl,l0,l1,l2⟩:=Pw (BH.o _ _ HP.o) hlt;have eY:(0:Int)<=(k:Int):=by omega
    have hkb:(k:Int)<(aA L:Int):=by omega
    obtain⟨p1,h1,e1,e2,e3,e4,dA,hs1⟩:=HP.o;have HF:=η h1;have mi:Hid (∀j,eW db p1 j->j<wr.heap.size):=η (λj hj=>h1.tW hj);have HT:Hid (∀W D2,aq db p1 D2 wr W->aq db p D2 w2 W):=η (λW D2 h=>aq.trans dA hs1 ⟨e1,e2,e3,e4⟩ h);have HL:=η (aF7 (D:=D) hlt);have dQ:=η (HO.o k hk);obtain⟨qL,qM,ry,vX⟩:=HI.o _ (cH hlt);have kr:aA L<=100000:=mH.o;clear h1 e1 e2 e3 e4 dA hs1 HP;subst jn;generalize oG D (L.take k)=E at*;generalize L[k]=x at*;obtain⟨xk,xm,xn⟩:=x;simp only at l0 l1 l2 qL qM ry vX;have oZ:=η (kX qL (kX qM (kX ry vX)));have uw:Hid (qI E ⟨xk,xm,xn⟩= {E with l:=bj E xk xm 1 0 0 xn,log:=E.log++ [⟨10,xm,0,xn,xk⟩]}):=η rfl;have ar:Hid (β wr (wr.alloc (aK #[ν xk,ν xm,ν xn] 196))):=η σ;have pD:Hid ((wr.alloc (aK #[ν xk,ν xm,ν xn] 196)).heap[wr.heap.size]? =aC (aK #[ν xk,ν xm,ν xn] 196 (0,0))):=η (cO wr _);have mW:wr.heap.size<(wr.alloc (aK #[ν xk,ν xm,ν xn] 196)).heap.size:=by simp
    clear qL qM ry vX;go_upto_region 5 with (fail)
    generalize wr.alloc (aK #[ν xk,ν xm,ν xn] 196)=w4 at*;obtain⟨bx,bU⟩:∃bx,bx=wr.heap.size:=⟨_,rfl⟩;have dL:=η bU;rw [<-bU] at pD mW ⊢;clear bU;have lN:=η (HF.o.below ar.o);have bX:Hid (¬eW db p1 bx):=η (λh=>by have:=mi.o bx h;rw [dL.o] at this;omega);have lj:=η (λW (hW:β w4 W)=>Hb db p1 E xk xm 1 0 0 xn W (lN.o.below hW) dQ.o ⟨oZ.o.1,oZ.o.2.1⟩ ⟨by decide,by decide⟩ (by decide) oZ.o.2.2.1 oZ.o.2.2.2);have bO:Hid (∀W,β w4 W->W.cell? ⟨db,8,aB⟩=aC (π p1.vb)/\W.cell? ⟨bx,0,aB⟩=aC (ν xk)/\W.cell? ⟨bx,1,aB⟩=aC (ν xm)/\W.cell? ⟨bx,2,aB⟩=aC (ν xn)):=η (λW hW=>by have hd:=(hW.block bx mW).trans pD.o;exact⟨(lN.o.below hW).cells.c8,ρ hd,ρ hd,ρ hd⟩);have LD:Hid (∀V W,β w4 V->aq db p1 {E with l:=bj E xk xm 1 0 0 xn} V W->W.cell? ⟨db,8,aB⟩=aC (π p1.vb)->W.cell? ⟨db,8,aB⟩=aC (π p1.vb)/\W.cell? ⟨bx,0,aB⟩=aC (ν xk)/\W.cell? ⟨bx,1,aB⟩=aC (ν xm)/\W.cell? ⟨bx,2,aB⟩=aC (ν xn)):=η (λW W' hW h h8=>by have hz:=cP mW hW.size;obtain⟨_,q0,q1,q2⟩:=bO.o W hW;exact⟨h8,(h.cell 0 hz bX.o).trans q0,(h.cell 1 hz bX.o).trans q1,(h.cell 2 hz bX.o).trans q2⟩);have bP:β w4 w4.drew:=(aX _ _).drew;have hdd:=bO.o _ bP;go_region_held3 (λW=>W.cell? ⟨db,8,aB⟩=aC (π p1.vb)/\W.cell? ⟨bx,0,aB⟩=aC (ν xk)/\W.cell? ⟨bx,1,aB⟩=aC (ν xm)/\W.cell? ⟨bx,2,aB⟩=aC (ν xn)) (first|(with_reducible assumption)) (first|(go_at_call 61;refine(xG _).mono ?_;rintro e w5 ⟨rfl,gF⟩;have qK:β w4 w5:=jy (by with_reducible assumption) (gF.mono (gV (by with_reducible assumption)));have hcc:=bO.o _ qK)|(go_at_call 87;refine(lj.o _ (by with_reducible assumption)).mono ?_;rintro e w7 ⟨rfl,dF,hcm⟩;have AB:=LD.o _ _ (by with_reducible assumption) dF hcm))
    all_goals
     have gC:Hid (aq db p1 {E with l:=bj E xk xm 1 0 0 xn} wr w7):=η (aq.trans (bC.bZ _ (ar.o.trans (Below.mono (by with_reducible assumption) ar.o.size))) (λ_ h=> .inl h) ⟨rfl,rfl,rfl,rfl⟩ dF);obtain⟨_,m0,m1,m2⟩:=AB;have IU:bx<w7.heap.size:=World.block_lt_of_cell? _ _ m0;clear dF hcm gF qK hcc bP hdd lj bO lN ar LD pD mW;obtain⟨p4,H4,e1,e2,e3,e4,qO,j6⟩:=gC.o;have kY:=η (H4.below ((aX w7.heap.size w7).alloc (aa _) (aK #[ν 10,ν xm,ν 0,ν xn,ν xk] 45)));have kZ:=η (xK db p4 {E with l:=bj E xk xm 1 0 0 xn} [⟨10,xm,0,xn,xk⟩] w7.heap.size 1 _ kY.o (dK w7 45 #[ν 10,ν xm,ν 0,ν xn,ν xk] rfl) (by simp) (by simp) (by have:=dQ.o.gl;simp only;omega));have pd:Hid (∀W,aq db p4 {E with l:=bj E xk xm 1 0 0 xn,log:=E.log++ [⟨10,xm,0,xn,xk⟩]} (w7.alloc (aK #[ν 10,ν xm,ν 0,ν xn,ν xk] 45)) W->aq db p (oG D (L.take (k+1))) w2 W):=η (λW h=>by rw [HL.o,uw.o];exact HT.o W _ (aq.trans qO j6 ⟨e1,e2,e3,e4⟩ (aq.trans (bC.bZ _ σ) (λ_ h=> .inl h) ⟨rfl,rfl,rfl,rfl⟩ h)));clear H4 e1 e2 e3 e4 qO j6 gC;go_wp2_with (go_at_call 55;refine kZ.o.mono ?_;rintro e w8 ⟨rfl,h8⟩;have dw:=η (pd.o _ h8);clear h8)
     go_roundw
     case rel=>exact⟨k+1,by omega,by go_num,dw⟩
     case measure=>simp [af];omega
   obtain rfl:k=aA L:=by omega
   rw [cT] at HP;go_wp2_with fail
   go_end0
   exact⟨rfl,aq.trans (bC.bZ _ aV.o) (λ_ h=> .inl h) ⟨rfl,rfl,rfl,rfl⟩ HP.o⟩
theorem aJA {w:aJ} {base:Nat} {A:Option aj} {n c m:Nat} {e:bY} {xs:List aN}(h:w.ownsRow base e m (aH A n c) n xs)(hA:A=aB):n=0/\c=0:=by
 rcases h.2 with⟨h1,h2⟩|⟨g,cap,cur,h1,_⟩
 ·injection h1 with h3 h4 h5;exact⟨h4,h5⟩
 rw [hA] at h1;injection h1 with h3;cases h3
def ij(w w':aJ)(A:Option aj)(c:Nat)(L:List Lg):Prop:=aW w' w'.heap.size A (bA L)/\(∀q,A=aC q->w.heap.size<=q.block)/\(A=aB->aA L=0/\c=0)
theorem ij.nil {w w':aJ}:ij w w' aB 0 []:=⟨aW.nil,(λq h=>by cases h),λ_=>⟨rfl,rfl⟩⟩
theorem ij.below {w w1 w2:aJ} {A:Option aj} {c:Nat} {L:List Lg}(h:ij w w1 A c L)(hb:aY w1.heap.size w1 w2):ij w w2 A c L:=⟨(h.1.below hb).mono hb.size,h.2⟩
theorem ij.wide {w0 w w1:aJ} {A:Option aj} {c:Nat} {L:List Lg}(h:ij w w1 A c L)(hz:w0.heap.size<=w.heap.size):ij w0 w1 A c L:=⟨h.1,λq hq=>bz hz (h.2.1 q hq),h.2.2⟩
theorem ij.cA {w w':aJ} {A:Option aj} {c:Nat} {L:List Lg}(h:w'.ownsRow w.heap.size 76 3 (aH A (aA L) c) (aA L) (bA L)):ij w w' A c L:=
 ⟨aW.cA h,λq hq=>(h.lt q.block (by rw [hq];rfl)).1,aJA h⟩
theorem ij.src {w w':aJ} {A:Option aj} {c:Nat} {L:List Lg}(h:ij w w' A c L):sq w' A c L:=⟨h.1,h.2.2⟩
def a9r(L:List Lg)(w:aJ):dU->aJ->Prop:=λe w'=>∃A c,e=aT (aH A (aA L) c)/\ij w w' A c L/\aY w.heap.size w w'
def U5(w:aJ)(g l:List Lg)(err:Int):dU->aJ->Prop:=λe w'=>∃A c B d,e=aT (bB #[aH A (aA g) c,aH B (aA l) d,aG aF err])/\ij w w' A c g/\ij w w' B d l/\aY w.heap.size w w'
def Fu(l:List Lg)(e:Int)(w:aJ)(ed:dU)(w':aJ):Prop:=∃A c,ed=aT (bB #[aH A (aA l) c,aG aF e])/\ij w w' A c l/\aY w.heap.size w w'
def aCM(x:ak)(L:List Lg)(w:aJ)(e:dU)(w':aJ):Prop:=
 (wthsE x L≠0/\Fu [] (wthsE x L) w e w')\/(wthsE x L=0/\∃ks:List Int,ks.Pairwise (· < ·)/\(∀q,q∈ks↔∃y∈L,y.m=q)/\Fu (rj (mG x L) ks) (gatE (mG x L) ks) w e w')
def a9o(A B:List Lg)(w:aJ)(e:dU)(w':aJ):Prop:=
 (sH A B≠0/\Fu [] (sH A B) w e w')\/(sH A B=0/\∃ks:List Int,ks.Pairwise (· < ·)/\(∀q,q∈ks↔∃y∈A++B,y.m=q)/\Fu (nW (fT (A++B)) ks) 0 w e w')
theorem a7P(L:List Lg)(xs:List Int)(A A':Option aj)(c c' bc:Nat)(w:aJ)(hs:aW w w.heap.size A (bA L))(hs':aW w w.heap.size A' (xs.map (aG aF)))(hb:w.cell? ⟨bc,0,aB⟩=aC (aH A (aA L) c))(gF:bc<w.heap.size)(hl:aA L<=100000)(hx:aA xs=aA L):
 aQ aM 196 #[aH A' (aA xs) c',π bc] w (a9r (eo L xs) w):=by
 obtain⟨i0,bu,hz0,ft,hz2⟩:=dJ a5N;have HS:=η hs;have Tm:=η hs';have dL:=η hb;have HX:=η hx;have nD:aA xs<=100000:=by omega
 clear hs hs' hb hx;go_enter func196,ntmps196
 go_wp2_with fail
 go_loopw [4,5,6,9] (λu _ _ i wr=>∃k:Nat,k<=aA xs/\i=ν k/\Hid (wr.ownsRow w.heap.size 76 3 u (aA (eo (L.take k) (xs.take k))) (bA (eo (L.take k) (xs.take k))))/\Hid (β w wr)) (λ_ _ _ i _=>aA xs-(af i).toNat)
 case atStart=>exact⟨0,bK _,rfl,⟨by simp [eo,bA],aS ⟨rfl,rfl⟩⟩,aX _ _⟩
 case round=>
  obtain⟨k,hk,rfl,HO,HB⟩:=hrel;have hsz:=HB.o.size;by_cases hlt:k<aA xs
  ·have WX:k<aA L:=by have:=HX.o;omega
   obtain⟨b',o',rfl,hb',hc'⟩:=(Tm.o.below HB.o).at (k:=k) (by simpa using hlt);rw [wk] at hc';have HF:=η (aKi WX hlt);have Bi:=aKh L xs k;by_cases hp:0<xs[k]
   ·obtain⟨b,o,rfl,hb2,-,-,-⟩:=oM (HS.o.below HB.o) WX;have LF:Hid (∀W,β w W->W.cell? ⟨bc,0,aB⟩=aC (aH (aC ⟨b,o,aB⟩) (aA L) c)/\W.cell? ⟨b,o+k*3,aB⟩=aC (ν L[k].m)/\W.cell? ⟨b,o+k*3+1,aB⟩=aC (ν L[k].a)):=λW hW=>by
     obtain⟨b9,o9,e9,_,d0,d1,d2⟩:=oM (HS.o.below hW) WX;injection e9 with e9;injection e9 with VM VN;subst VM VN;exact⟨(hW.cell (p:=⟨bc,0,aB⟩) gF).trans dL.o,d0,d1⟩
    obtain⟨q0,q1,q2⟩:=LF.o _ HB.o;rw [ifP hp] at HF;have eY:(0:Int)<=(k:Int):=by omega
    have hkb:(k:Int)<(aA L:Int):=by omega
    generalize eo (L.take k) (xs.take k)=ys at*;go_wp2_with fail
    go_region_held3 (λw'=>w'.cell? ⟨bc,0,aB⟩=aC (aH (aC ⟨b,o,aB⟩) (aA L) c)/\w'.cell? ⟨b,o+k*3,aB⟩=aC (ν L[k].m)/\w'.cell? ⟨b,o+k*3+1,aB⟩=aC (ν L[k].a)) (first|(with_reducible exact LF.o _ HB.o.drew)|(with_reducible exact LF.o _ (HB.o.drew.alloc hsz _))|exact LF.o _ (HB.o.alloc hsz _).drew|(with_reducible exact LF.o _ pg.o)) ((refine AY _ rfl _ _ 39 rfl w.heap.size 76 i0 _ 3 24 tE bu hz0 ft hz2 rfl (by decide) _ (aA ys) (bA ys) rfl (HO.o.alloc _) ⟨wr.heap.size,0,aB⟩ 1 1 (Lg.cells ⟨L[k].m,L[k].a,xs[k]⟩) rfl rfl (dK _ _ #[_,_,_] (by simp)) (a5K ⟨L[k].m,L[k].a,xs[k]⟩) (by decide) (by simp only [bM];omega) (by omega) (by simp;omega) _ rfl ?_;intro g cap w4 hown1 dG _ _;have dP:=η hown1;have pg:Hid (β w w4):=(HB.o.alloc hsz _).drew.grown dG (by show w.heap.size<=(wr.alloc _).heap.size;simp;omega) (λj hj=>eF HO.o j hj);clear hown1 dG))
    have ez:Hid (w4.ownsRow w.heap.size 76 3 (aH (aC ⟨g,0,aB⟩) (aA ys+1) cap) (aA (eo (L.take (k+1)) (xs.take (k+1)))) (bA (eo (L.take (k+1)) (xs.take (k+1))))):=by show kB _ _ _ _ _ _ _;rw [HF.o,a5M,cN,uM];exact dP.o
    go_wp2_with fail
    go_roundw
    case rel=>exact⟨k+1,by omega,by go_num,ez,pg⟩
    case measure=>simp [af];omega
   rw [ifN hp,List.append_nil] at HF;have jo:=HO.o;rw [<-HF.o] at jo;have cF:=η jo;clear jo;go_wp2_with fail
   go_roundw
   case rel=>exact⟨k+1,by omega,by go_num,cF,HB⟩
   case measure=>simp [af];omega
  obtain rfl:k=aA xs:=by omega
  have hO:=HO.o;rw [cT,List.take_of_length_le (by have:=HX.o;omega)] at hO;obtain⟨A1,c1,rfl⟩:=bL hO;have qX:Hid (ij w _ A1 c1 (eo L xs)):=η (ij.cA hO);clear hO;go_wp2_with fail
  go_ret;exact⟨A1,c1,rfl,qX.o,HB.o⟩
theorem a7a(cE:Int)(L:List Lg)(A:Option aj)(c:Nat)(w:aJ)(hA:aL cE)(hs:aW w w.heap.size A (bA L))(hI:∀x∈L,aL x.n)(hl:aA L<=100000):
 aQ aM 137 #[ν cE,aH A (aA L) c] w (U5 w (jl cE L) (js cE L) (jM cE L)):=by
 have hb0:β w (w.alloc (aK #[aH A (aA L) c] 39)):=(aX _ _).alloc (aa _) _;have hs0:=(hs.below hb0).mono hb0.size;have HC:=η (a7M cE L A c _ hA hs0 hI hl);have aZ:=η hb0;have px:=η hs0;have dL:Hid (∀W,aY (w.heap.size+1) (w.alloc (aK #[aH A (aA L) c] 39)) W->W.cell? ⟨w.heap.size,0,aB⟩=aC (aH A (aA L) c)):=λW hW=>by rw [hW.cell (p:=⟨w.heap.size,0,aB⟩) (by simp),cL _ _ _ _ rfl];rfl
 have HV:=η (show jl cE L=if jM cE L=0 then eo L (dN cE (bG L)) else [] from rfl);have HW:=η (show js cE L=if jM cE L=0 then eo L (oN (bG L) (dN cE (bG L))) else [] from rfl);have a4W:(w.alloc (aK #[aH A (aA L) c] 39)).heap.size=w.heap.size+1:=by simp
 have HI:=η hI;have TI:=η hA;have HZ0:=η a4W;clear hs hs0 hb0 hI hA a4W;by_cases h0:jM cE L=0
 ·have pZ:=η (Pn h0).1;have hG:=Es pZ.o;have B7:=η hG.len;have JE:=η hG.err;have mH:=η (aHj pZ.o);have EF:Hid (jl cE L=eo L (dN cE (bG L))):=by show _=_;rw [HV.o,ifP h0]
  have lQ:Hid (js cE L=eo L (oN (bG L) (dN cE (bG L)))):=by show _=_;rw [HW.o,ifP h0]
  have HE:=η h0;have J5:Hid (∀x∈dN cE (bG L),aL x):=λx hx=>by
   obtain⟨i,hi,rfl⟩:=tB.1 hx;have hi':i<aA (bG L):=by rw [<-hG.len];exact hi
   have:=hG.bd i hi hi';have:=Lz HI.o _ (cH hi');unfold aL at*;omega
  clear hG HV HW;rw [h0] at HC;clear h0;go_enter aAe,aBR
  go_wp2_with fail
  refine HC.o.mono ?_;rintro e w1 ⟨rfl,hb1⟩;have aR:Hid (aY (w.heap.size+1) (w.alloc (aK #[aH A (aA L) c] 39)) w1):=by rw [<-HZ0.o];exact hb1
  have sz1:w.heap.size<w1.heap.size:=by have:=aR.o.size;have:=HZ0.o;omega
  have c1:=dL.o _ aR.o;have cX:Hid (aW w1 w1.heap.size A (bA L)):=(px.o.below hb1).mono hb1.size;have ES:Hid (β w w1):=aZ.o.trans (hb1.mono (by simp));clear hb1 HC;go_wp2_with fail
  refine(Ul L A c _ cX.o hl).mono ?_;rintro e w2 ⟨A2,k2,rfl,hs2,hb2⟩;have cM:=η hs2;have aV:Hid (aY (w.heap.size+1) (w.alloc (aK #[aH A (aA L) c] 39)) w2):=aR.o.trans (hb2.mono (by omega));have sz2:w.heap.size<w2.heap.size:=by have:=hb2.size;omega
  have a9T:Hid (aW w2 w2.heap.size A (bA L)):=(cX.o.below hb2).mono hb2.size;have qY:Hid (β w w2):=ES.o.trans (hb2.mono (by omega));have rr:aA (bG L)<=bM:=by rw [qi];unfold bM;omega
  have aG6:aA (bG L)<=1000000:=by rw [qi];omega
  clear hs2 hb2 c1;go_wp2_with fail
  refine(Yg cE (bG L) A2 k2 _ TI.o (Lz HI.o) cM.o rr).mono ?_;rintro e w3 ⟨A3,k3,rfl,hs3,hb3⟩;have sY:=η hs3;have ag:Hid (aY (w.heap.size+1) (w.alloc (aK #[aH A (aA L) c] 39)) w3):=aV.o.trans (hb3.mono (by omega));have sz3:w.heap.size<w3.heap.size:=by have:=hb3.size;omega
  have a9V:Hid (aW w3 w3.heap.size A (bA L)):=(a9T.o.below hb3).mono hb3.size;have a9U:Hid (aW w3 w3.heap.size A2 ((bG L).map (aG aF))):=(cM.o.below hb3).mono hb3.size;have zO:Hid (β w w3):=qY.o.trans (hb3.mono (by omega));clear hs3 hb3;go_wp2_with fail
  refine(aA3 (bG L) (dN cE (bG L)) A2 A3 k2 k3 _ (Lz HI.o) a9U.o sY.o aG6).mono ?_;rintro e w4 ⟨A4,k4,rfl,j6,hb4⟩;have jS:=η j6;have ar:Hid (aY (w.heap.size+1) (w.alloc (aK #[aH A (aA L) c] 39)) w4):=ag.o.trans (hb4.mono (by omega));have sz4:w.heap.size<w4.heap.size:=by have:=hb4.size;omega
  have c4:=dL.o _ ar.o;have Zv:Hid (aW w4 w4.heap.size A (bA L)):=(a9V.o.below hb4).mono hb4.size;have a9W:Hid (aW w4 w4.heap.size A3 ((dN cE (bG L)).map (aG aF))):=(sY.o.below hb4).mono hb4.size;have rR:Hid (β w w4):=zO.o.trans (hb4.mono (by omega));have xl1:Hid (aA (dN cE (bG L))=aA L):=by show _=_;rw [B7.o,qi]
  have xl2:Hid (aA (oN (bG L) (dN cE (bG L)))=aA L):=by show _=_;rw [mH.o.1,qi]
  clear j6 hb4;go_wp2_with fail
  refine(a7P L (dN cE (bG L)) A A3 c k3 w.heap.size _ Zv.o a9W.o c4 sz4 hl xl1.o).mono ?_;rintro e w5 ⟨A5,k5,rfl,hs5,cd⟩;have Ck:=η (hs5.wide rR.o.size);have cV:Hid (aY (w.heap.size+1) (w.alloc (aK #[aH A (aA L) c] 39)) w5):=ar.o.trans (cd.mono (by omega));have sz5:w.heap.size<w5.heap.size:=by have:=cd.size;omega
  have c5:=dL.o _ cV.o;have a9Y:Hid (aW w5 w5.heap.size A (bA L)):=(Zv.o.below cd).mono cd.size;have a9X:Hid (aW w5 w5.heap.size A4 ((oN (bG L) (dN cE (bG L))).map (aG aF))):=(jS.o.below cd).mono cd.size;have GF:Hid (β w w5):=rR.o.trans (cd.mono (by omega));clear hs5 cd c4;go_wp2_with fail
  refine(a7P L (oN (bG L) (dN cE (bG L))) A A4 c k4 w.heap.size _ a9Y.o a9X.o c5 sz5 hl xl2.o).mono ?_;rintro e w6 ⟨A6,k6,rfl,hs6,iM⟩;have Oh:=η (hs6.wide GF.o.size);have a9Z:Hid (ij w w6 A5 k5 (eo L (dN cE (bG L)))):=Ck.o.below iM;have Ts:Hid (β w w6):=GF.o.trans (iM.mono (by omega));clear hs6 iM c5;go_wp2_with fail
  go_ret3;rw [EF.o,lQ.o,HE.o];exact⟨A5,k5,A6,k6,rfl,a9Z.o,Oh.o,Ts.o⟩
 have EF:Hid (jl cE L= []):=by show _=_;rw [HV.o,ifN h0]
 have lQ:Hid (js cE L= []):=by show _=_;rw [HW.o,ifN h0]
 have h0b:(jM cE L !=0)=aO:=by simpa [bne] using h0
 rw [EF.o,lQ.o];clear h0 HV HW EF lQ;generalize jM cE L=E at*;generalize AX cE L=V at*;go_enter aAe,aBR
 go_wp2_with fail
 refine HC.o.mono ?_;rintro e w1 ⟨rfl,hb1⟩;have ES:Hid (β w w1):=aZ.o.trans (hb1.mono (by simp));clear hb1;go_wp2_with fail
 go_ret3;exact⟨aB,0,aB,0,rfl,ij.nil,ij.nil,ES.o⟩
theorem a3T {w:aJ} {base b:Nat} {m:List (Int×aN)} {f:Int->List Int}(h:lJ w base b m f)(hl:aA m<=100000)(hf:∀k,aA (f k)<=100000/\∀z∈f k,aL z):
 aQ aM 198 #[.map (aC b)] w (Fu (rj f (nj m)) (gatE f (nj m)) w):=by
 obtain⟨i0,bu,hz0,ft,hz2⟩:=dJ NL;have HG:=η h;have sZ:=η (aKn h (by omega));have HF:=η hf;have eE:=aHP m;have OL:Hid (∀k∈nj m,aL k):=η λk hk=>by have h1:k∈m.map (·.1):=(a0H _ _).mem_iff.1 hk;obtain⟨p,hp,rfl⟩:=df.1 h1;exact h.dom p hp
 generalize KD:nj m=ks at*;have OM:=η KD;have ir:=hl;rw [<-eE] at ir;clear h hf KD;go_enter func198,ntmps198
 go_wp2_with (first|(go_at_call 231;refine(aHQ _ _).mono ?_;rintro e w' ⟨rfl,rfl⟩)|(go_at_call 230;refine sZ.o.mono ?_;rintro e w1 ⟨A,c,rfl,hs1,hb1⟩;rw [<-eE];have cX:=η hs1;have aR:Hid (β w w1):=η (((aX _ w).alloc (aa _) _).trans (hb1.mono (by omega)));clear hs1 hb1))
 have HZW:Hid (w.heap.size<=w1.heap.size):=η aR.o.size;go_loopw [4,6,7,8,13] (λu _ _ _ i wr=>∃k:Nat,k<=aA ks/\i=ν k/\Hid (∀j (hj:j<aA ks),j<k->aL (sumI (f ks[j])))/\Hid (wr.ownsRow w1.heap.size 76 3 u (aA (nW f (ks.take k))) (bA (nW f (ks.take k))))/\Hid (β w1 wr)) (λ_ _ _ _ i _=>aA ks-(af i).toNat)
 case atStart=>exact⟨0,bK _,rfl,λj hj h=>absurd h (Nat.not_lt_zero _),⟨by simp [nW,bA],aS ⟨rfl,rfl⟩⟩,aX _ _⟩
 case round=>
  obtain⟨k,hk,rfl,HK,HO,HB⟩:=hrel;have hsz:=HB.o.size;have aGt:=aR.o.size;have cC:Hid (β w wr):=η (aR.o.trans (HB.o.mono aGt));by_cases hlt:k<aA ks
  ·obtain⟨b',o',rfl,hb',hc'⟩:=(cX.o.below HB.o).at (k:=k) (by simpa using hlt);rw [wk] at hc';have FA:aL ks[k]:=OL.o _ (cH hlt);have TF:=η (HG.o.below (aa _) cC.o);have aGg:=TF.o.look (q:=ks[k]) FA Gi;obtain⟨A2,c2,jK⟩:=bL (TF.o.slot ks[k]);rw [jK] at aGg;have Cm:Hid (aW wr wr.heap.size A2 ((f ks[k]).map (aG aF))):=η (aW.cA (jK▸TF.o.slot ks[k]));have gW:=(HF.o ks[k]).1;have JD:=η (HF.o ks[k]).2;have cG:=η (aFm f hlt);have Bi:aA (nW f (ks.take k))<=100000:=by unfold nW;rw [iV,vD];omega
   have TP:Hid (∀j (hj:j<aA ks),j<k->aL (sumI (f ks[j]))):=HK;by_cases De:aL (sumI (f ks[k]))
   ·have lh:Hid (∀j (hj:j<aA ks),j<k+1->aL (sumI (f ks[j]))):=η λj hj h=>by
     by_cases e:j=k
     ·subst e;exact De
     exact TP.o j hj (by omega)
    have hV:=(eA De).1;have hE:=(eA De).2;generalize hq:ks[k]=q at*;have HQ:=η hq;clear hq De HK;generalize jr:sumI (f q)=sm at*;have GC:=η jr;clear jr;generalize nW f (ks.take k)=ys at*;go_wp2_with (first|(go_at_call 104;refine(CF (f q) A2 c2 _ JD.o Cm.o (by omega)).mono ?_;rintro e w2 ⟨rfl,hb2⟩;rw [GC.o,hV,hE];have aV:=η hb2;have sz2:=hb2.size;clear hb2)|(at_builtin;refine iZ _ rfl _ _ 39 rfl w1.heap.size 76 i0 _ 3 24 tE bu hz0 ft hz2 rfl (by decide) _ (aA ys) (bA ys) rfl ((NY HO.o aV.o).alloc _) ⟨w2.heap.size,0,aB⟩ 1 1 (Lg.cells ⟨q,0,sm⟩) rfl rfl (dK _ _ #[_,_,_] (by simp)) (KR ⟨q,0,sm⟩) (by simp only [bM];omega) (by omega) (by simp;omega) ?_))
    intro v' w4 hown1 dG _;obtain⟨A4,c4,rfl⟩:=bL hown1;have ez:Hid (w4.ownsRow w1.heap.size 76 3 (aH A4 (aA ys+1) c4) (aA (nW f (ks.take (k+1)))) (bA (nW f (ks.take (k+1))))):=by show kB _ _ _ _ _ _ _;rw [cG.o,aHe,cN,uM];exact hown1
    have ar:Hid (β w1 w4):=η (((HB.o.trans (aV.o.mono hsz)).alloc (by omega) _).grown dG (by simp;omega) (λj hj=>eF HO.o j hj));clear hown1 dG;go_wp2_with fail
    go_roundw
    case rel=>exact⟨k+1,by omega,by go_num,lh,ez,ar⟩
    case measure=>simp [af];omega
   have hE:=(gw De).2;have y8:=η (a3Q hlt (λj hj=>HK.o j (by omega) hj) De);generalize hq:ks[k]=q at*;go_wp2_with (go_at_call 104;refine(CF (f q) A2 c2 _ JD.o Cm.o (by omega)).mono ?_;rintro e w2 ⟨rfl,hb2⟩;rw [hE];have aV:=η hb2;have sz2:=hb2.size;clear hb2)
   go_ret2;refine⟨aB,0, ?_, ?_,cC.o.trans (aV.o.mono cC.o.size)⟩
   ·rw [y8.o];unfold rj;rw [y8.o,ifN (by decide)];rfl
   unfold rj;rw [y8.o,ifN (by decide)];exact ij.nil
  obtain rfl:k=aA ks:=by omega
  have hE:=VV (f:=f) (ks:=ks) λj hj=>HK.o j hj hj
  have hO:=HO.o;rw [cT] at hO;obtain⟨A3,c3,rfl⟩:=bL hO;have qX:=η ((ij.cA (w:=w1) (L:=nW f ks) hO).wide HZW.o);have hL:rj f ks=nW f ks:=by unfold rj;rw [ifP hE]
  have CU:=η (kX hL hE);clear hO hE hL;go_wp2_with fail
  go_ret2;exact⟨A3,c3,by rw [CU.o.1,CU.o.2];rfl,by rw [CU.o.1];exact qX.o,cC.o⟩
theorem aJI(cz:Int)(L:List Lg)(A:Option aj)(c:Nat)(w:aJ)(hA:aL cz)(hs:aW w w.heap.size A (bA L))(hI:∀x∈L,aL x.n)(hl:aA L<=100000):
 aQ aM 142 #[ν cz,aH A (aA L) c] w (U5 w (zk cz L) (zl cz L) (yS cz L)):=by
 have HC:=η (V0 L A c w hs hI hl);have HP:Hid (∀W,β w W->aQ aM 137 #[ν cz,aH A (aA L) c] W (U5 W (jl cz L) (js cz L) (jM cz L))):=η λW hW=>a7a cz L A c W hA ((hs.below hW).mono hW.size) hI hl
 clear hs hI hA;by_cases he:oC L=0
 ·obtain⟨e1,e2,e3⟩:=aJJ (cz:=cz) he;rw [e1,e2,e3];rw [he] at HC;clear e1 e2 e3 he;go_enter aAf,aBS
  go_wp2_with fail
  refine HC.o.mono ?_;rintro e w1 ⟨rfl,hb1⟩;have aR:=η hb1;have hz:=hb1.size;clear hb1;go_wp2_with fail
  refine(HP.o w1 aR.o).mono ?_;rintro e w2 ⟨A1,c1,A2,c2,rfl,hs1,hs2,hb2⟩;have cX:=η (hs1.wide hz);have cM:=η (hs2.wide hz);have aV:Hid (β w w2):=η (aR.o.trans (hb2.mono hz));clear hs1 hs2 hb2;go_wp2_with fail
  go_ret3;exact⟨A1,c1,A2,c2,rfl,cX.o,cM.o,aV.o⟩
 obtain⟨e1,e2,e3⟩:=aJH (cz:=cz) he;rw [e1,e2,e3];generalize oC L=ce at*;clear e1 e2 e3;go_enter aAf,aBS
 go_wp2_with fail
 refine HC.o.mono ?_;rintro e w1 ⟨rfl,hb1⟩;have aR:=η hb1;clear hb1;go_wp2_with fail
 go_ret3;exact⟨aB,0,aB,0,rfl,ij.nil,ij.nil,aR.o⟩
theorem a9p(X Y:List Lg)(A B:Option aj)(c d:Nat)(w:aJ)(hA:sq w A c X)(hB:sq w B d Y)(hX:aA X<=500)(hY:aA Y<=500)(QD:∀y∈X,aL y.m/\aL y.n)(QE:∀y∈Y,aL y.m/\aL y.n):
 aQ aM 141 #[aH A (aA X) c,aH B (aA Y) d] w (a9o X Y w):=by
 have CP:Hid (∀W,β w W->aQ aM 188 #[aH A (aA X) c] W λe w'=>e=aT (ν (dD X))/\β W w'):=η λW hW=>Pm X A c W (hA.below hW).dt (λy hy=>(QD y hy).2) (by omega)
 have Au:Hid (∀W,β w W->aQ aM 188 #[aH B (aA Y) d] W λe w'=>e=aT (ν (dD Y))/\β W w'):=η λW hW=>Pm Y B d W (hB.below hW).dt (λy hy=>(QE y hy).2) (by omega)
 have HKA:Hid (∀W,β w W->aQ aM 199 #[aH A (aA X) c] W λe w'=>e=aT (ν (oC X))/\β W w'):=η λW hW=>V0 X A c W (hA.below hW).dt (λy hy=>(QD y hy).2) (by omega)
 have CZ:Hid (∀W,β w W->aQ aM 199 #[aH B (aA Y) d] W λe w'=>e=aT (ν (oC Y))/\β W w'):=η λW hW=>V0 Y B d W (hB.below hW).dt (λy hy=>(QE y hy).2) (by omega)
 have aR:Hid (β w (w.alloc (aK #[aH A (aA X) c,aH B (aA Y) d] 39))):=η σ;have g0:(w.alloc (aK #[aH A (aA X) c,aH B (aA Y) d] 39)).cell? ⟨w.heap.size,0,aB⟩=aC (aH A (aA X) c):=by rw [cL _ _ _ _ rfl];rfl
 have g1:(w.alloc (aK #[aH A (aA X) c,aH B (aA Y) d] 39)).cell? ⟨w.heap.size,1,aB⟩=aC (aH B (aA Y) d):=by rw [cL _ _ _ _ rfl];rfl
 have N8:w.heap.size<(w.alloc (aK #[aH A (aA X) c,aH B (aA Y) d] 39)).heap.size:=by simp
 have HA:=η hA;have HB:=η hB;have ZW:=η QD;have ZX:=η QE;clear hA hB QD QE;have mR:= @run_makeMap aM;go_enter func141,ntmps141
 go_wp2_with fail
 have G0:=η g0;have G1:=η g1;generalize w.alloc (aK #[aH A (aA X) c,aH B (aA Y) d] 39)=w1 at*;refine um 3 ?_;rw [eB];go_wp2_with fail
 refine(CP.o _ aR.o).mono ?_;rintro e w2 ⟨rfl,hb2⟩;have aV:Hid (β w w2):=τ aR hb2;have r0:w2.cell? ⟨w.heap.size,0,aB⟩=aC (aH A (aA X) c):=(hb2.cell (p:=⟨w.heap.size,0,aB⟩) N8).trans G0.o;have r1:w2.cell? ⟨w.heap.size,1,aB⟩=aC (aH B (aA Y) d):=(hb2.cell (p:=⟨w.heap.size,1,aB⟩) N8).trans G1.o;have aGw:w.heap.size<w2.heap.size:=by have:=hb2.size;omega
 have R1:=η r1;clear hb2 aR G0 G1 N8;rcases a4t X Y with⟨h1,h2⟩|⟨h1,h2,h3⟩|⟨h1,h2,h3,h4⟩|⟨h1,h2,h3,h4,h5⟩|⟨h1,h2,h3,h4,h5⟩
 ·have HE:=η h2;have HN:Hid (sH X Y≠0):=η (by rw [h2];exact h1);clear h2;go_wp2_with fail
  go_ret2;exact aS ⟨HN.o,aB,0,by rw [HE.o];rfl,ij.nil,aV.o⟩
 all_goals
  rw [h1];go_wp2_with fail
  rw [eB];go_wp2_with fail
  refine(Au.o _ aV.o).mono ?_;rintro e w3 ⟨rfl,hb3⟩;have ag:Hid (β w w3):=τ aV hb3;clear hb3 aV r0 r1 aGw R1
 ·have HE:=η h3;have HN:Hid (sH X Y≠0):=η (by rw [h3];exact h2);clear h3;go_wp2_with fail
  go_ret2;exact aS ⟨HN.o,aB,0,by rw [HE.o];rfl,ij.nil,ag.o⟩
 all_goals
  rw [h2];go_wp2_with fail
  rw [eB];go_wp2_with fail
  refine(HKA.o _ ag.o).mono ?_;rintro e w4 ⟨rfl,hb4⟩;have ar:Hid (β w w4):=τ ag hb4;clear hb4 ag
 ·have HK:oC X=1:=by unfold oC;rw [ifN (by omega),ifP h3]
  rw [HK];have HE:=η h4;have HN:Hid (sH X Y≠0):=η (by rw [h4];decide);clear h4 HK;go_wp2_with fail
  go_ret2;exact aS ⟨HN.o,aB,0,by rw [HE.o];rfl,ij.nil,ar.o⟩
 all_goals
  rw [show oC X=0 from by unfold oC;rw [ifN (by omega),ifN (by rw [h3];decide)]];go_wp2_with fail
  refine(CZ.o _ ar.o).mono ?_;rintro e w5 ⟨rfl,cd⟩;have cV:Hid (β w w5):=τ ar cd;clear cd ar
 ·have HK:oC Y=1:=by unfold oC;rw [ifN (by omega),ifP h4]
  rw [HK];have HE:=η h5;have HN:Hid (sH X Y≠0):=η (by rw [h5];decide);clear h5 HK;go_wp2_with fail
  go_ret2;exact aS ⟨HN.o,aB,0,by rw [HE.o];rfl,ij.nil,cV.o⟩
 rw [show oC Y=0 from by unfold oC;rw [ifN (by omega),ifN (by rw [h4];decide)]];go_wp2_with fail
 obtain⟨L,hL⟩:∃L,L=X++Y:=⟨_,rfl⟩;have HL:=η hL;have iM:β w5 ((w5.alloc (.map #[] 0)).alloc (aK #[aH A (aA X) c,aH B (aA Y) d] 39)):=σ.alloc (by simp) _;have Az:=η (aEM X Y A B c d (w5.heap.size+1) _ (HA.o.below (cV.o.trans (iM.mono cV.o.size))) (HB.o.below (cV.o.trans (iM.mono cV.o.size))) (by rw [cL _ _ _ _ (by simp)];rfl) (by rw [cL _ _ _ _ (by simp)];rfl) (by simp) (by omega) (by omega));have hg7:=lJ.made w5;have AG:((w5.alloc (.map #[] 0)).alloc (aK #[aH A (aA X) c,aH B (aA Y) d] 39)).heap.size=w5.heap.size+2:=by simp
 have fP:aY w5.heap.size (w5.alloc (.map #[] 0)) ((w5.alloc (.map #[] 0)).alloc (aK #[aH A (aA X) c,aH B (aA Y) d] 39)):=(aX _ _).alloc (by simp) _;have QZ:=hg7.below (B:=(w5.alloc (.map #[] 0)).heap.size) (aa _) ((aX _ _).alloc (aa _) (aK #[aH A (aA X) c,aH B (aA Y) d] 39));rw [<-hL] at Az;have rP:=η AG;have jC:=η QZ;have gJ:=η iM;clear iM hg7 AG fP QZ hL;have hLl:aA L<=1000:=by rw [HL.o,cN];omega
 have uG:Hid (∀y∈L,aL y.m/\aL y.n):=η λy hy=>by
  rw [HL.o] at hy;rcases gL.1 hy with h|h
  ·exact ZW.o y h
  exact ZX.o y h
 refine Az.o.mono ?_;rintro e w7 ⟨A7,c7,rfl,hO7,fP⟩;have ZY:Hid (JI L w w7 w5.heap.size (w5.heap.size+2) 0 (aH A7 (aA L) c7) []):=η ⟨by rw [show fT (L.take 0)=λ_=> [] from by funext q;simp [fT]];exact jC.o.below (aa _) fP,aa _,λq=>by simp,by rw [<-rP.o];exact hO7,by omega,cV.o.size,cV.o.trans ((gJ.o.trans (fP.mono (by rw [rP.o];omega))).mono cV.o.size)⟩;have aGi:=mR;clear mR aGi hO7 fP Az jC gJ rP;generalize w5.heap.size=b at*;generalize b+2=lo at*;clear cV;go_wp2_with fail
 go_loopw [48] (λi wr=>∃k:Nat,k<=aA L/\i=ν k/\Hid (∃m,JI L w wr b lo k (aH A7 (aA L) c7) m)) (λi _=>aA L-(af i).toNat)
 case atStart=>exact⟨0,bK _,rfl,_,ZY.o⟩
 case round=>
  clear ZY;obtain⟨k,hk,rfl,HM⟩:=hrel;obtain⟨m,hm⟩:=HM.o;have HW:=η hm;have hsz:=hm.b.size;clear hm HM;by_cases hlt:k<aA L
  ·obtain⟨b',o,rfl,hb',d0,d1,d2⟩:=oM (aW.cA HW.o.own) hlt;obtain⟨s6,vZ⟩:=uG.o _ (cH hlt);obtain⟨q,hq⟩:∃q,q=L[k].m:=⟨_,rfl⟩;obtain⟨wv,hn⟩:∃n,n=L[k].n:=⟨_,rfl⟩;obtain⟨av,K7⟩:∃a,a=L[k].a:=⟨_,rfl⟩;rw [<-hq] at d0 s6;rw [<-hn] at d2 vZ;rw [<-K7] at d1;have HQ:=η (kX hq hn);clear hq hn K7;go_wp2_with fail
   have hgb:wr.heap.size<(wr.alloc (aK #[ν q,ν av,ν wv] 76)).heap.size:=by simp
   have lR:Hid ((wr.alloc (aK #[ν q,ν av,ν wv] 76)).cell? ⟨wr.heap.size,0,aB⟩=aC (ν q)/\(wr.alloc (aK #[ν q,ν av,ν wv] 76)).cell? ⟨wr.heap.size,2,aB⟩=aC (ν wv)):=η ⟨by rw [cL _ _ _ _ rfl];rfl,by rw [cL _ _ _ _ rfl];rfl⟩;have gD:Hid (JI L w (wr.alloc (aK #[ν q,ν av,ν wv] 76)) b lo k (aH (aC ⟨b',o,aB⟩) (aA L) c7) m):=η (HW.o.below σ);have rQ:Hid (aC wr.heap.size≠(mF q m).ownBlock):=η λe=>by have:=((HW.o.g.slot q).lt _ e.symm).2;omega
   have yA:Hid (wr.heap.size≠b):=η (by have:=HW.o.g.map.lt;omega);clear d0 d1 d2;generalize wr.alloc (aK #[ν q,ν av,ν wv] 76)=w2 at*;generalize wr.heap.size=gb at*;have Hn:=gD.o.g.map;have kO:Hid (∀W,eX aM 3 encI W b m->(Instr.lookup 272 (.map (aC b)) (ν q) aP).run aM W= .ok (mF q m) W):=η λW hW=>eX.look (P:=aM) aP Bj Gi (z:=aH aB 0 0) (by kernel_rfl) hW gD.o.g.dom s6
   refine wp_region_held_drew (S:=λw'=>w'.cell? ⟨gb,0,aB⟩=aC (ν q)/\w'.cell? ⟨gb,2,aB⟩=aC (ν wv)) (by kernel_rfl) ?_ (λhHeld=> ?_)
   ·exact lR.o
   obtain⟨i0,bu,hz0,ft,hz2⟩:=dJ a4f;have gW:aA (fT (L.take k) q)<=1000:=by have:=(Un (L:=L.take k) (λy hy=>(uG.o y (List.mem_of_mem_take hy)).2) q).1;rw [vD] at this;omega
   have F4:b+1<=w2.heap.size:=by have:=Hn.lt;omega
   refine jx (i:=0) (v:= .map (aC b)) rfl (by kernel_rfl) (by kernel_rfl) (by kernel_rfl) (λ_ _ _ h=>h) (aS ⟨by rfl,λw' hSw=>by obtain⟨Hp,Hq⟩:=hSw;go_simp⟩) hHeld ?_;refine jx (i:=1) (v:=π gb) rfl (by kernel_rfl) (by kernel_rfl) (by kernel_rfl) (λ_ _ _ h=>h) (aS ⟨by rfl,λw' hSw=>by obtain⟨Hp,Hq⟩:=hSw;go_simp⟩) hHeld ?_;refine jx (i:=2) (v:=ν q) rfl (by kernel_rfl) (by kernel_rfl) (by kernel_rfl) (λ_ _ _ h=>h) (aS ⟨by rfl,λw' hSw=>by obtain⟨Hp,Hq⟩:=hSw;go_simp⟩) hHeld ?_;refine jx (i:=3) (v:= .map (aC b)) rfl (by kernel_rfl) (by kernel_rfl) (by kernel_rfl) (λ_ _ _ h=>h) (aS ⟨by rfl,λw' hSw=>by obtain⟨Hp,Hq⟩:=hSw;go_simp⟩) hHeld ?_;refine jx (i:=4) (v:=π gb) rfl (by kernel_rfl) (by kernel_rfl) (by kernel_rfl) (λ_ _ _ h=>h) (aS ⟨by rfl,λw' hSw=>by obtain⟨Hp,Hq⟩:=hSw;go_simp⟩) hHeld ?_;refine jx (i:=5) (v:=ν q) rfl (by kernel_rfl) (by kernel_rfl) (by kernel_rfl) (λ_ _ _ h=>h) (aS ⟨by rfl,λw' hSw=>by obtain⟨Hp,Hq⟩:=hSw;go_simp⟩) hHeld ?_;refine jx (i:=7) (v:=bF (aC ⟨gb,2,aB⟩)) rfl (by kernel_rfl) (by kernel_rfl) (by kernel_rfl) (λ_ _ _ h=>h) (aS ⟨by rfl,λw' hSw=>by obtain⟨Hp,Hq⟩:=hSw;go_simp⟩) hHeld ?_;refine jx (i:=8) (v:=ν wv) rfl (by kernel_rfl) (by kernel_rfl) (by kernel_rfl) (λ_ _ _ h=>h) (aS ⟨by rfl,λw' hSw=>by obtain⟨Hp,Hq⟩:=hSw;go_simp⟩) hHeld ?_;refine pW (rs:= [6,9]) (by kernel_rfl) (by simp) ?_;refine ma rfl (λK hK=> ?_) (ma rfl (λK hK=> ?_) oW)
   ·have hlk:=kO.o _ Hn.drew;go_simp
    refine hK.o _ _ hHeld (λhHeld=> ?_);clear hK K hlk;refine pW (rs:= [9]) (by kernel_rfl) (by simp) ?_;refine ma rfl (λK hK=> ?_) oW;go_simp
    refine hK.o _ _ ⟨(gu (w:=w2) (fG _ _ hgb)).trans lR.o.1,(gu (w:=w2) (fG _ _ hgb)).trans lR.o.2⟩ (λhHeld=> ?_);clear hK K;refine pW (rs:= [10]) (by kernel_rfl) (by simp) ?_;refine ma rfl (λK hK=> ?_) oW;refine AY _ rfl (.tmp 58) (.tmp 61) 53 rfl (b+1) 2 i0 _ 1 8 mP bu hz0 ft hz2 rfl (by decide) (mF q m) _ _ rfl ((gD.o.g.slot q).alloc _) ⟨w2.heap.size,0,aB⟩ 1 1 [ν wv] rfl rfl (dK _ _ #[_] (by simp)) (by intro u hu;simp at hu;rw [hu];rfl) (by decide) (by simp only [bM];omega) (by omega) (by simp;omega) (w2.heap.size+1) (by simp) ?_;intro g cap w4 pN iQ zu _;have kq:w2.grownBy w4 (mF q m).ownBlock:=(Gm w2 (aK #[ν wv] 2) _).trans (c:=w4) ⟨iQ.os,iQ.tape,iQ.output,iQ.size,iQ.block⟩;have pO:w4.cell? ⟨gb,0,aB⟩=aC (ν q)/\w4.cell? ⟨gb,2,aB⟩=aC (ν wv):=⟨(gu (a:=⟨gb,0,aB⟩) (kq.block gb hgb rQ.o)).trans lR.o.1,(gu (a:=⟨gb,2,aB⟩) (kq.block gb hgb rQ.o)).trans lR.o.2⟩;refine hK.o _ _ pO (λhHeld=> ?_);clear hK K;refine pW (rs:= [11]) (by kernel_rfl) (by simp) ?_;refine ma rfl (λK hK=> ?_) oW;obtain⟨w5,hrun,zt,ej⟩:=lJ.put (v':=aH (aC ⟨g,0,aB⟩) (aA (fT (L.take k) q)+1) cap) (ys:=fT (L.take k) q++ [wv]) Gi gD.o.g s6 kq (by rw [cN,dZ];exact pN) (by
     rcases zu with e|e
     ·exact .inl e.symm
     exact .inr ⟨g,rfl,by omega⟩)
    refine S6 rfl _ (.tmp 52) (.tmp 54) (.tmp 62) rfl rfl rfl rfl (R:=λW=>W=w5) ⟨w5,hrun,rfl⟩ ?_;rintro w6 rfl;refine hK.o _ _ ⟨(gu (a:=⟨gb,0,aB⟩) (ej.block gb (cP hgb kq.size) (λe=>yA.o (pF e)))).trans pO.1,(gu (a:=⟨gb,2,aB⟩) (ej.block gb (cP hgb kq.size) (λe=>yA.o (pF e)))).trans pO.2⟩ (λhHeld=> ?_);clear hK K hHeld;refine Nx (by kernel_rfl) ?_ _;have py:Hid (∃m',JI L w w6 b lo (k+1) (aH (aC ⟨b',o,aB⟩) (aA L) c7) m'):=η ⟨_,gD.o.step (w4:=w4) (v':=aH (aC ⟨g,0,aB⟩) (aA (fT (L.take k) q)+1) cap) hlt (by rw [<-HQ.o.1];exact kq) (by rw [<-HQ.o.1,<-HQ.o.2];exact zt) ej⟩;clear pN iQ zu kq pO zt ej hrun;go_wp2_with fail
    go_roundw
    case rel=>exact⟨k+1,by omega,by go_num,py⟩
    case measure=>simp [af];omega
   go_simp
   refine hK.o _ _ ⟨(gu (w:=w2) (fG _ _ hgb)).trans lR.o.1,(gu (w:=w2) (fG _ _ hgb)).trans lR.o.2⟩ (λhHeld=> ?_);clear hK K;refine pW (rs:= [6]) (by kernel_rfl) (by simp) ?_;refine ma rfl (λK hK=> ?_) oW;have hlk:=kO.o _ (Hn.alloc (aK #[ν wv] 2)).drew;go_simp
   refine hK.o _ _ hHeld (λhHeld=> ?_);clear hlk;clear hK K;refine pW (rs:= [10]) (by kernel_rfl) (by simp) ?_;refine ma rfl (λK hK=> ?_) oW;refine AY _ rfl (.tmp 58) (.tmp 61) 53 rfl (b+1) 2 i0 _ 1 8 mP bu hz0 ft hz2 rfl (by decide) (mF q m) _ _ rfl ((gD.o.g.slot q).alloc _) ⟨w2.heap.size,0,aB⟩ 1 1 [ν wv] rfl rfl (dK _ _ #[_] (by simp)) (by intro u hu;simp at hu;rw [hu];rfl) (by decide) (by simp only [bM];omega) (by omega) (by simp;omega) (w2.heap.size+1) (by simp) ?_;intro g cap w4 pN iQ zu _;have kq:w2.grownBy w4 (mF q m).ownBlock:=(Gm w2 (aK #[ν wv] 2) _).trans (c:=w4) ⟨iQ.os,iQ.tape,iQ.output,iQ.size,iQ.block⟩;have pO:w4.cell? ⟨gb,0,aB⟩=aC (ν q)/\w4.cell? ⟨gb,2,aB⟩=aC (ν wv):=⟨(gu (a:=⟨gb,0,aB⟩) (kq.block gb hgb rQ.o)).trans lR.o.1,(gu (a:=⟨gb,2,aB⟩) (kq.block gb hgb rQ.o)).trans lR.o.2⟩;refine hK.o _ _ pO (λhHeld=> ?_);clear hK K;refine pW (rs:= [11]) (by kernel_rfl) (by simp) ?_;refine ma rfl (λK hK=> ?_) oW;obtain⟨w5,hrun,zt,ej⟩:=lJ.put (v':=aH (aC ⟨g,0,aB⟩) (aA (fT (L.take k) q)+1) cap) (ys:=fT (L.take k) q++ [wv]) Gi gD.o.g s6 kq (by rw [cN,dZ];exact pN) (by
    rcases zu with e|e
    ·exact .inl e.symm
    exact .inr ⟨g,rfl,by omega⟩)
   refine S6 rfl _ (.tmp 52) (.tmp 54) (.tmp 62) rfl rfl rfl rfl (R:=λW=>W=w5) ⟨w5,hrun,rfl⟩ ?_;rintro w6 rfl;refine hK.o _ _ ⟨(gu (a:=⟨gb,0,aB⟩) (ej.block gb (cP hgb kq.size) (λe=>yA.o (pF e)))).trans pO.1,(gu (a:=⟨gb,2,aB⟩) (ej.block gb (cP hgb kq.size) (λe=>yA.o (pF e)))).trans pO.2⟩ (λhHeld=> ?_);clear hK K hHeld;refine Nx (by kernel_rfl) ?_ _;have py:Hid (∃m',JI L w w6 b lo (k+1) (aH (aC ⟨b',o,aB⟩) (aA L) c7) m'):=η ⟨_,gD.o.step (w4:=w4) (v':=aH (aC ⟨g,0,aB⟩) (aA (fT (L.take k) q)+1) cap) hlt (by rw [<-HQ.o.1];exact kq) (by rw [<-HQ.o.1,<-HQ.o.2];exact zt) ej⟩;clear pN iQ zu kq pO zt ej hrun;go_wp2_with fail
   go_roundw
   case rel=>exact⟨k+1,by omega,by go_num,py⟩
   case measure=>simp [af];omega
  obtain rfl:k=aA L:=by omega
  have hg:=HW.o.g;have ir:=HW.o.len;rw [cT] at hg;have uF:=η (a3T hg (by omega) λq=>⟨by have:=(Un (L:=L) (λy hy=>(uG.o y hy).2) q).1;omega,(Un (L:=L) (λy hy=>(uG.o y hy).2) q).2⟩);have HR:Hid ((nj m).Pairwise (· < ·)/\∀q,q∈nj m↔∃y∈L,y.m=q):=η ⟨a5A hg.map.apart,λq=>by rw [a4z];have:=HW.o.ks q;rw [cT] at this;exact this⟩;have yE:Hid (∀W,β w W->aQ aM 129 #[aH A (aA X) c] W λe w'=>e=aT (bB #[ν (sumI (bG X)),ν 0])/\β W w'):=η λW hW=>by have:=PY X A c W (HA.o.below hW).dt (λy hy=>(ZW.o y hy).2) (by omega);rw [show iY X=sumI (bG X) from by unfold iY;rw [ifP h1],h1] at this;exact this
  have GD:Hid (∀W,β w W->aQ aM 129 #[aH B (aA Y) d] W λe w'=>e=aT (bB #[ν (sumI (bG Y)),ν 0])/\β W w'):=η λW hW=>by have:=PY Y B d W (HB.o.below hW).dt (λy hy=>(ZX.o y hy).2) (by omega);rw [show iY Y=sumI (bG Y) from by unfold iY;rw [ifP h2],h2] at this;exact this
  have GI:Hid (aL (sumI (bG X))):=η (BS h1).2.2;have HYI:Hid (aL (sumI (bG Y))):=η (BS h2).2.2;have HJE:=η h5;have HT:Hid (IV X Y=sumI (bG X)+sumI (bG Y)):=η rfl;have hsz:=HW.o.b.size;by_cases hT:aL (IV X Y)
  ·have hE:=VV (f:=fT L) (ks:=nj m) λj hj=>by rw [HL.o];exact a4u h1 h2 hT _
   have hLL:rj (fT L) (nj m)=nW (fT L) (nj m):=by unfold rj;rw [ifP hE]
   rw [hE,hLL] at uF;have JJ:Hid (sH X Y=0):=η (by rw [h5];exact(eA hT).2);have hV:=(eA hT).1;have hV2:=(eA hT).2;rw [HT.o] at hV hV2;have HV:=η (kX hV hV2);clear hg ir hE hLL hT hV hV2 h1 h2 h3 h4 h5;generalize sumI (bG X)=sx at*;generalize sumI (bG Y)=sy at*;go_wp2_with fail
   refine uF.o.mono ?_;rintro e w8 ⟨A8,c8,rfl,Bh,kF⟩;have BG:=η (Bh.wide hsz);have lM:Hid (β w w8):=η (HW.o.b.trans (kF.mono hsz));clear Bh kF;go_wp2_with fail
   refine(yE.o _ lM.o).mono ?_;rintro e w9 ⟨rfl,gM⟩;have oX:Hid (β w w9):=τ lM gM;have Cl:=η (BG.o.below gM);clear gM;go_wp2_with fail
   refine(GD.o _ oX.o).mono ?_;rintro e tu ⟨rfl,zv⟩;have Ai:Hid (β w tu):=τ oX zv;have Zu:=η (Cl.o.below zv);clear zv;go_wp2_with fail
   refine(PT _ _ _ GI.o HYI.o).mono ?_;rintro e w11 ⟨rfl,rfl⟩;rw [HV.o.1,HV.o.2];go_wp2_with fail
   go_ret2;exact Or.inr ⟨JJ.o,_,HR.o.1,by rw [<-HL.o];exact HR.o.2,A8,c8,by rw [<-HL.o];rfl,by rw [<-HL.o];exact Zu.o,Ai.o⟩
  have JJ:Hid (sH X Y=2):=η (by rw [h5];exact(gw hT).2);have HV:=η (gw hT);rw [HT.o] at HV;rcases a3R (fT L) (nj m) with hE|hE
  ·rw [hE] at uF;clear hg ir hE hT h1 h2 h3 h4 h5;generalize sumI (bG X)=sx at*;generalize sumI (bG Y)=sy at*;generalize rj (fT L) (nj m)=gl at*;go_wp2_with fail
   refine uF.o.mono ?_;rintro e w8 ⟨A8,c8,rfl,Bh,kF⟩;have BG:=η Bh;have lM:Hid (β w w8):=η (HW.o.b.trans (kF.mono hsz));clear Bh kF;go_wp2_with fail
   refine(yE.o _ lM.o).mono ?_;rintro e w9 ⟨rfl,gM⟩;have oX:Hid (β w w9):=τ lM gM;have Cl:=η (BG.o.below gM);clear gM;go_wp2_with fail
   refine(GD.o _ oX.o).mono ?_;rintro e tu ⟨rfl,zv⟩;have Ai:Hid (β w tu):=τ oX zv;have Zu:=η (Cl.o.below zv);clear zv;go_wp2_with fail
   refine(PT _ _ _ GI.o HYI.o).mono ?_;rintro e w11 ⟨rfl,rfl⟩;rw [HV.o.1,HV.o.2];go_wp2_with fail
   go_ret2;exact aS ⟨by rw [JJ.o];decide,aB,0,by rw [JJ.o];rfl,ij.nil,Ai.o⟩
  rw [hE] at uF;have hGL:rj (fT L) (nj m)= []:=by unfold rj;rw [hE,ifN (by decide)]
  rw [hGL] at uF;clear hg ir hE hT h1 h2 h3 h4 h5 hGL;go_wp2_with fail
  refine uF.o.mono ?_;rintro e w8 ⟨A8,c8,rfl,Bh,kF⟩;have lM:Hid (β w w8):=η (HW.o.b.trans (kF.mono hsz));clear Bh kF;go_wp2_with fail
  go_ret2;exact aS ⟨by rw [JJ.o];decide,aB,0,by rw [JJ.o];rfl,ij.nil,lM.o⟩
theorem aCN(x:ak)(L:List Lg)(A:Option aj)(c:Nat)(w:aJ)(hc:lf w x)(hs:aW w w.heap.size A (bA L))(hl:aA L<=1000)(hI:∀y∈L,aL y.m/\aL y.a/\aL y.n)(hp:∀i,aL (dX x i).a):
 aQ aM 140 #[x.val,aH A (aA L) c] w (aCM x L w):=by
 have HC:=η hc;have HS:=η hs;have HI:=η hI;have HP:=η hp;have mL:Hid (∀W,W=(w.alloc (aK #[aH x.Am (aA x.ms) x.cm,aH x.As (aA x.ss) x.cs,aH x.Ac (aA x.cy) x.cc,ν x.line,ν x.bV,ν x.lead,ν x.tr,ν x.bT] 26)).alloc (.map #[] 0)->WI x L w W 0 []):=η (by rintro W rfl;have hg:=lJ.made (w.alloc (aK #[aH x.Am (aA x.ms) x.cm,aH x.As (aA x.ss) x.cs,aH x.Ac (aA x.cy) x.cc,ν x.line,ν x.bV,ν x.lead,ν x.tr,ν x.bT] 26));rw [show (w.alloc (aK #[aH x.Am (aA x.ms) x.cm,aH x.As (aA x.ss) x.cs,aH x.Ac (aA x.cy) x.cc,ν x.line,ν x.bV,ν x.lead,ν x.tr,ν x.bT] 26)).heap.size=w.heap.size+1 by simp] at hg;exact⟨hg,aa _,λq=>by simp,λj _ h=>absurd h (Nat.not_lt_zero _),(zi w x).below σ,(mQ w x).alloc (by simp) _⟩);have mR:= @run_makeMap aM;clear hc hs hI hp;unfold ak.val;go_enter func140,ntmps140
 go_wp2_with fail
 have yI:=mL.o _ rfl;clear mL;generalize (w.alloc (aK #[aH x.Am (aA x.ms) x.cm,aH x.As (aA x.ss) x.cs,aH x.Ac (aA x.cy) x.cc,ν x.line,ν x.bV,ν x.lead,ν x.tr,ν x.bT] 26)).alloc (.map #[] 0)=w1 at yI ⊢;have HW:=η yI;clear yI;go_loopw [8,9,10,17] (λ_ _ _ i wr=>∃k:Nat,k<=aA L/\i=ν k/\Hid (∃m,WI x L w wr k m)) (λ_ _ _ i _=>aA L-(af i).toNat)
 case atStart=>exact⟨0,bK _,rfl,_,HW.o⟩
 case round=>
  clear HW;obtain⟨k,hk,rfl,HM⟩:=hrel;obtain⟨m,hm⟩:=HM.o;have HW:=η hm;have hsz:=hm.b.size;by_cases hlt:k<aA L
  ·obtain⟨b,o,rfl,hb,d0,d1,d2⟩:=oM (HS.o.below HW.o.b) hlt;obtain⟨s6,vZ,Be⟩:=HI.o _ (cH hlt);obtain⟨q,hq⟩:∃q,q=L[k].m:=⟨_,rfl⟩;obtain⟨a,ha⟩:∃a,a=L[k].a:=⟨_,rfl⟩;obtain⟨n,hn⟩:∃n,n=L[k].n:=⟨_,rfl⟩;rw [<-hq] at d0 s6;rw [<-ha] at d1 vZ;rw [<-hn] at d2 Be;have HQ:=η (kX hq (kX ha hn));clear hq ha hn;have Oo:Hid (∀W,β w W->aQ aM 197 #[x.val,bQ #[ν q,ν a,ν n]] W λe w'=>e=aT (bB #[ν (Ad x a n),ν (xl x a n)])/\β W w'):=η λW hW=>aLq x q a n W (HC.o.below hW) vZ Be (HP.o a)
   unfold ak.val at Oo;have bU:=HW.o.bx.lt;have c0:=HW.o.bx.c0;have c1:=HW.o.bx.c1;have c2:=HW.o.bx.c2;have c3:=HW.o.bx.c3;have c4:=HW.o.bx.c4;have c5:=HW.o.bx.c5;have c6:=HW.o.bx.c6;have c7:=HW.o.bx.c7;have J5:Hid (∀o,β w (wr.alloc o)):=η λo=>HW.o.b.alloc hsz o
   obtain⟨wv,X1⟩:∃wv,wv=Ad x a n:=⟨_,rfl⟩;obtain⟨ev,Vz⟩:∃ev,ev=xl x a n:=⟨_,rfl⟩;rw [<-X1,<-Vz] at Oo;have HV:=η (kX X1 Vz);clear X1 Vz hm vZ Be;by_cases he:ev=0
   ·subst he;go_wp2_with (go_at_call 197;refine(Oo.o _ (J5.o _)).mono ?_;rintro e w2 ⟨rfl,hb2⟩;have aV:=η hb2;clear hb2)
    have gD:Hid (WI x L w w2 k m):=η (HW.o.below (σ.trans (aV.o.mono (by simp))));have hgb:wr.heap.size<w2.heap.size:=by have:=aV.o.size;simp at this;omega
    have vh:w2.cell? ⟨wr.heap.size,0,aB⟩=aC (ν q):=by rw [aV.o.cell (p:=⟨wr.heap.size,0,aB⟩) (by simp)];simp
    have Hn:=gD.o.g.map;have kO:Hid (∀W,eX aM 3 encI W (w.heap.size+1) m->(Instr.lookup 272 (.map (aC (w.heap.size+1))) (ν q) aP).run aM W= .ok (mF q m) W):=η λW hW=>eX.look (P:=aM) aP Bj Gi (z:=aH aB 0 0) (by kernel_rfl) hW gD.o.g.dom s6
    clear c0 c1 c2 c3 c4 c5 c6 c7 d0 d1 d2;have rQ:Hid (aC wr.heap.size≠(mF q m).ownBlock):=η λe=>by have:=((HW.o.g.slot q).lt _ e.symm).2;omega
    have fL:Hid (aC (w.heap.size+1)≠(mF q m).ownBlock):=η λe=>by have:=((HW.o.g.slot q).lt _ e.symm).1;omega
    have yA:Hid (wr.heap.size≠w.heap.size+1):=η (by have:=HW.o.g.map.lt;omega);generalize hgg:wr.heap.size=gb at*;refine wp_region_held_drew (S:=λw'=>w'.cell? ⟨gb,0,aB⟩=aC (ν q)) (by kernel_rfl) ?_ (λhHeld=> ?_)
    ·exact vh
    obtain⟨i0,bu,hz0,ft,hz2⟩:=dJ a4f;refine jx (i:=0) (v:= .map (aC (w.heap.size+1))) rfl (by kernel_rfl) (by kernel_rfl) (by kernel_rfl) (λ_ _ _ h=>h) (aS ⟨by rfl,λw' hSw=>by dsimp only at hSw;go_simp⟩) hHeld ?_;refine jx (i:=1) (v:=π gb) rfl (by kernel_rfl) (by kernel_rfl) (by kernel_rfl) (λ_ _ _ h=>h) (aS ⟨by rfl,λw' hSw=>by dsimp only at hSw;go_simp⟩) hHeld ?_;refine jx (i:=2) (v:=ν q) rfl (by kernel_rfl) (by kernel_rfl) (by kernel_rfl) (λ_ _ _ h=>h) (aS ⟨by rfl,λw' hSw=>by dsimp only at hSw;go_simp⟩) hHeld ?_;refine jx (i:=3) (v:= .map (aC (w.heap.size+1))) rfl (by kernel_rfl) (by kernel_rfl) (by kernel_rfl) (λ_ _ _ h=>h) (aS ⟨by rfl,λw' hSw=>by dsimp only at hSw;go_simp⟩) hHeld ?_;refine jx (i:=4) (v:=π gb) rfl (by kernel_rfl) (by kernel_rfl) (by kernel_rfl) (λ_ _ _ h=>h) (aS ⟨by rfl,λw' hSw=>by dsimp only at hSw;go_simp⟩) hHeld ?_;refine jx (i:=5) (v:=ν q) rfl (by kernel_rfl) (by kernel_rfl) (by kernel_rfl) (λ_ _ _ h=>h) (aS ⟨by rfl,λw' hSw=>by dsimp only at hSw;go_simp⟩) hHeld ?_;refine jx (i:=7) (v:=ν wv) rfl (by kernel_rfl) (by kernel_rfl) (by kernel_rfl) (λ_ _ _ h=>h) (aS ⟨by rfl,λw' hSw=>by dsimp only at hSw;go_simp⟩) hHeld ?_;have gW:aA (mG x (L.take k) q)<=1000:=by have:=(Ye x (L.take k) q).1;rw [vD] at this;omega
    have F4:w.heap.size+2<=w2.heap.size:=by have:=gD.o.b.size;have:=Hn.lt;omega
    refine pW (rs:= [6,8]) (by kernel_rfl) (by simp) ?_;refine ma rfl (λK hK=> ?_) (ma rfl (λK hK=> ?_) oW)
    ·have hlk:=kO.o _ Hn.drew;go_simp
     refine hK.o _ _ hHeld (λhHeld=> ?_);clear hK K hlk;refine pW (rs:= [8]) (by kernel_rfl) (by simp) ?_;refine ma rfl (λK hK=> ?_) oW;go_simp
     refine hK.o _ _ ((gu (w:=w2) (fG _ _ hgb)).trans vh) (λhHeld=> ?_);clear hK K;refine pW (rs:= [9]) (by kernel_rfl) (by simp) ?_;refine ma rfl (λK hK=> ?_) oW;refine AY _ rfl (.tmp 36) (.tmp 38) 53 rfl (w.heap.size+2) 2 i0 _ 1 8 mP bu hz0 ft hz2 rfl (by decide) (mF q m) _ _ rfl ((gD.o.g.slot q).alloc _) ⟨w2.heap.size,0,aB⟩ 1 1 [ν wv] rfl rfl (dK _ _ #[_] (by simp)) (by intro u hu;simp at hu;rw [hu];rfl) (by decide) (by simp only [bM];omega) (by omega) (by simp;omega) (w2.heap.size+1) (by simp) ?_;intro g cap w4 pN iQ zu _;have kq:w2.grownBy w4 (mF q m).ownBlock:=(Gm w2 (aK #[ν wv] 2) _).trans (c:=w4) ⟨iQ.os,iQ.tape,iQ.output,iQ.size,iQ.block⟩;have pO:w4.cell? ⟨gb,0,aB⟩=aC (ν q):=(gu (a:=⟨gb,0,aB⟩) (kq.block gb hgb rQ.o)).trans vh;refine hK.o _ _ pO (λhHeld=> ?_);clear hK K;refine pW (rs:= [10]) (by kernel_rfl) (by simp) ?_;refine ma rfl (λK hK=> ?_) oW;obtain⟨w5,hrun,zt,ej⟩:=lJ.put (v':=aH (aC ⟨g,0,aB⟩) (aA (mG x (L.take k) q)+1) cap) (ys:=mG x (L.take k) q++ [wv]) Gi gD.o.g s6 kq (by rw [cN,dZ];exact pN) (by
      rcases zu with e|e
      ·exact .inl e.symm
      exact .inr ⟨g,rfl,by omega⟩)
     refine S6 rfl _ (.tmp 30) (.tmp 32) (.tmp 39) rfl rfl rfl rfl (R:=λW=>W=w5) ⟨w5,hrun,rfl⟩ ?_;rintro w6 rfl;refine hK.o _ _ ((gu (a:=⟨gb,0,aB⟩) (ej.block gb (cP hgb kq.size) (λe=>yA.o (pF e)))).trans pO) (λhHeld=> ?_);clear hK K hHeld;refine Nx (by kernel_rfl) ?_ _;have py:Hid (∃m',WI x L w w6 (k+1) m'):=η ⟨_,gD.o.step (w4:=w4) (v':=aH (aC ⟨g,0,aB⟩) (aA (mG x (L.take k) q)+1) cap) hlt (by rw [<-HQ.o.2.1,<-HQ.o.2.2];exact HV.o.2.symm) (by rw [<-HQ.o.1];exact kq) (by rw [<-HQ.o.1,<-HQ.o.2.1,<-HQ.o.2.2,<-HV.o.1];exact zt) ej⟩;clear pN iQ zu kq pO zt ej hrun;go_wp2_with fail
     go_roundw
     case rel=>exact⟨k+1,by omega,by go_num,py⟩
     case measure=>simp [af];omega
    go_simp
    refine hK.o _ _ ((gu (w:=w2) (fG _ _ hgb)).trans vh) (λhHeld=> ?_);clear hK K;refine pW (rs:= [6]) (by kernel_rfl) (by simp) ?_;refine ma rfl (λK hK=> ?_) oW;have hlk:=kO.o _ (Hn.alloc (aK #[ν wv] 2)).drew;go_simp
    refine hK.o _ _ hHeld (λhHeld=> ?_);clear hlk;clear hK K;refine pW (rs:= [9]) (by kernel_rfl) (by simp) ?_;refine ma rfl (λK hK=> ?_) oW;refine AY _ rfl (.tmp 36) (.tmp 38) 53 rfl (w.heap.size+2) 2 i0 _ 1 8 mP bu hz0 ft hz2 rfl (by decide) (mF q m) _ _ rfl ((gD.o.g.slot q).alloc _) ⟨w2.heap.size,0,aB⟩ 1 1 [ν wv] rfl rfl (dK _ _ #[_] (by simp)) (by intro u hu;simp at hu;rw [hu];rfl) (by decide) (by simp only [bM];omega) (by omega) (by simp;omega) (w2.heap.size+1) (by simp) ?_;intro g cap w4 pN iQ zu _;have kq:w2.grownBy w4 (mF q m).ownBlock:=(Gm w2 (aK #[ν wv] 2) _).trans (c:=w4) ⟨iQ.os,iQ.tape,iQ.output,iQ.size,iQ.block⟩;have pO:w4.cell? ⟨gb,0,aB⟩=aC (ν q):=(gu (a:=⟨gb,0,aB⟩) (kq.block gb hgb rQ.o)).trans vh;refine hK.o _ _ pO (λhHeld=> ?_);clear hK K;refine pW (rs:= [10]) (by kernel_rfl) (by simp) ?_;refine ma rfl (λK hK=> ?_) oW;obtain⟨w5,hrun,zt,ej⟩:=lJ.put (v':=aH (aC ⟨g,0,aB⟩) (aA (mG x (L.take k) q)+1) cap) (ys:=mG x (L.take k) q++ [wv]) Gi gD.o.g s6 kq (by rw [cN,dZ];exact pN) (by
     rcases zu with e|e
     ·exact .inl e.symm
     exact .inr ⟨g,rfl,by omega⟩)
    refine S6 rfl _ (.tmp 30) (.tmp 32) (.tmp 39) rfl rfl rfl rfl (R:=λW=>W=w5) ⟨w5,hrun,rfl⟩ ?_;rintro w6 rfl;refine hK.o _ _ ((gu (a:=⟨gb,0,aB⟩) (ej.block gb (cP hgb kq.size) (λe=>yA.o (pF e)))).trans pO) (λhHeld=> ?_);clear hK K hHeld;refine Nx (by kernel_rfl) ?_ _;have py:Hid (∃m',WI x L w w6 (k+1) m'):=η ⟨_,gD.o.step (w4:=w4) (v':=aH (aC ⟨g,0,aB⟩) (aA (mG x (L.take k) q)+1) cap) hlt (by rw [<-HQ.o.2.1,<-HQ.o.2.2];exact HV.o.2.symm) (by rw [<-HQ.o.1];exact kq) (by rw [<-HQ.o.1,<-HQ.o.2.1,<-HQ.o.2.2,<-HV.o.1];exact zt) ej⟩;clear pN iQ zu kq pO zt ej hrun;go_wp2_with fail
    go_roundw
    case rel=>exact⟨k+1,by omega,by go_num,py⟩
    case measure=>simp [af];omega
   have y8:Hid (wthsE x L=ev):=η (by rw [HV.o.2,HQ.o.2.1,HQ.o.2.2];exact a8Y hlt (λj hj=>HW.o.ok j (by omega) hj) (by rw [<-HQ.o.2.1,<-HQ.o.2.2,<-HV.o.2];exact he));have hez:(ev=0)=False:=eq_false he;go_wp2_with (go_at_call 197;refine(Oo.o _ (J5.o _)).mono ?_;rintro e w2 ⟨rfl,hb2⟩;have aV:=η hb2;clear hb2)
   go_ret2;refine aS ⟨by rw [y8.o];exact he,aB,0,by rw [y8.o];rfl,ij.nil,(J5.o _).trans (aV.o.mono (by simp;omega))⟩
  obtain rfl:k=aA L:=by omega
  have hg:=HW.o.g;have ir:=HW.o.len;rw [cT] at hg;have uF:=η (a3T hg (by omega) λq=>⟨by have:=(Ye x L q).1;omega,(Ye x L q).2⟩);have HE:Hid (wthsE x L=0):=η (a8X λj hj=>HW.o.ok j hj hj);have HR:Hid ((nj m).Pairwise (· < ·)/\∀q,q∈nj m↔∃y∈L,y.m=q):=η ⟨a5A hg.map.apart,λq=>by rw [a4z];have:=HW.o.ks q;rw [cT] at this;exact this⟩;clear hg ir hm;go_wp2_with (go_at_call 198;refine uF.o.mono ?_;rintro e w2 ⟨A2,c2,rfl,hs2,hb2⟩;have cM:=η (hs2.wide HW.o.b.size);have aV:=η hb2;clear hs2 hb2)
  go_ret2;exact Or.inr ⟨HE.o,_,HR.o.1,HR.o.2,A2,c2,rfl,cM.o,HW.o.b.trans (aV.o.mono HW.o.b.size)⟩
def cu(db:Nat)(p p':Dp)(D':Dk)(w w':aJ):Prop:=bW w' db p' D'/\p'.vb=p.vb/\p'.sb=p.sb/\p'.xb=p.xb/\p'.xc=p.xc/\bC (eW db p) w w'/\∀k,eW db p' k->eW db p k\/w.heap.size<=k
theorem aq.q {db:Nat} {p:Dp} {D':Dk} {w w':aJ}(h:aq db p D' w w'):∃p',cu db p p' D' w w':=h
theorem cu.p {db:Nat} {p p':Dp} {D':Dk} {w w':aJ}(h:cu db p p' D' w w'):aq db p D' w w':=⟨p',h⟩
theorem cu.at {db:Nat} {p p':Dp} {D':Dk} {w w':aJ}(h:cu db p p' D' w w'):bW w' db p' D':=h.1
theorem cu.bZ {db:Nat} {p:Dp} {D:Dk} {w w':aJ}(H:bW w db p D)(hb:aY w.heap.size w w'):cu db p p D w w':=⟨H.below hb,rfl,rfl,rfl,rfl,bC.bZ _ hb,λ_ h=> .inl h⟩
theorem cu.trans {db:Nat} {p p1 p2:Dp} {D1 D2:Dk} {w w1 w2:aJ}(h1:cu db p p1 D1 w w1)(h2:cu db p1 p2 D2 w1 w2):cu db p p2 D2 w w2:=by obtain⟨_,e1,e2,e3,e4,hu,hs⟩:=h1;obtain⟨H2,f1,f2,f3,f4,sA,hs2⟩:=h2;exact⟨H2,f1.trans e1,f2.trans e2,f3.trans e3,f4.trans e4,hu.trans sA hs,λk hk=>(hs2 k hk).elim (hs k) (λh=> .inr (bz hu.size h))⟩
theorem cu.below {db:Nat} {p p1:Dp} {D1:Dk} {w w1 w2:aJ}(h1:cu db p p1 D1 w w1)(hb:aY w1.heap.size w1 w2):cu db p p1 D1 w w2:=h1.trans (cu.bZ h1.at hb)
theorem cu.then {db:Nat} {p p1:Dp} {D1 D2:Dk} {w w1 w2:aJ}(h1:cu db p p1 D1 w w1)(h2:aq db p1 D2 w1 w2):∃p2,cu db p p2 D2 w w2/\cu db p1 p2 D2 w1 w2:=by obtain⟨p2,h⟩:=h2.q;exact⟨p2,h1.trans h,h⟩
theorem cu.size {db:Nat} {p p1:Dp} {D1:Dk} {w w1:aJ}(h1:cu db p p1 D1 w w1):w.heap.size<=w1.heap.size:=h1.2.2.2.2.2.1.size
theorem a7H {w:aJ} {B:Nat} {A:Option aj} {xs:List aN}(h:aW w B A xs)(hx:xs≠ []):∀q,A=aC q->q.block<B:=by
 intro q hq;subst hq;cases xs with
 |nil=>exact absurd rfl hx
 |cons u us=>
  obtain⟨b,o,e,hb,_⟩:=h.at (k:=0) (by simp);injection e with e;subst e;exact hb
structure iJ(db:Nat)(p:Dp)(w:aJ)(A:Option aj)(xs:List aN):Prop where
 dt:aW w w.heap.size A xs
 o:xs≠ []->∀q,A=aC q->¬eW db p q.block
theorem iJ.Ia {db:Nat} {p:Dp} {D:Dk} {w w':aJ} {A:Option aj} {c:Nat} {L:List Lg}(H:bW w db p D)(h:ij w w' A c L):iJ db p w' A (bA L):=
 ⟨h.1,λ_ q hq hs=>by have h1:=H.tW hs;have h2:=h.2.1 q hq;omega⟩
theorem iJ.cA {db:Nat} {p:Dp} {D:Dk} {w w':aJ} {A:Option aj} {e:bY} {s n c:Nat} {xs:List aN}(H:bW w db p D)(h:w'.ownsRow w.heap.size e s (aH A n c) n xs):iJ db p w' A xs:=
 ⟨aW.cA h,λ_ q hq hs=>by subst hq;have h1:=H.tW hs;have h2:=(h.lt q.block rfl).1;omega⟩
theorem iJ.below {db:Nat} {p:Dp} {w w':aJ} {A:Option aj} {xs:List aN}(h:iJ db p w A xs)(hb:aY w.heap.size w w'):iJ db p w' A xs:=⟨(h.dt.below hb).mono hb.size,h.o⟩
theorem iJ.step {db:Nat} {p p':Dp} {D':Dk} {w w':aJ} {A:Option aj} {xs:List aN}(h:iJ db p w A xs)(hq:cu db p p' D' w w'):iJ db p' w' A xs:=by
 obtain⟨_,_,_,_,_,hu,hs⟩:=hq;refine⟨hu.dt h.dt h.o,λhx q hq h'=> ?_⟩;rcases hs _ h' with h1|h1
 ·exact h.o hx q hq h1
 have:=a7H h.dt hx q hq;omega
theorem iJ.nil {db:Nat} {p:Dp} {w:aJ}:iJ db p w aB []:=⟨aW.nil,λh=>absurd rfl h⟩
structure oA(db:Nat)(p:Dp)(w w':aJ)(A:Option aj)(c:Nat)(L:List Lg):Prop where
 o:iJ db p w' A (bA L)
 new:∀q,A=aC q->w.heap.size<=q.block
 nil:A=aB->aA L=0/\c=0
theorem oA.Ia {db:Nat} {p:Dp} {D:Dk} {w w':aJ} {A:Option aj} {c:Nat} {L:List Lg}(H:bW w db p D)(h:ij w w' A c L):oA db p w w' A c L:=⟨.Ia H h,h.2.1,h.2.2⟩
theorem oA.wide {db:Nat} {p:Dp} {w0 w w':aJ} {A:Option aj} {c:Nat} {L:List Lg}(h:oA db p w w' A c L)(hz:w0.heap.size<=w.heap.size):oA db p w0 w' A c L:=⟨h.o,λq hq=>bz hz (h.new q hq),h.nil⟩
theorem oA.step {db:Nat} {p p':Dp} {D':Dk} {w0 w w':aJ} {A:Option aj} {c:Nat} {L:List Lg}(h:oA db p w0 w A c L)(hq:cu db p p' D' w w'):oA db p' w0 w' A c L:=⟨h.o.step hq,h.new,h.nil⟩
theorem oA.below {db:Nat} {p:Dp} {w0 w w':aJ} {A:Option aj} {c:Nat} {L:List Lg}(h:oA db p w0 w A c L)(hb:aY w.heap.size w w'):oA db p w0 w' A c L:=⟨h.o.below hb,h.new,h.nil⟩
def jX(D:Dk)(s:Int):List Lg:=jl (balA (aA D.x.ms) (aA D.x.ss+1) D.l 1 0 s) (di D s)
def oI(D:Dk)(s:Int):List Lg:=js (balA (aA D.x.ms) (aA D.x.ss+1) D.l 1 0 s) (di D s)
def Ez(D:Dk)(s:Int):Dk:=kE (iz D (jX D s)) 14 (oI D s)
def Hand(db:Nat)(p:Dp)(D':Dk)(G K:List Lg)(w:aJ)(e:dU)(w':aJ):Prop:=∃A c B d p',e=aT (bB #[aH A (aA G) c,aH B (aA K) d])/\cu db p p' D' w w'/\oA db p' w w' A c G/\oA db p' w w' B d K
theorem aEx(db:Nat)(p:Dp)(D:Dk)(s:Int)(w:aJ)(H:bW w db p D)(hb:aL (balA (aA D.x.ms) (aA D.x.ss+1) D.l 1 0 s))(hO:∀k,k<=aA (jX D s)->fY (iz D ((jX D s).take k)))(hI:∀x∈jX D s,aL x.m/\aL x.a/\aL x.n/\0<=x.n)(hl:aA (jX D s)<=80000)(hg:(iz D (jX D s)).log.length+aA (oI D s)<=90000)(hk:aA (oI D s)<=80000):
 aQ aM 71 #[π db,ν s] w (Hand db p (Ez D s) (jX D s) (oI D s) w):=by
 have QH:fY D:=hO 0 (bK _);have rI:Hid (Ez D s=kE (iz D (jX D s)) 14 (oI D s)):=η rfl;have ew:=η (λW (hW:β w W)=>zm db p D 1 0 s W (H.below hW) (by decide) (by decide));have y9:=η (λW (hW:β w W)=>MC db p D s W (H.below hW) QH);have CX:=η (MP QH.ob s);have kG:aA (di D s)<=100000:=by have h1:=Q8 D s;have h2:=QH.ob.len;omega
 have z8:=η hb;have HF:=η H;have EF:=η (λW p' (h:bW W db p' D) A c (ho:iJ db p' W A (bA (jX D s)))=>a2f db p' D (jX D s) A c W h ho.dt ho.o hO hI (by omega));have Sz:=η (λW p' (h:bW W db p' (iz D (jX D s))) A c (ho:iJ db p' W A (bA (oI D s)))=>a2B db p' (iz D (jX D s)) (oI D s) 14 A c W h ho.dt ho.o hg hk);clear H hb hO QH hI hg;have Ew:jX D s=jl (balA (aA D.x.ms) (aA D.x.ss+1) D.l 1 0 s) (di D s):=rfl;have K6:oI D s=js (balA (aA D.x.ms) (aA D.x.ss+1) D.l 1 0 s) (di D s):=rfl;rw [rI.o];have Tq:=η (λW A c (hs:aW W W.heap.size A (bA (di D s)))=>(a7a (balA (aA D.x.ms) (aA D.x.ss+1) D.l 1 0 s) (di D s) A c W z8.o hs CX.o kG));rw [<-Ew,<-K6] at Tq;clear Ew K6 rI;generalize balA (aA D.x.ms) (aA D.x.ss+1) D.l 1 0 s=bq at*;generalize jX D s=G at*;generalize oI D s=K at*;generalize di D s=L at*;generalize jM bq L=se at*;go_enter func71,ntmps71
 go_upto_region 2 with (first|(go_at_call 61;refine(xG _).mono ?_;rintro e w2 ⟨rfl,hb2⟩;have aV:=η hb2;clear hb2)|(go_at_call 46;refine(ew.o _ aV.o).mono ?_;rintro e w3 ⟨rfl,hb3⟩;have ag:=τ aV hb3;clear hb3)|(go_at_call 68;refine(y9.o _ ag.o).mono ?_;rintro e w4 ⟨v4,rfl,gG,hb4⟩;have ar:=τ ag hb4;obtain⟨A4,c4,hv4⟩:=bL gG;subst hv4;have jS:=η (aW.cA gG);clear gG hb4)|(go_at_call 137;refine(Tq.o _ A4 c4 jS.o).mono ?_;rintro e w5 ⟨A5,c5,B5,d5,rfl,IA,hm5,cd⟩;have cV:=τ ar cd;have om:=η (oA.Ia HF.o (IA.wide ar.o.size));have OS:=η (oA.Ia HF.o (hm5.wide ar.o.size));have ou:=η (cu.bZ HF.o cV.o);clear IA hm5 cd))
 clear ew y9 Tq aV ag ar jS cV;go_upto_region 3 with (go_at_call 138;refine(EF.o _ p ou.o.at A5 c5 om.o.o).mono ?_;rintro e w6 ⟨rfl,h6⟩;obtain⟨p6,FK,N0⟩:=ou.o.then h6;have ow:=η FK;have wV:=η (om.o.step N0);have JL:=η (OS.o.step N0);clear h6 FK N0 om OS ou)
 go_wp2_with (go_at_call 139;refine(Sz.o _ p6 ow.o.at B5 d5 JL.o.o).mono ?_;rintro e w7 ⟨rfl,h7⟩;obtain⟨p7,Ql,Dh⟩:=ow.o.then h7;have qW:=η Ql;have EM:=η (wV.o.step Dh);have OT:=η (JL.o.step Dh);clear h7 Ql Dh wV JL ow)
 go_ret2;exact⟨A5,c5,B5,d5,p7,rfl,qW.o,EM.o,OT.o⟩
def xW(x:Int):List Int->List Int
 | []=> [x]
 |y::l=>if x<y then x::y::l else if x=y then y::l else y::xW x l
theorem XP {x q:Int}:∀ {l:List Int},q∈xW x l↔q=x\/q∈l
 | []=>by simp [xW]
 |y::l=>by
  unfold xW;by_cases h:x<y
  ·rw [ifP h];simp
  rw [ifN h];by_cases h2:x=y
  ·rw [ifP h2];subst h2;simp
  rw [ifN h2,fE,XP,fE];constructor
  ·rintro (h|h|h)
   ·exact .inr (.inl h)
   ·exact .inl h
   exact .inr (.inr h)
  rintro (h|h|h)
  ·exact .inr (.inl h)
  ·exact .inl h
  exact .inr (.inr h)
theorem a4j {x:Int}:∀ {l:List Int},l.Pairwise (· < ·)->(xW x l).Pairwise (· < ·)
 | [],_=>by simp [xW]
 |y::l,h=>by
  obtain⟨h1,h2⟩:=kf.1 h;unfold xW;by_cases hx:x<y
  ·rw [ifP hx];refine kf.2 ⟨λz hz=> ?_,h⟩;rcases fE.1 hz with rfl|hz
   ·exact hx
   have:=h1 z hz;omega
  rw [ifN hx];by_cases h3:x=y
  ·rw [ifP h3];exact h
  rw [ifN h3];refine kf.2 ⟨λz hz=> ?_,a4j h2⟩;rcases XP.1 hz with rfl|hz
  ·omega
  exact h1 z hz
theorem a4i {x:Int}:∀ {l:List Int},aA (xW x l)<=aA l+1
 | []=>by simp [xW]
 |y::l=>by
  have:=a4i (x:=x) (l:=l);unfold xW;split
  ·simp
  split
  ·simp
  simp only [uL];omega
def xX(L:List Lg):List Int:=L.foldr (λy ks=>xW y.m ks) []
theorem aHR(L:List Lg):(xX L).Pairwise (· < ·):=by
 induction L with
 |nil=>exact U7
 |cons y L ih=>exact a4j ih
theorem RJ(L:List Lg)(q:Int):q∈xX L↔∃y∈L,y.m=q:=by
 induction L with
 |nil=>simp [xX]
 |cons y L ih=>
  have e:xX (y::L)=xW y.m (xX L):=rfl;rw [e,XP,ih];constructor
  ·rintro (h|⟨z,hz,h⟩)
   ·exact⟨y,by simp,h.symm⟩
   exact⟨z,by simp [hz],h⟩
  rintro⟨z,hz,h⟩;rcases fE.1 hz with rfl|hz
  ·exact .inl h.symm
  exact .inr ⟨z,hz,h⟩
theorem a5E(L:List Lg):aA (xX L)<=aA L:=by
 induction L with
 |nil=>simp [xX]
 |cons y L ih=>
  have e:xX (y::L)=xW y.m (xX L):=rfl;have:=a4i (x:=y.m) (l:=xX L);rw [e,uL];omega
theorem a5D {L:List Lg} {ks:List Int}(h:ks.Pairwise (· < ·))(hm:∀q,q∈ks↔∃y∈L,y.m=q):ks=xX L:=
 a7V h (aHR L) (λq=>(hm q).trans (RJ L q).symm)
def oV(x:ak)(K:List Lg):List Lg:=if wthsE x K=0 then rj (mG x K) (xX K) else []
def Dn(X Y:List Lg):List Lg:=if sH X Y=0 then nW (fT (X++Y)) (xX (X++Y)) else []
theorem a3P {f:Int->List Int}:∀ {ks:List Int},gatE f ks=0->∀k∈ks,aL (sumI (f k))
 | [],_,k,hk=>by cases hk
 |x::xs,h,k,hk=>by
  unfold gatE at h;by_cases hx:aL (sumI (f x))
  ·rw [ifP hx] at h;rcases fE.1 hk with rfl|hk
   ·exact hx
   exact a3P h k hk
  rw [ifN hx] at h;cases h
theorem a3S(f:Int->List Int)(ks:List Int):aA (nW f ks)=aA ks:=by simp [nW]
theorem aFl(f:Int->List Int)(ks:List Int):aA (rj f ks)<=aA ks:=by
 unfold rj;split
 ·rw [a3S];exact aa _
 simp
theorem Ya(x:ak)(K:List Lg):aA (oV x K)<=aA K:=by
 unfold oV;split
 ·exact bz (aFl _ _) (a5E K)
 simp
theorem aLp {x:ak} {K:List Lg}(h:∀y∈K,aL y.m):∀y∈oV x K,aL y.m/\aL y.n:=by
 intro y hy;unfold oV at hy;split at hy
 ·unfold rj at hy;split at hy
  ·rename_i he;unfold nW at hy;obtain⟨k,hk,rfl⟩:=df.1 hy;obtain⟨z,hz,hzk⟩:=(RJ K k).1 hk;exact⟨hzk▸h z hz,a3P he k hk⟩
  cases hy
 cases hy
theorem a4w(X Y:List Lg):aA (Dn X Y)<=aA X+aA Y:=by
 unfold Dn;split
 ·rw [a3S];exact bz (a5E _) (by simp)
 simp
theorem a4v {X Y:List Lg}:∀y∈Dn X Y,aL y.n:=by
 intro y hy;unfold Dn at hy;split at hy
 ·rename_i he;unfold nW at hy;obtain⟨k,hk,rfl⟩:=df.1 hy;rcases a4t X Y with⟨h1,h2⟩|⟨h1,h2,h3⟩|⟨h1,h2,h3,h4⟩|⟨h1,h2,h3,h4,h5⟩|⟨h1,h2,h3,h4,h5⟩
  ·rw [he] at h2;exact absurd h2.symm h1
  ·rw [he] at h3;exact absurd h3.symm h2
  ·rw [he] at h4;cases h4
  ·rw [he] at h5;cases h5
  refine a4u h1 h2 ?_ k;rw [he] at h5;by_cases hT:aL (IV X Y)
  ·exact hT
  rw [(gw hT).2] at h5;cases h5
 cases hy
def gg(D:Dk)(K:List Lg):List Lg:=Dn (di D 0) (oV D.x K)
def wA(D:Dk)(K:List Lg):Int:=KQ D (iY (gg D K))
def dg(D:Dk)(K:List Lg):Dk:=ly D (wA D K)
def j8(D:Dk)(K:List Lg):List Lg:=zk (balA (dg D K).x.ms.length ((dg D K).x.ss.length+1) (dg D K).l 1 0 0) (gg D K)
def mY(D:Dk)(K:List Lg):List Lg:=zl (balA (dg D K).x.ms.length ((dg D K).x.ss.length+1) (dg D K).l 1 0 0) (gg D K)
def Ie(D:Dk)(K:List Lg):Dk:=kE (iz (dg D K) (j8 D K)) 15 (mY D K)
structure P8(D:Dk)(K:List Lg):Prop where
 ok:fY D
 b0:aL (balA (aA D.x.ms) (aA D.x.ss+1) D.l 1 0 0)
 kl:aA K<=400
 kI:∀y∈K,aL y.m/\aL y.a/\aL y.n
 sp:∀i,aL (dX D.x i).a
 gl:aA (di D 0)<=400
 gm:∀y∈di D 0,aL y.m
 ml:aA D.x.ms<=100000
 wI:∀x∈D.who,aL x
 nI:aL (wA D K)
 dO:∀k,k<=aA (iF D (wA D K))->fY (oG D ((iF D (wA D K)).take k))
 dI:∀x∈iF D (wA D K),aL x.k/\aL x.m/\aL x.n/\0<=x.n
 dl:aA (iF D (wA D K))<=100000
 b1:aL (balA (dg D K).x.ms.length ((dg D K).x.ss.length+1) (dg D K).l 1 0 0)
 gO:∀k,k<=aA (j8 D K)->fY (iz (dg D K) ((j8 D K).take k))
 gI:∀x∈j8 D K,aL x.m/\aL x.a/\aL x.n/\0<=x.n
 pl:aA (j8 D K)<=80000
 lg:(iz (dg D K) (j8 D K)).log.length+aA (mY D K)<=90000
 ll:aA (mY D K)<=80000
theorem aF6(db:Nat)(p:Dp)(D:Dk)(K:List Lg)(A:Option aj)(c:Nat)(w:aJ)(H:bW w db p D)(hs:aW w w.heap.size A (bA K))(P:P8 D K):
 aQ aM 72 #[π db,aH A (aA K) c] w (Hand db p (Ie D K) (j8 D K) (mY D K) w):=by
 have HF:=η H;have y9:=η (λW (hW:β w W)=>MC db p D 0 W (H.below hW) P.ok);have U0:=η (aCN D.x K A c w H.src hs (by have:=P.kl;omega) P.kI P.sp);have OI:=η (λW A B c d (h1:sq W A c (di D 0)) (h2:sq W B d (oV D.x K))=>a9p (di D 0) (oV D.x K) A B c d W h1 h2 (by have:=P.gl;omega) (by have:=P.kl;have:=Ya D.x K;omega) (λy hy=>⟨P.gm y hy,MP P.ok.ob 0 y hy⟩) (λy hy=>aLp (λz hz=>(P.kI z hz).1) y hy));have ky:aA (gg D K)<=100000:=by have h1:=P.gl;have h2:=P.kl;have h3:=Ya D.x K;have h4:=a4w (di D 0) (oV D.x K);unfold gg;omega
 have LS:=η (λW A c (hs:aW W W.heap.size A (bA (gg D K)))=>VB (gg D K) A c W hs a4v ky);have kO:=η (λW (hW:β w W)=>a2k db p D (iY (gg D K)) W (H.below hW) (SE _) P.b0);have JC:=η (λW (hW:β w W)=>VD db p D (wA D K) W (H.below hW) P.nI P.ml P.wI (by have:=P.ok.wl;omega) P.dO P.dI P.dl);have EP:=η (λW A c (hs:aW W W.heap.size A (bA (gg D K)))=>aJI (balA (dg D K).x.ms.length ((dg D K).x.ss.length+1) (dg D K).l 1 0 0) (gg D K) A c W P.b1 hs a4v ky);have ew:=η (λW p' (h:bW W db p' (dg D K))=>zm db p' (dg D K) 1 0 0 W h (by decide) (by decide));have EF:=η (λW p' (h:bW W db p' (dg D K)) A c (ho:iJ db p' W A (bA (j8 D K)))=>a2f db p' (dg D K) (j8 D K) A c W h ho.dt ho.o P.gO P.gI (by have:=P.pl;omega));have Sz:=η (λW p' (h:bW W db p' (iz (dg D K) (j8 D K))) A c (ho:iJ db p' W A (bA (mY D K)))=>a2B db p' (iz (dg D K) (j8 D K)) (mY D K) 15 A c W h ho.dt ho.o P.lg P.ll);obtain⟨c0,c1,c2,c3,c4,c5,c6,c7,c8,c9,c10,c11,c12,c13,c14,c15⟩:=H.cells;have MW:ly D (wA D K)=dg D K:=rfl;rw [MW] at JC;have hE2:KQ D (iY (gg D K))=wA D K:=rfl;rw [hE2] at kO;have hE3:zk (balA (dg D K).x.ms.length ((dg D K).x.ss.length+1) (dg D K).l 1 0 0) (gg D K)=j8 D K:=rfl;have MX:zl (balA (dg D K).x.ms.length ((dg D K).x.ss.length+1) (dg D K).l 1 0 0) (gg D K)=mY D K:=rfl;rw [hE3,MX] at EP;have hE5:Ie D K=kE (iz (dg D K) (j8 D K)) 15 (mY D K):=rfl;rw [hE5];unfold ak.val at U0;have LA:Hid (∀W A B c d,sq W A c (di D 0)->sq W B d (oV D.x K)->aQ aM 141 #[aH A (aA (di D 0)) c,aH B (aA (oV D.x K)) d] W λe W'=>∃er,Fu (gg D K) er W e W'):=η (λW A B c d h1 h2=>(OI.o W A B c d h1 h2).mono (by
  rintro e W' (⟨h,hg⟩|⟨h,ks,xR,hk2,hg⟩)
  ·refine⟨sH (di D 0) (oV D.x K), ?_⟩;have e2:gg D K= []:=by unfold gg Dn;rw [ifN h]
   rw [e2];exact hg
  refine⟨0, ?_⟩;have e2:gg D K=nW (fT (di D 0++oV D.x K)) ks:=by rw [a5D xR hk2];unfold gg Dn;rw [ifP h]
  rw [e2];exact hg))
 have gD:Hid (aQ aM 140 #[bQ #[aH D.x.Am (aA D.x.ms) D.x.cm,aH D.x.As (aA D.x.ss) D.x.cs,aH D.x.Ac (aA D.x.cy) D.x.cc,ν D.x.line,ν D.x.bV,ν D.x.lead,ν D.x.tr,ν D.x.bT],aH A (aA K) c] w λe W'=>∃er,Fu (oV D.x K) er w e W'):=η (U0.o.mono (by
  rintro e W' (⟨h,hg⟩|⟨h,ks,xR,hk2,hg⟩)
  ·refine⟨wthsE D.x K, ?_⟩;have e2:oV D.x K= []:=by unfold oV;rw [ifN h]
   rw [e2];exact hg
  refine⟨gatE (mG D.x K) ks, ?_⟩;have e2:oV D.x K=rj (mG D.x K) ks:=by rw [a5D xR hk2];unfold oV;rw [ifP h]
  rw [e2];exact hg))
 clear OI U0 MW hE2 hE3 MX hE5;generalize balA (dg D K).x.ms.length ((dg D K).x.ss.length+1) (dg D K).l 1 0 0=bq at*;generalize yS bq (gg D K)=pe at*;generalize j8 D K=G at*;generalize mY D K=L at*;generalize dg D K=E at*;generalize wA D K=n at*;generalize gg D K=O at*;generalize oV D.x K=V at*;generalize di D 0=X at*;generalize iY O=sv at*;go_enter func72,ntmps72
 go_upto_region 2 with (go_at_call 140;refine gD.o.mono ?_;rintro e w1 ⟨er,A1,k1,rfl,jJ,hb1⟩;have aR:=η hb1;have yH:=η jJ.src)
 go_upto_region 3 with (first|(go_at_call 68;refine(y9.o _ aR.o).mono ?_;rintro e w2 ⟨v2,rfl,eU,hb2⟩;obtain⟨A2,k2,hv2⟩:=bL eU;subst hv2;have kQ:=η ((⟨aW.cA eU,Ic eU⟩:sq w2 A2 k2 X));have aV:=τ aR hb2;have Tv:=η (yH.o.below hb2))|(go_at_call 141;refine(LA.o _ A2 A1 k2 k1 kQ.o Tv.o).mono ?_;rintro e w3 ⟨er3,A3,k3,rfl,nh,hb3⟩;have ag:=τ aV hb3;have cD:=η (iJ.Ia HF.o (nh.wide aV.o.size))))
 go_upto_region 4 with (first|(go_at_call 67;refine(LS.o _ A3 k3 cD.o.dt).mono ?_;rintro e w4 ⟨rfl,hb4⟩;have ar:=τ ag hb4;have dP:=η (cD.o.below hb4))|(go_at_call 66;refine(kO.o _ ar.o).mono ?_;rintro e w5 ⟨rfl,cd⟩;have cV:=τ ar cd;have ez:=η (dP.o.below cd))|(go_at_call 65;refine(JC.o _ cV.o).mono ?_;rintro e w6 ⟨rfl,h6⟩;obtain⟨p6,FK,N0⟩:=(cu.bZ HF.o cV.o).then h6;have ow:=η FK;have jh:=η (ez.o.step N0)))
 go_upto_region 5 with (first|(go_at_call 61;refine(xG _).mono ?_;rintro e w7 ⟨rfl,fP⟩;have qW:=η (ow.o.below fP);have rN:=η (jh.o.below fP))|(go_at_call 46;refine(ew.o _ p6 qW.o.at).mono ?_;rintro e w8 ⟨rfl,kF⟩;have oz:=η (qW.o.below kF);have uH:=η (rN.o.below kF))|(go_at_call 142;refine(EP.o _ A3 k3 uH.o.dt).mono ?_;rintro e w9 ⟨A5,c5,B5,d5,rfl,hn9,hm9,gM⟩;have JN:=η ((oA.Ia oz.o.at hn9).wide oz.o.size);have zF:=η ((oA.Ia oz.o.at hm9).wide oz.o.size);have sW:=η (oz.o.below gM)))
 go_upto_region 6 with (go_at_call 138;refine(EF.o _ p6 sW.o.at A5 c5 JN.o.o).mono ?_;rintro e wa ⟨rfl,ha⟩;obtain⟨pa,Qn,hra⟩:=sW.o.then ha;have Zr:=η Qn;have HNa:=η (JN.o.step hra);have Zi:=η (zF.o.step hra))
 go_wp2_with (go_at_call 139;refine(Sz.o _ pa Zr.o.at B5 d5 Zi.o.o).mono ?_;rintro e wb ⟨rfl,hb⟩;obtain⟨pb,IE,KL⟩:=Zr.o.then hb;have HQb:=η IE;have HNb:=η (HNa.o.step KL);have HMb:=η (Zi.o.step KL))
 go_ret2;exact⟨A5,c5,B5,d5,pb,rfl,HQb.o,HNb.o,HMb.o⟩
def takeN(x:Bd)(la ca:Int):Int:=min x.q (min la (ca/x.p))
def mZ:List Bd->Int->Int->List Fi
 | [],_,_=> []
 |x::L,la,ca=>if la=0 then [] else if takeN x la ca=0 then mZ L la ca else⟨x,takeN x la ca,takeN x la ca*x.p⟩::mZ L (la-takeN x la ca) (ca-takeN x la ca*x.p)
theorem aFW:(aM.info? 208).map (λi=>(i.zero,i.size,i.bytes))=aC (aC (bQ #[aG aF 0,aG aF 0,aG aF 0,aG aF 0,aG aF 0,aG aF 0,aG aF 0]),7,56):=by kernel_rfl
theorem aFV(l:List Fi)(x:Fi):BW (l++ [x])=BW l++x.cells:=by simp [BW]
theorem aFX(x:Fi):∀u∈x.cells,u.oneCell'=aO:=by intro u hu;simp [Fi.cells] at hu;rcases hu with rfl|rfl|rfl|rfl|rfl|rfl|rfl<;>rfl
theorem Xb {w:aJ} {b t st n:Nat} {v:aN} {l:List aN}(h:w.ownsRow b t st v n l)(m:Nat):(w.drewN m).ownsRow b t st v n l:=h
theorem aLG {s m c q p a b n:Int}(hq:0<=q)(ha:0<=a)(hb:0<=b)(hp:0<p)(hn:n=(if b/p<if a<q then a else q then b/p else if a<q then a else q)):0<=n/\n<=q/\n<=a/\n*p<=b/\n=takeN ⟨s,m,c,q,p⟩ a b:=by
 have h1:0<=b/p:=Int.ediv_nonneg hb (by omega);have h2:b/p*p<=b:=Int.ediv_mul_le b (by omega);have h3:n<=b/p:=by split at hn<;>split at hn<;>omega
 refine⟨by split at hn<;>split at hn<;>omega,by split at hn<;>split at hn<;>omega,by split at hn<;>split at hn<;>omega,jz (Lb h3 (by omega)) h2, ?_⟩;unfold takeN;show n=min q (min a (b/p));split at hn<;>split at hn<;>omega
theorem aCn(L:List Bd)(A:Option aj)(c:Nat)(la ca:Int)(w:aJ)(hs:aW w w.heap.size A (nR L))(he:uP L la ca=0)(WS:aL la)(qu:aL ca)(hI:∀x∈L,aL x.q/\aL x.p):
 aQ aM 133 #[aH A (aA L) c,ν la,ν ca] w λe w'=>∃v,e=aT (bB #[v,ν 0])/\w'.ownsRow w.heap.size 208 7 v (aA (mZ L la ca)) (BW (mZ L la ca))/\β w w':=by
 have HS:=η hs;have hg:aA L<=1024/\0<=la/\0<=ca/\L.any rX=aP:=by
  unfold uP at he;by_cases h1:1024<aA L
  ·rw [ifP h1] at he;cases he
  rw [ifN h1] at he;by_cases h2:la<0\/ca<0\/L.any rX=aO
  ·rw [ifP h2] at he;cases he
  exact⟨by omega,by omega,by omega,by cases h:L.any rX;rfl;exact absurd (.inr (.inr h)) h2⟩
 obtain⟨hl,h0,h1,h2⟩:=hg;have pZ:=η (aCS L A c la ca w hs (by omega));rw [he] at pZ;have HP:Hid (∀x∈L,1<=x.q/\1<=x.p/\aL x.q/\aL x.p):=η λx hx=>by have:=zQ.1 h2 x hx;simp [rX] at this;exact⟨by omega,by omega,hI x hx⟩
 obtain⟨i0,bu,hz0,ft,xV⟩:=dJ aFW;obtain⟨R,HR⟩:∃R,Hid (mZ L la ca=R):=⟨_,η rfl⟩;have sX:Hid (R= []++mZ (L.drop 0) la ca):=η HR.o.symm;rw [HR.o];obtain⟨a4N,WS⟩:=WS;obtain⟨a4F,qu⟩:=qu;go_enter func133,ntmps133
 go_wp2_with fail
 go_step3
 go_wp2_with (go_at_call 192;refine pZ.o.mono ?_;rintro e w1 ⟨rfl,hb1⟩;have aR:=η hb1)
 go_step3
 go_wp2_with fail
 go_loopw [1,2,9,11,12,22] (λlv cv u _ _ i wr=>∃(k:Nat) (a b:Int) (F:List Fi),k<=aA L/\i=ν (k:Int)/\lv=ν a/\cv=ν b/\0<=a/\a<=9223372036854775807/\0<=b/\b<=9223372036854775807/\aA F<=k/\Hid (R=F++mZ (L.drop k) a b)/\Hid (wr.ownsRow w.heap.size 208 7 u (aA F) (BW F))/\Hid (β w wr)) (λ_ _ _ _ _ i _=>aA L-(af i).toNat)
 case atStart=>exact⟨0,la,ca,[],bK _,rfl,rfl,rfl,h0,WS,h1,qu,aa _,sX,fh _ _ _ _,aR⟩
 case round=>
  obtain⟨k,a,b,F,hk,rfl,rfl,rfl,ha0,ha1,hb0,hb1,hF,HR,HO,HB⟩:=hrel;have hsz:=HB.o.size;by_cases hlt:k<aA L
  ·obtain⟨bb,oo,rfl,iO,d0,d1,d2,d3,d4⟩:=Pb ((HS.o.below HB.o).mono hsz) hlt;obtain⟨p1,p2,p3,p4⟩:=HP.o _ (cH hlt);have JC:Hid (L.drop k=L[k]::L.drop (k+1)):=η (Jd hlt);have hkb:(k:Int)<(aA L:Int):=by omega
   generalize L[k]=x at*;obtain⟨xs,xm,xc,xq,xp⟩:=x;simp only at p1 p2 p3 p4 d0 d1 d2 d3 d4;unfold aL at p3 p4;go_upto_region 8 with fail
   go_quiet (fail)
   obtain⟨n,hn⟩:∃n,n=(if b/xp<if a<xq then a else xq then b/xp else if a<xq then a else xq):=⟨_,rfl⟩;rw [<-hn];obtain⟨t1,t2,t3,t4,t5⟩:=aLG (s:=xs) (m:=xm) (c:=xc) (show 0<=xq by omega) ha0 hb0 (show 0<xp by omega) hn;clear hn;rw [JC.o] at HR;by_cases X7:a=0
   ·subst X7;have lT:Hid (R=F):=η (by rw [HR.o];simp [mZ]);go_wp2_with fail
    rw [a8i];go_ret2;rw [lT.o];exact⟨_,rfl,Xb ((HO.o.alloc _)) nq,below_drewN (HB.o.alloc hsz _) nq⟩
   by_cases Dm:n=0
   ·subst Dm;have lT:Hid (R=F++mZ (L.drop (k+1)) a b):=η (by rw [HR.o];simp [mZ,X7,<-t5]);clear HR;go_wp2_with fail
    go_roundw
    case rel=>exact⟨k+1,a,b,F,by omega,by go_num,rfl,rfl,ha0,ha1,hb0,hb1,by omega,lT,η (Xb (HO.o.alloc _) nq),η (below_drewN (HB.o.alloc hsz _) nq)⟩
    case measure=>simp [af];omega
   have t6:0<=n*xp:=Int.mul_nonneg t1 (by omega);have jQ:Hid (R=(F++ [⟨⟨xs,xm,xc,xq,xp⟩,n,n*xp⟩])++mZ (L.drop (k+1)) (a-n) (b-n*xp)):=η (by rw [HR.o];simp [mZ,X7,<-t5,Dm]);clear HR;have yf:fW (n*xp)=n*xp:=by unfold fW;omega
   have hw2:fW (a-n)=a-n:=by unfold fW;omega
   have hw3:fW (b-n*xp)=b-n*xp:=by unfold fW;omega
   have cD:=η (Xb (HO.o.alloc (aK #[ν xs,ν xm,ν xc,ν xq,ν xp] 41)) nq);have hzF:(aA F:Int)<=1024:=by omega
   clear t5;generalize hzz:n*xp=z at*;go_wp2_with (at_builtin;refine iZ _ rfl _ _ 201 rfl w.heap.size 208 i0 _ 7 56 underlying201 bu hz0 ft xV rfl (by decide) _ (aA F) (BW F) rfl (cD.o.alloc _) ⟨wr.heap.size+1,0,aB⟩ 1 1 (Fi.cells ⟨⟨xs,xm,xc,xq,xp⟩,n,z⟩) rfl rfl ?c1 (aFX _) ?c3 ?c4 ?c5 ?_)
   case c1=>exact dK _ _ #[_,_,_,_,_,_,_] (by simp)
   case c3=>simp only [bM];omega
   case c4=>omega
   case c5=>simp;omega
   intro v' w4 hown1 dG _;have dP:Hid (w4.ownsRow w.heap.size 208 7 v' (aA (F++ [(⟨⟨xs,xm,xc,xq,xp⟩,n,z⟩:Fi)])) (BW (F++ [⟨⟨xs,xm,xc,xq,xp⟩,n,z⟩]))):=by show kB _ _ _ _ _ _ _;rw [aFV,cN,uM];exact hown1
   have ar:Hid (β w w4):=η (((below_drewN (HB.o.alloc hsz _) nq).alloc (by simp;omega) _).grown dG (by simp;omega) (λj hj=>eF cD.o j hj));have hbl:w4.heap[wr.heap.size]? =aC (aK #[ν xs,ν xm,ν xc,ν xq,ν xp] 41):=by
    refine(dG.block _ (by simp;omega) (λhe=> ?_)).trans ?_
    ·have:=(HO.o.lt _ he.symm).2;omega
    rw [fG _ _ (by simp)];exact cO _ _
   have hc4:w4.cell? ⟨wr.heap.size,4,aB⟩=aC (ν xp):=by
    first
     |(simp [World.cell?,hbl];done)
     |(simp [World.cell?,aJ.aN9,hbl];done)
   clear hown1 dG hbl;go_wp2_with fail
   go_roundw
   case rel=>exact⟨k+1,a-n,b-z,F++ [⟨⟨xs,xm,xc,xq,xp⟩,n,z⟩],by omega,by go_num,rfl,rfl,by omega,by omega,by omega,by omega,by rw [cN,uM];omega,jQ,dP,ar⟩
   case measure=>simp [af];omega
  obtain rfl:k=aA L:=by omega
  have lT:Hid (R=F):=η (by rw [HR.o];simp [mZ]);go_wp2_with fail
  rw [a8i];go_ret2;rw [lT.o];exact⟨_,rfl,HO.o,HB.o⟩
def fN(s:Int)(x:Fi):List En:= [⟨7,x.b.m,s,-x.q⟩,⟨1,0,s,x.q⟩,⟨1,0,0,-x.c⟩,⟨7,x.b.m,0,x.c⟩]
def eT(D:Dk)(es:List En):List Int:=if lZ (aA D.x.ms) (aA D.x.ss+1) D.l D.h es=0 then kH (aA D.x.ms) (aA D.x.ss+1) D.l es else D.l
def Hi(s:Int)(D:Dk)(x:Fi):Dk:= {D with l:=eT D (fN s x),log:=D.log++ [⟨12,x.b.m,s,x.q,x.b.s⟩,⟨19,x.b.m,0,x.c,x.b.s⟩]}
def tQ(s:Int)(D:Dk)(L:List Fi):Dk:=L.foldl (Hi s) D
theorem aFY {s:Int} {D:Dk} {L:List Fi} {k:Nat}(h:k<aA L):tQ s D (L.take (k+1))=Hi s (tQ s D (L.take k)) L[k]:=by rw [fF h];unfold tQ;rw [List.foldl_append];rfl
def Fo(D:Dk)(s:Int)(Bs:List Bd):Prop:=∃is,Jb ((qP D.bx s).map bk) is/\Bs=is.map λi=>(qP D.bx s).getD i ⟨0,0,0,0,0⟩
def yQ(D:Dk):Int:=yP D+rC (ju D) D.who
def mq(D:Dk)(s:Int)(Bs:List Bd):List Fi:=mZ Bs (jO D s) (yQ D)
def pI(D:Dk)(s:Int)(Bs:List Bd):Int:=rY (mq D s Bs)-yP D
def Jo(D:Dk)(s:Int)(Bs:List Bd):Dk:=tQ s (ly D (pI D s Bs)) (mq D s Bs)
structure Ym(D:Dk)(s:Int)(Bs:List Bd):Prop where
 cI:aL (yQ D)
 au:uP Bs (jO D s) (yQ D)=0
 bI:∀x∈Bs,aL x.q/\aL x.p
 nI:aL (pI D s Bs)
 dO:∀k,k<=aA (iF D (pI D s Bs))->fY (oG D ((iF D (pI D s Bs)).take k))
 dI:∀x∈iF D (pI D s Bs),aL x.k/\aL x.m/\aL x.n/\0<=x.n
 dl:aA (iF D (pI D s Bs))<=100000
 fO:∀k,k<=aA (mq D s Bs)->fY (tQ s (ly D (pI D s Bs)) ((mq D s Bs).take k))
 fI:∀x∈mq D s Bs,aL x.b.m/\aL x.q/\aL x.c/\0<=x.q/\0<=x.c
 fl:aA (mq D s Bs)<=80000
structure Sc(D:Dk)(s:Int):Prop where
 ok:fY D
 sI:aL s
 bs:aL (balA (aA D.x.ms) (aA D.x.ss+1) D.l 1 0 s)
 b0:aL (balA (aA D.x.ms) (aA D.x.ss+1) D.l 1 0 0)
 ml:aA D.x.ms<=100000
 wI:∀x∈D.who,aL x
 xI:∀d∈D.bx,aL d.s
 all:jO D s≠0->∀Bs,Fo D s Bs->Ym D s Bs
def J0(D:Dk)(s:Int)(D':Dk):Prop:=(jO D s=0/\D'=D)\/(jO D s≠0/\∃Bs,Fo D s Bs/\D'=Jo D s Bs)
theorem wF {n:Int}(h:aL n):aF.wrap n=n:=by rw [fg];unfold aL at h;omega
theorem aKY(a:Int)(L:List Lg):aL (AX a L):=by
 unfold AX;split
 ·unfold yj;split
  ·decide
  split
  ·exact Uo _
  decide
 decide
theorem aJ5(a b:Int):aL (pS a b):=by
 unfold pS;split
 ·decide
 split
 ·assumption
 decide
theorem aEr(db:Nat)(p:Dp)(D:Dk)(s:Int)(w:aJ)(H:bW w db p D)(P:Sc D s):
 aQ aM 70 #[π db,ν s] w λe w'=>e=aT (bB #[])/\∃D',J0 D s D'/\aq db p D' w w':=by
 have HF:=η H;have HP:=η P;have uy:=η (VG db p D s w H P.ok P.bs);have xP:=H.lt;clear H P;by_cases h0:jO D s=0
 ·rw [h0] at uy;have HR:Hid (J0 D s D):=η (.inl ⟨h0,rfl⟩);clear h0 HP;go_enter aB9,aBv
  go_wp2_with (go_at_call 69;refine uy.o.mono ?_;rintro e w1 ⟨rfl,hb1⟩;have aR:=η hb1;clear hb1)
  (try simp only [Exit.inBlock,Exit.then])
  refine bodyPost_ret (results_none rfl _ _ _) rfl ?_;exact⟨rfl,D,HR.o,aq.bZ HF.o aR.o⟩
 have hb0:(jO D s==0)=aP:=by simpa using h0
 have og:=η h0;have EB:=η (HP.o.all h0);clear h0;have Ci:=η (λW (hW:β w W)=>a2n db p D W (HF.o.below hW) HP.o.ml);obtain⟨Aw,cw,hv⟩:=bL HF.o.who;have pC:=η (λW (hW:β w W)=>(show aW W W.heap.size Aw (D.who.map (aG aF)) by have h1:=(HF.o.below hW).who;rw [hv] at h1;exact aW.cA h1));have bO:=η (λW (hW:β w W)=>(show W.cell? ⟨db,11,aB⟩=aC (aH Aw (aA D.who) cw) from(by rw [<-hv];exact(HF.o.below hW).cells.c11)));have JA:=η (λW (hW:β w W)=>(HF.o.below hW).cells.c10);have Kt:=η (λW (hW:β w W)=>aEq db p D W (HF.o.below hW) HP.o.ok HP.o.b0);have yE:=η (λW (hW:β w W)=>aMD p.xc p.xv D.bx s p.xb W (HF.o.below hW).bx (by have:=HP.o.ok.bl;omega) HP.o.xI);have LU:Hid (aL (jO D s)):=η (aKY _ _);have HR:Hid (∀Bs D',Fo D s Bs->D'=Jo D s Bs->J0 D s D'):=η (λBs D' h e=> .inr ⟨og.o,Bs,h,e⟩);have LY:Hid (aA D.who<=1000):=η (by have:=HP.o.ok.wl;omega);have KM:=LY.o;go_enter aB9,aBv
 go_upto_region 2 with (go_at_call 69;refine uy.o.mono ?_;rintro e w1 ⟨rfl,hb1⟩;have aR:=η hb1;clear hb1)
 have bP:β w w1.drew:=aR.o.drew;have hdd:=bO.o _ bP;clear uy aR;go_region_held3 (λW=>W.cell? ⟨db,11,aB⟩=aC (aH Aw (aA D.who) cw)) (first|(with_reducible assumption)) (first|(go_at_call 128;refine(Ci.o _ (by with_reducible assumption)).mono ?_;rintro e w2 ⟨P,rfl,mU,jZ,uZ,xU,FJ,hb2⟩;have dW:β w w2:=jy (by with_reducible assumption) (hb2.mono (gV (by with_reducible assumption)));have hcc:=bO.o _ dW)|(go_at_call 132;refine(aK5 P D.who Aw cw _ FJ (by rw [mU,pJ];simp only [bM];have:=HP.o.ml;omega) (pC.o _ dW) KM HP.o.wI).mono ?_;rintro e w3 ⟨rfl,hb3⟩;have Vt:=dW.trans (hb3.mono dW.size);have hc3:=bO.o _ Vt))
 all_goals
  rw [aK4 mU jZ uZ xU];have ag:=η Vt;generalize gH P D.who=me at*;clear mU jZ uZ xU FJ hb2 dW hcc hb3 Vt hc3 bP hdd Ci pC bO;have c10:=JA.o _ ag.o;have CQ:Hid (yP D+rC (ju D) D.who=yQ D):=η rfl;have z8:Hid (aL (yP D)):=η (aJ5 _ _);have JU:Hid (∀Bs,mZ Bs (jO D s) (yQ D)=mq D s Bs):=η (λ_=>rfl);have HNF:Hid (∀Bs,rY (mq D s Bs)-yP D=pI D s Bs):=η (λ_=>rfl);have HDF:Hid (∀Bs,Jo D s Bs=tQ s (ly D (pI D s Bs)) (mq D s Bs)):=η (λ_=>rfl);clear JA;generalize rC (ju D) D.who=rv at*;have rT:Hid (∀Bs,Fo D s Bs->aF.wrap (yP D+rv)=yQ D):=η (λBs h=>by rw [CQ.o];exact wF (EB.o Bs h).cI);go_upto_region 4 with (first|(go_at_call 134;refine(yE.o _ ag.o).mono ?_;rintro e w4 ⟨v4,is,rfl,WG,gG,hb4⟩;obtain⟨A4,k4,hv4⟩:=bL gG;subst hv4;have ar:=τ ag hb4;have iv:Hid (Fo D s (is.map λi=>(qP D.bx s).getD i ⟨0,0,0,0,0⟩)):=η ⟨is,WG,rfl⟩;have jS:=η (aW.cA gG);have nY:aA is=aA (is.map λi=>(qP D.bx s).getD i ⟨0,0,0,0,0⟩):=(by simp);clear gG hb4 WG yE;rw [nY];clear nY;generalize (is.map λi=>(qP D.bx s).getD i (⟨0,0,0,0,0⟩:Bd))=Bs at*;have dQ:=η (EB.o Bs iv.o))|(go_at_call 135;refine(Kt.o _ ar.o).mono ?_;rintro e w5 ⟨rfl,cd⟩;have cV:=τ ar cd;have Ck:=η ((jS.o.below cd).mono cd.size);have hwr:=rT.o Bs iv.o;clear cd ar jS)|(go_at_call 133;refine(aCn Bs A4 k4 (jO D s) (yQ D) _ Ck.o dQ.o.au LU.o dQ.o.cI dQ.o.bI).mono ?_;rintro e w6 ⟨v6,rfl,ye,iM⟩;obtain⟨A6,k6,hv6⟩:=bL ye;subst hv6;rw [JU.o] at ye ⊢;have gJ:=τ cV iM;have jh:=η (iJ.cA HF.o (iC ye cV.o.size));clear ye iM cV Ck hwr))
  clear ag c10;have Fx:=η dQ.o.fl;have gW:=Fx.o;have ZC:=η (λW (hW:β w W)=>VD db p D (pI D s Bs) W (HF.o.below hW) dQ.o.nI HP.o.ml HP.o.wI LY.o dQ.o.dO dQ.o.dI dQ.o.dl);have hwr:aF.wrap (rY (mq D s Bs)-yP D)=pI D s Bs:=wF dQ.o.nI;have HFO:=η dQ.o.fO;have JD:=η dQ.o.fI;have HSI:=η HP.o.sI;have pn:Hid (J0 D s (tQ s (ly D (pI D s Bs)) (mq D s Bs))):=η (HR.o Bs _ iv.o rfl);clear dQ iv HR EB LU CQ JU HDF z8 HNF;generalize pI D s Bs=bn at*;generalize mq D s Bs=L at*;generalize ly D bn=D1 at*;go_upto_region 5 with (first|(go_at_call 136;refine(aET L A6 k6 _ jh.o.dt (by have:=Fx.o;omega)).mono ?_;rintro e w7 ⟨rfl,fP⟩;have rH:=τ gJ fP;have rN:=η (jh.o.below fP);clear fP jh gJ)|(go_at_call 135;refine(Kt.o _ rH.o).mono ?_;rintro e w8 ⟨rfl,kF⟩;have lM:=τ rH kF;have uH:=η (rN.o.below kF);clear kF rN rH)|(go_at_call 65;refine(ZC.o _ lM.o).mono ?_;rintro e w9 ⟨rfl,h9⟩;obtain⟨p9,AE,FN⟩:=(cu.bZ HF.o lM.o).then h9;have sW:=η AE;have wW:=η (uH.o.step FN);clear h9 AE FN uH lM))
  clear ZC Kt hwr;have ie:Hid (aq db p9 (tQ s D1 (L.take 0)) w9 w9):=η (aq.refl sW.o.at);have BH:Hid (∀W D2,aq db p9 D2 w9 W->aW W W.heap.size A6 (BW L)):=η (λW D2 h=>by obtain⟨_,_,_,_,_,_,hu,_⟩:=h;exact hu.dt wW.o.dt wW.o.o);clear wW;go_wp2_with fail
  go_loopw [10,11,51] (λ_ _ i wr=>∃k:Nat,k<=aA L/\i=ν (k:Int)/\Hid (aq db p9 (tQ s D1 (L.take k)) w9 wr)) (λ_ _ i _=>aA L-(af i).toNat)
  case atStart=>exact⟨0,bK _,rfl,ie⟩
  case round=>
   clear ie;obtain⟨k,hk,rfl,LP⟩:=hrel;by_cases hlt:k<aA L
   ·obtain⟨bl,ol,jn,hbl,l0,l1,l2,l3,l4,l5,l6⟩:=a3I (BH.o _ _ LP.o) hlt;have eY:(0:Int)<=(k:Int):=by omega
    have hkb:(k:Int)<(aA L:Int):=by omega
    obtain⟨p1,h1,e1,e2,e3,e4,dA,hs1⟩:=LP.o;have HFk:=η h1;have mi:Hid (∀j,eW db p1 j->j<wr.heap.size):=η (λj hj=>h1.tW hj);have HT:Hid (∀W D2,aq db p1 D2 wr W->aq db p9 D2 w9 W):=η (λW D2 h=>aq.trans dA hs1 ⟨e1,e2,e3,e4⟩ h);have HL:=η (aFY (s:=s) (D:=D1) hlt);have TZ:=η (HFO.o k hk);obtain⟨qL,qM,ry,vX,WC⟩:=JD.o _ (cH hlt);clear h1 e1 e2 e3 e4 dA hs1 LP;subst jn;generalize tQ s D1 (L.take k)=E at*;generalize L[k]=x at*;obtain⟨⟨fs,fm,fe,fr,fp⟩,fq,fc⟩:=x;simp only at l0 l1 l2 l3 l4 l5 l6 qL qM ry vX WC;have oZ:=η (kX qL (kX qM (kX ry (kX vX WC))));have hwq:aF.wrap (-fq)= -fq:=wF (by unfold aL at qM ⊢;omega);have hwc:aF.wrap (-fc)= -fc:=wF (by unfold aL at ry ⊢;omega);have uw:Hid (Hi s E ⟨⟨fs,fm,fe,fr,fp⟩,fq,fc⟩= {E with l:=eT E (fN s ⟨⟨fs,fm,fe,fr,fp⟩,fq,fc⟩),log:=E.log++ [⟨12,fm,s,fq,fs⟩,⟨19,fm,0,fc,fs⟩]}):=η rfl;have ar:Hid (β wr (wr.alloc (aK #[ν fs,ν fm,ν fe,ν fr,ν fp,ν fq,ν fc] 208))):=η σ;have pD:Hid ((wr.alloc (aK #[ν fs,ν fm,ν fe,ν fr,ν fp,ν fq,ν fc] 208)).heap[wr.heap.size]? =aC (aK #[ν fs,ν fm,ν fe,ν fr,ν fp,ν fq,ν fc] 208 (0,0))):=η (cO wr _);have mW:wr.heap.size<(wr.alloc (aK #[ν fs,ν fm,ν fe,ν fr,ν fp,ν fq,ν fc] 208)).heap.size:=by simp
    clear qL qM ry vX WC;go_upto_region 8 with (fail)
    generalize wr.alloc (aK #[ν fs,ν fm,ν fe,ν fr,ν fp,ν fq,ν fc] 208)=w4 at*;obtain⟨bx,bU⟩:∃bx,bx=wr.heap.size:=⟨_,rfl⟩;have dL:=η bU;rw [<-bU] at pD mW ⊢;clear bU l0 l1 l2 l3 l4 l5 l6;have x1:w4.cell? ⟨bx,1,aB⟩=aC (ν fm):=ρ pD.o;go_upto_region 9 with (fail)
    clear x1;have lN:=η (HFk.o.below ar.o);have bX:Hid (¬eW db p1 bx):=η (λh=>by have:=mi.o bx h;rw [dL.o] at this;omega);have bO:Hid (∀W,β w4 W->W.cell? ⟨db,8,aB⟩=aC (π p1.vb)/\W.cell? ⟨bx,0,aB⟩=aC (ν fs)/\W.cell? ⟨bx,5,aB⟩=aC (ν fq)/\W.cell? ⟨bx,6,aB⟩=aC (ν fc)):=η (λW hW=>by have hd:=(hW.block bx mW).trans pD.o;exact⟨(lN.o.below hW).cells.c8,ρ hd,ρ hd,ρ hd⟩);have lj:Hid (∀W b,β w4 W->aW W W.heap.size (aC ⟨b,0,aB⟩) (qo (fN s ⟨⟨fs,fm,fe,fr,fp⟩,fq,fc⟩))->aQ aM 50 #[π p1.vb,aH (aC ⟨b,0,aB⟩) 4 4] W λe W'=>e=aT (ν (lZ (aA E.x.ms) (aA E.x.ss+1) E.l E.h (fN s ⟨⟨fs,fm,fe,fr,fp⟩,fq,fc⟩)))/\aq db p1 {E with l:=eT E (fN s ⟨⟨fs,fm,fe,fr,fp⟩,fq,fc⟩)} W W'/\W'.cell? ⟨db,8,aB⟩=aC (π p1.vb)/\W'.cell? ⟨bx,0,aB⟩=aC (ν fs)/\W'.cell? ⟨bx,5,aB⟩=aC (ν fq)/\W'.cell? ⟨bx,6,aB⟩=aC (ν fc)):=η (λW b hW nC=>by
     refine(YW p1.vb p1.vp (aA E.x.ms) (aA E.x.ss+1) (aA E.x.ms) E.l E.h (fN s ⟨⟨fs,fm,fe,fr,fp⟩,fq,fc⟩) (aC ⟨b,0,aB⟩) 4 W (lN.o.below hW).vt nC ?_ TZ.o.lI (by have:=TZ.o.hl;omega) (by simp [fN])).mono ?_
     ·have h2:=oZ.o;have h3:=HSI.o;intro y hy;simp only [fN,fE,List.not_mem_nil,or_false] at hy;rcases hy with rfl|rfl|rfl|rfl
      ·exact⟨(by decide:aL 7),h2.1,h3,(by have:=h2.2.1;have:=h2.2.2.2.1;unfold aL at*;simp only;omega)⟩
      ·exact⟨(by decide:aL 1),(by decide:aL 0),h3,h2.2.1⟩
      ·exact⟨(by decide:aL 1),(by decide:aL 0),(by decide:aL 0),(by have:=h2.2.2.1;have:=h2.2.2.2.2;unfold aL at*;simp only;omega)⟩
      exact⟨(by decide:aL 7),h2.1,(by decide:aL 0),h2.2.2.1⟩
     intro e W' h;obtain⟨q1,q2⟩:=(lN.o.below hW).moved h;have hz:=cP mW hW.size;obtain⟨_,r0,r1,r2⟩:=bO.o W hW;obtain⟨p3,H3,f1,f2,f3,f4,qN,hs3⟩:=q2;have Rk:aq db p1 {E with l:=eT E (fN s ⟨⟨fs,fm,fe,fr,fp⟩,fq,fc⟩)} W W':=⟨p3,H3,f1,f2,f3,f4,qN,hs3⟩;exact⟨q1,Rk,by rw [<-f1];exact H3.cells.c8,(Rk.cell 0 hz bX.o).trans r0,(Rk.cell 5 hz bX.o).trans r1,(Rk.cell 6 hz bX.o).trans r2⟩)
    have bP:β w4 w4.drew:=(aX _ _).drew;have hdd:=bO.o _ bP;go_region_held3 (λW=>W.cell? ⟨db,8,aB⟩=aC (π p1.vb)/\W.cell? ⟨bx,0,aB⟩=aC (ν fs)/\W.cell? ⟨bx,5,aB⟩=aC (ν fq)/\W.cell? ⟨bx,6,aB⟩=aC (ν fc)) (first|(with_reducible assumption)|(refine bO.o _ (rF (by with_reducible assumption) (gV (by with_reducible assumption)) _))) (first|(go_at_call 61;refine(xG _).mono ?_;rintro e w5 ⟨rfl,gF⟩;have qK:β w4 w5:=jy (by with_reducible assumption) (gF.mono (gV (by with_reducible assumption)));have hcc:=bO.o _ qK)|(go_at_call 49;refine(Ej fm _).mono ?_;rintro e w6 ⟨rfl,tR⟩;have xN:β w4 w6:=jy (by with_reducible assumption) (tR.mono (gV (by with_reducible assumption)));have qw:=bO.o _ xN)|(go_at_call 50;refine(lj.o _ _ (rF (by with_reducible assumption) (gV (by with_reducible assumption)) _) (a7I _ _ (qo (fN s ⟨⟨fs,fm,fe,fr,fp⟩,fq,fc⟩)))).mono ?_;rintro e w7 ⟨rfl,dF,AB⟩))
    all_goals
     have gC:Hid (aq db p1 {E with l:=eT E (fN s ⟨⟨fs,fm,fe,fr,fp⟩,fq,fc⟩)} wr w7):=η (aq.trans (bC.bZ _ (ar.o.trans (Below.mono (rF (by with_reducible assumption) (gV (by with_reducible assumption)) _) ar.o.size))) (λ_ h=> .inl h) ⟨rfl,rfl,rfl,rfl⟩ dF);obtain⟨_,m0,m1,m2⟩:=AB;have IU:bx<w7.heap.size:=World.block_lt_of_cell? _ _ m0;clear dF gF qK hcc tR xN qw bP hdd lj bO lN ar pD mW;obtain⟨p4,H4,e1,e2,e3,e4,qO,j6⟩:=gC.o;have kY:=η (H4.below ((aX w7.heap.size w7).alloc (aa _) (aK #[ν 12,ν fm,ν s,ν fq,ν fs,ν 19,ν fm,ν 0,ν fc,ν fs] 45)));have kZ:=η (xK db p4 {E with l:=eT E (fN s ⟨⟨fs,fm,fe,fr,fp⟩,fq,fc⟩)} [⟨12,fm,s,fq,fs⟩,⟨19,fm,0,fc,fs⟩] w7.heap.size 2 _ kY.o (dK w7 45 #[ν 12,ν fm,ν s,ν fq,ν fs,ν 19,ν fm,ν 0,ν fc,ν fs] rfl) (by simp) (by simp) (by have:=TZ.o.gl;simp only;omega));have pd:Hid (∀W,aq db p4 {E with l:=eT E (fN s ⟨⟨fs,fm,fe,fr,fp⟩,fq,fc⟩),log:=E.log++ [⟨12,fm,s,fq,fs⟩,⟨19,fm,0,fc,fs⟩]} (w7.alloc (aK #[ν 12,ν fm,ν s,ν fq,ν fs,ν 19,ν fm,ν 0,ν fc,ν fs] 45)) W->aq db p9 (tQ s D1 (L.take (k+1))) w9 W):=η (λW h=>by rw [HL.o,uw.o];exact HT.o W _ (aq.trans qO j6 ⟨e1,e2,e3,e4⟩ (aq.trans (bC.bZ _ σ) (λ_ h=> .inl h) ⟨rfl,rfl,rfl,rfl⟩ h)));clear H4 e1 e2 e3 e4 qO j6 gC;go_wp2_with (go_at_call 55;refine kZ.o.mono ?_;rintro e w8 ⟨rfl,h8⟩;have dw:=η (pd.o _ h8);clear h8)
     go_roundw
     case rel=>exact⟨k+1,by omega,by go_num,dw⟩
     case measure=>simp [af];omega
   obtain rfl:k=aA L:=by omega
   rw [cT] at LP;go_wp2_with fail
   go_end0
   obtain⟨pz,hqz,_⟩:=sW.o.then LP.o;exact⟨rfl,_,pn.o,hqz.p⟩
def Sj(w:aJ)(zs:List Int)(e:dU)(w':aJ):Prop:=∃A c,e=aT (aH A (aA zs) c)/\w'.ownsRow w.heap.size 3 1 (aH A (aA zs) c) (aA zs) (zs.map (aG aF))/\aY w.heap.size w w'
theorem a5z(zs:List Int)(A:Option aj)(c:Nat)(w:aJ)(h:aW w w.heap.size A (zs.map (aG aF)))(hl:aA zs<=1000000):
 aQ aM 179 #[aH A (aA zs) c] w (Sj w (r9 zs)):=by
 have HS:=η h;have HE:=η (show r9 zs=su (zs.mergeSort λx y=>decide (x<=y)) from rfl);rcases Nat.eq_zero_or_pos (aA zs) with h0|h0
 ·have hz:zs= []:=nO h0;subst hz;cases A with
  |none=>
   go_enter a0b,a0v
   go_wp2_with fail
   refine(slices_Clone_int_nil 0 c _).mono ?_;rintro e w1 ⟨rfl,rfl⟩;go_wp2_with fail
   refine(slices_Sort_int_none aB 0 _).mono ?_;rintro e w2 ⟨rfl,rfl⟩;go_wp2_with fail
   refine(slices_Compact_int_empty aB 0 _).mono ?_;rintro e w3 ⟨rfl,rfl⟩;go_wp2_with fail
   go_ret;exact⟨aB,0,by rw [RZ];rfl,by rw [RZ];exact fh _ _ _ _,aX _ _⟩
  |some a=>
   go_enter a0b,a0v
   go_wp2_with fail
   refine(slices_Clone_int_zero a c _).mono ?_;rintro e w1 ⟨v1,rfl,eK,_,hb1⟩;obtain⟨A1,c1,rfl⟩:=bL eK;have aR:=η hb1;have cF:=η eK;go_wp2_with fail
   refine(slices_Sort_int_none A1 c1 _).mono ?_;rintro e w2 ⟨rfl,rfl⟩;go_wp2_with fail
   refine(slices_Compact_int_empty A1 c1 _).mono ?_;rintro e w3 ⟨rfl,rfl⟩;go_wp2_with fail
   go_ret;exact⟨A1,c1,by rw [RZ];rfl,by rw [RZ];exact cF.o,aR.o⟩
 obtain⟨b,o,rfl,hb,_⟩:=tV HS.o h0;go_enter a0b,a0v
 go_wp2_with fail
 refine(slices_Clone_int b o (aA zs) c zs _ (aa _) (by omega) (Y3 HS.o)).mono ?_;rintro e w1 ⟨v1,rfl,eK,_,hb1⟩;rw [cT] at eK;obtain⟨g,cap,rfl,hg,hlt⟩:=eK.form h0;have cF:=η eK;have aR:=η hb1;have hz1:=hb1.size;clear eK hb1;go_wp2_with fail
 refine(aId zs g cap w.heap.size w _ hg cF.o hl aR.o hz1).mono ?_;rintro e w2 ⟨rfl,eU,hb2⟩;have ir:aA (zs.mergeSort λx y=>decide (x<=y))=aA zs:=List.length_mergeSort _;generalize (zs.mergeSort λx y=>decide (x<=y))=ms at*;rw [<-ir] at eU;have dE:=η eU;have aV:=η hb2;have hz2:=hb2.size;have aGh:aA ms<=1000000:=by omega
 clear eU hb2;rw [<-ir];clear ir;go_wp2_with fail
 refine(aEH ms g cap w.heap.size w _ hg dE.o aGh aV.o hz2).mono ?_;rintro e w3 ⟨rfl,j5,hb3⟩;have cD:=η j5;have ag:=η hb3;clear j5 hb3;go_wp2_with fail
 go_ret;rw [HE.o];exact⟨_,_,rfl,cD.o,ag.o⟩
theorem aFP(L:List Ob)(A:Option aj)(c:Nat)(w:aJ)(hs:aW w w.heap.size A (fK L))(hl:aA L<=1000000):
 aQ aM 121 #[aH A (aA L) c] w (Sj w (r9 ((L.filter λx=>x.st==1&&BV x).map (·.m)))):=by
 have HC:=η (aIq L A c BV w hs hl (λx W _=>aFO x W));have hDl:aA (L.filter λx=>x.st==1&&BV x)<=aA L:=qg _ _;obtain⟨i0,bu,hz0,ft,hz2⟩:=dJ RI;generalize hzs:r9 ((L.filter λx=>x.st==1&&BV x).map (·.m))=zs;have HZ:=η hzs;go_enter func121,ntmps121
 go_wp2_with fail
 refine HC.o.mono ?_;rintro e w1 ⟨v1,rfl,eK,hb1⟩;generalize (L.filter λx=>x.st==1&&BV x)=D at*;obtain⟨A1,c1,rfl⟩:=bL eK;have HS:=η (aW.cA eK);have aR:=η hb1;have hz1:=hb1.size;go_wp2_with fail
 go_loopw [3,5,9] (λu _ i wr=>∃k:Nat,k<=aA D/\i=ν k/\Hid (wr.ownsRow w1.heap.size 3 1 u (aA ((D.take k).map (·.m))) (((D.take k).map (·.m)).map (aG aF)))/\Hid (β w1 wr)) (λ_ _ i _=>aA D-(af i).toNat)
 case atStart=>exact⟨0,bK _,rfl,⟨by simp,aS ⟨rfl,rfl⟩⟩,aX _ _⟩
 case round=>
  obtain⟨k,hk,rfl,HO,HB⟩:=hrel;have hsz:=HB.o.size;by_cases hlt:k<aA D
  ·obtain⟨b,o,rfl,hb,d0,d1,d2,d3,d4,d5⟩:=vx (HS.o.below HB.o) hlt;have jQ:Hid ((D.take (k+1)).map (·.m)=(D.take k).map (·.m)++ [D[k].m]):=by show _=_;rw [fF hlt,dZ];rfl
   have Bi:aA ((D.take k).map (·.m))<=k:=by rw [iV];exact List.length_take_le _ _
   generalize (D.take k).map (·.m)=ys at*;go_wp2_with (at_builtin;refine iZ _ rfl _ _ 46 rfl w1.heap.size 3 i0 _ 1 8 yN bu hz0 ft hz2 rfl (by decide) _ (aA ys) (ys.map (aG aF)) rfl ((HO.o.alloc _).alloc _) ⟨wr.heap.size+1,0,aB⟩ 1 1 [ν D[k].m] rfl rfl ?c1 xh ?c3 ?c4 ?c5 ?_)
   case c1=>exact dK _ _ #[_] (by simp)
   case c3=>simp only [bM];omega
   case c4=>omega
   case c5=>simp;omega
   intro v' w4 hown1 dG _;have dP:Hid (w4.ownsRow w1.heap.size 3 1 v' (aA ((D.take (k+1)).map (·.m))) (((D.take (k+1)).map (·.m)).map (aG aF))):=by show kB _ _ _ _ _ _ _;rw [jQ.o,dZ,cN,uM];exact hown1
   have pg:Hid (β w1 w4):=((HB.o.alloc hsz _).alloc (by simp;omega) _).grown dG (by simp;omega) (λj hj=>eF HO.o j hj);go_wp2_with fail
   go_roundw
   case rel=>exact⟨k+1,by omega,by go_num,dP,pg⟩
   case measure=>simp [af];omega
  obtain rfl:k=aA D:=by omega
  have hO:=HO.o;rw [cT] at hO;have Bi:aA (D.map (·.m))<=aA D:=by rw [iV];exact aa _
  generalize D.map (·.m)=ys at*;obtain⟨A2,c2,rfl,hs2⟩:=Y4 hO rfl;have cM:=η hs2;have cC:Hid (β w wr):=aR.o.trans (HB.o.mono hz1);go_wp2_with fail
  refine(a5z ys A2 c2 _ cM.o (by omega)).mono ?_;rintro e w5 ⟨A5,c5,rfl,hs5,cd⟩;rw [HZ.o] at hs5 ⊢;have Ck:=η (iC hs5 cC.o.size);have cV:Hid (β w w5):=cC.o.trans (cd.mono cC.o.size);go_wp2_with fail
  go_ret;exact⟨A5,c5,rfl,Ck.o,cV.o⟩
theorem aHL(z1 z2:List Int)(A1 A2:Option aj)(c1 c2:Nat)(w:aJ)(h1:wx w A1 c1 z1)(h2:wx w A2 c2 z2)(oK:aA z1<=100000)(hl2:aA z2<=100000):
 aQ aM 122 #[aH A1 (aA z1) c1,aH A2 (aA z2) c2] w (Sj w (r9 (z1++z2))):=by
 have hb:β w (w.alloc (aK #[aH A1 (aA z1) c1,aH A2 (aA z2) c2] 46)):=(aX _ _).alloc (aa _) _;have HC:=η (aEN z1 z2 A1 A2 c1 c2 w.heap.size _ (h1.below hb) (h2.below hb) (by rw [cL _ _ _ _ rfl];rfl) (by rw [cL _ _ _ _ rfl];rfl) (by simp) oK hl2);have HB:=η hb;have kr:aA (z1++z2)<=1000000:=by rw [cN];omega
 generalize (z1++z2)=zs at*;go_enter func122,ntmps122
 go_wp2_with fail
 refine HC.o.mono ?_;rintro e w1 ⟨A3,c3,rfl,hs3,hb3⟩;have sY:=η hs3;have ag:Hid (β w w1):=HB.o.trans (hb3.mono (by simp));go_wp2_with fail
 refine(a5z zs A3 c3 _ sY.o kr).mono ?_;rintro e w2 ⟨A4,c4,rfl,j6,hb4⟩;have jS:=η (iC j6 ag.o.size);have ar:Hid (β w w2):=ag.o.trans (hb4.mono ag.o.size);go_wp2_with fail
 go_ret;exact⟨A4,c4,rfl,jS.o,ar.o⟩
def nV(x:Ob)(who:List Int):Int:=if x.st≠1 then x.st else if 0<x.az/\x.done=x.az then 2 else if 0<x.az then 3 else if x.az<0/\hasB who x.m=aO then 3 else x.st
def vQ(x:Ob)(who:List Int):Int:=if x.st≠1 then x.done else if 0<x.az/\x.done=x.az then x.done else if 0<x.az then x.done else if x.az<0/\hasB who x.m=aO then 0 else x.done
theorem Kh {k:IntKind} {a b c d:Int}(h:a=c)(h':b=d):aT (bB #[aG k a,aG k b])=aT (bB #[aG k c,aG k d]):=by rw [h,h']
theorem aFQ(x:Ob)(who:List Int)(A:Option aj)(c:Nat)(w:aJ)(hs:aW w w.heap.size A (who.map (aG aF)))(hl:aA who<=1000000):
 aQ aM 123 #[x.val,aH A (aA who) c] w λe w'=>e=aT (bB #[ν (nV x who),ν (vQ x who)])/\β w w':=by
 obtain⟨xc,xm,xa,xn,xd,xs⟩:=x;unfold Ob.val nV vQ;simp only;have hb0:β w (w.alloc (aK #[ν xc,ν xm,ν xa,ν xn,ν xd,ν xs] 59)):=(aX _ _).alloc (aa _) _;have cY:Hid ((w.alloc (aK #[ν xc,ν xm,ν xa,ν xn,ν xd,ν xs] 59)).heap[w.heap.size]? =aC (aK #[ν xc,ν xm,ν xa,ν xn,ν xd,ν xs] 59 (0,0))):=η (cO w _);have hz0:w.heap.size<(w.alloc (aK #[ν xc,ν xm,ν xa,ν xn,ν xd,ν xs] 59)).heap.size:=by simp
 have fL:=η (λW (hW:β w W)=>((hs.below hW).mono hW.size:aW W W.heap.size A (who.map (aG aF))));have yC:=η (λW (hW:β w W)=>Md who A c xm W (fL.o W hW) hl);have aZ:=η hb0;clear hs hb0;go_enter func123,ntmps123
 go_upto_region 1 with (fail)
 generalize w.alloc (aK #[ν xc,ν xm,ν xa,ν xn,ν xd,ν xs] 59)=w1 at*;obtain⟨bx,bU⟩:∃bx,bx=w.heap.size:=⟨_,rfl⟩;rw [<-bU] at cY hz0 ⊢;clear bU;have c1:w1.cell? ⟨bx,1,aB⟩=aC (ν xm):=ρ cY.o;have c3:w1.cell? ⟨bx,3,aB⟩=aC (ν xn):=ρ cY.o;have c4:w1.cell? ⟨bx,4,aB⟩=aC (ν xd):=ρ cY.o;have c5:w1.cell? ⟨bx,5,aB⟩=aC (ν xs):=ρ cY.o;clear cY;by_cases h1:xs=1
 case neg=>
  have hb:(xs==1)=aP:=by simpa using h1
  go_upto_region 8 with (fail)
  go_quiet (fail)
  go_wp2_with fail
  go_ret2;exact⟨Kh (by simp [h1]) (by simp [h1]),below_drewN aZ.o nq⟩
 subst h1;by_cases h2:0<xn
 ·have hg:decide (xn>0)=aO:=decide_eq_true h2;by_cases h3:xd=xn
  ·subst h3;go_upto_region 3 with (fail)
   go_quiet (fail)
   go_wp2_with fail
   go_ret2;exact⟨Kh (by simp [h2]) (by simp [h2]),below_drewN aZ.o nq⟩
  have hb:(xd==xn)=aP:=by simpa using h3
  go_upto_region 5 with (fail)
  go_quiet (fail)
  go_wp2_with fail
  go_ret2;exact⟨Kh (by simp [h2,h3]) (by simp [h2,h3]),below_drewN aZ.o nq⟩
 have hg:decide (xn>0)=aP:=decide_eq_false h2;by_cases h3:xn<0
 ·have hn:decide (xn<0)=aO:=decide_eq_true h3;have yB:=yC.o _ aZ.o;cases hh:hasB who xm
  ·rw [hh] at yB;have HH:=η yB;clear yB;go_upto_region 8 with (go_at_call 89;refine HH.o.mono ?_;rintro e w2 ⟨rfl,rfl⟩)
   go_quiet (fail)
   go_wp2_with fail
   go_ret2;exact⟨Kh (by simp [h2,h3,hh]) (by simp [h2,h3,hh]),below_drewN aZ.o nq⟩
  rw [hh] at yB;have HH:=η yB;clear yB;go_wp2_with (go_at_call 89;refine HH.o.mono ?_;rintro e w2 ⟨rfl,rfl⟩)
  go_ret2;exact⟨Kh (by simp [h2,h3,hh]) (by simp [h2,h3,hh]),aZ.o⟩
 have hn:decide (xn<0)=aP:=decide_eq_false h3;go_upto_region 8 with (fail)
 go_quiet (fail)
 go_wp2_with fail
 go_ret2;exact⟨Kh (by simp [h2,h3]) (by simp [h2,h3]),below_drewN aZ.o nq⟩
def tO(D:Dk):List Int:=r9 ((D.ob.filter λx=>x.st==1&&BV x).map (·.m))
def sN(D:Dk)(L:List Int):List Ev:=(L.filter λm=> !hasB D.who m).map λm=>⟨8,m,0,0,0⟩
def ui(D:Dk)(L:List Int):Dk:= {D with log:=D.log++sN D L}
theorem aJ3 {D:Dk} {L:List Int} {k:Nat}(h:k<aA L):sN D (L.take (k+1))=sN D (L.take k)++if hasB D.who L[k] then [] else [⟨8,L[k],0,0,0⟩]:=by rw [fF h];unfold sN;rw [List.filter_append,dZ,List.filter_cons];cases hasB D.who L[k]<;>simp
theorem aJ2(D:Dk)(L:List Int):aA (sN D L)<=aA L:=by unfold sN;rw [iV];exact qg _ _
def vz(D:Dk):Dk:= {D with log:=D.log++sN D (tO D),who:=r9 (D.who++tO D)}
def yR(D:Dk)(x:Ob):Dk:=
 if x.st≠1 then D else if nV x D.who=1 then D else
 if x.az<0 then {D with ob:=lW x.m x.a (nV x D.who) (vQ x D.who) D.ob,log:=D.log++ [⟨9,x.m,x.a,-x.az,0⟩]} else {D with ob:=lW x.m x.a (nV x D.who) (vQ x D.who) D.ob}
def uR(D:Dk)(L:List Ob):Dk:=L.foldl yR D
def qj(D:Dk):Dk:=uR (vz D) D.ob
theorem aEA {D:Dk} {L:List Ob} {k:Nat}(h:k<aA L):uR D (L.take (k+1))=yR (uR D (L.take k)) L[k]:=by rw [fF h];unfold uR;rw [List.foldl_append];rfl
theorem bW.aLn {w w1:aJ} {db:Nat} {p:Dp} {D:Dk} {v:aN} {L:List Int}(H:bW w db p D)(hb:aY w.heap.size w w1)(ho:w1.ownsRow w.heap.size 3 1 v (aA L) (L.map (aG aF))):cu db p {p with wv:=v} {D with who:=L} w (w1.setCell ⟨db,11,aB⟩ v):=by
 have H1:=H.below hb;refine⟨H1.Ph 11 v rfl rfl rfl rfl rfl rfl ⟨rfl,rfl,rfl,rfl,rfl,rfl,rfl⟩ (iC ho (bK _)) H1.log,rfl,rfl,rfl,rfl,(bC.bZ _ hb).setCell (p:=⟨db,11,aB⟩) (.inl (.inl rfl)) _, ?_⟩;rintro k (e|e|e|e|e|e)
 ·exact .inl (.inl e)
 ·exact .inl (.inr (.inl e))
 ·exact .inl (.inr (.inr (.inl e)))
 ·exact .inl (.inr (.inr (.inr (.inl e))))
 ·exact .inr (ho.lt k e).1
 exact .inl (.inr (.inr (.inr (.inr (.inr e)))))
structure Sh(D:Dk):Prop where
 ok:fY D
 fl:aA (tO D)<=2000
 all:∀k,k<=aA D.ob->fY (uR (vz D) (D.ob.take k))
theorem aEs(db:Nat)(p:Dp)(D:Dk)(w:aJ)(H:bW w db p D)(P:Sh D):
 aQ aM 62 #[π db] w λe w'=>e=aT (bB #[])/\aq db p (qj D) w w':=by
 have HF:=η H;have HP:=η P;have ky:aA D.ob<=1024:=P.ok.ob.len;have c9:=H.cells.c9;have Ah:=η (λW p' D' (h:bW W db p' D') (he:D'.ob=D.ob)=>(he▸KW D'.ob p'.sv p'.sb 0 W h.sh (by rw [he];omega):aQ aM 43 #[π p'.sb] W (yy W D.ob)));have L3:=η (λW A c (hs:aW W W.heap.size A (fK D.ob))=>aFP D.ob A c W hs (by omega));have hfe:r9 ((D.ob.filter λx=>x.st==1&&BV x).map (·.m))=tO D:=rfl;rw [hfe] at L3;have mH:=η P.fl;have LY:Hid (aA D.who<=100):=η P.ok.wl;have B7:Hid (aA D.log<=90000):=η P.ok.gl;have EN:=η ky;have hCE:qj D=uR (vz D) D.ob:=rfl;have hWE:vz D= {D with log:=D.log++sN D (tO D),who:=r9 (D.who++tO D)}:=rfl;have CQ:=η hCE;have HWE:=η hWE;generalize qj D=R at*;go_enter func62,ntmps62
 go_upto_region 1 with (first|(go_at_call 43;refine(Ah.o _ p D HF.o rfl).mono ?_;rintro e w1 ⟨v1,rfl,eK,hb1⟩;obtain⟨A1,k1,AJ⟩:=bL eK;subst AJ;have cX:=η (aW.cA eK);have aR:=η hb1)|(go_at_call 121;refine(L3.o _ A1 k1 cX.o).mono ?_;rintro e w2 ⟨A2,k2,rfl,eU,hb2⟩;have aV:=τ aR hb2;have dE:=η (iJ.cA HF.o (iC eU aR.o.size));have qR:=η (Ic eU)))
 generalize tO D=F at*;have ie:Hid (cu db p p (ui D (F.take 0)) w w2):=η (by
  have e:ui D (F.take 0)=D:=by unfold ui sN;simp
  rw [e];exact cu.bZ HF.o aV.o)
 have Tf:=η dE.o;have gW:aA F<=2000:=mH.o;go_upto_region 2 with (fail)
 go_loopw [4,17] (λ_ i wr=>∃(k:Nat) (pk:Dp),k<=aA F/\i=ν (k:Int)/\Hid (cu db p pk (ui D (F.take k)) w wr)/\Hid (iJ db pk wr A2 (F.map (aG aF)))) (λ_ i _=>aA F-(af i).toNat)
 case atStart=>exact⟨0,p,bK _,rfl,ie,Tf⟩
 case round=>
  obtain⟨k,pk,hk,rfl,HQ,HO⟩:=hrel;by_cases hlt:k<aA F
  ·obtain⟨bl,ol,jn,hbl,hF⟩:=HO.o.dt.at (k:=k) (by simpa using hlt);rw [wk] at hF;have eY:(0:Int)<=(k:Int):=by omega
   have hkb:(k:Int)<(aA F:Int):=by omega
   have cG:=η (aJ3 (D:=D) hlt);have kr:aA (D.log++sN D (F.take k))<=100000:=by have h1:=aJ2 D (F.take k);have h3:=B7.o;rw [cN];have h4:aA (F.take k)<=aA F:=List.length_take_le' _ _;omega
   have a9O:=η kr;have HE:Hid (ui D (F.take k)= {D with log:=D.log++sN D (F.take k)}):=η rfl;have mh:Hid (ui D (F.take (k+1))= {D with log:=D.log++sN D (F.take (k+1))}):=η rfl;obtain⟨Aw,cw,hv⟩:=bL HQ.o.at.who;have c11:=HQ.o.at.cells.c11;rw [hv] at c11;have pC:Hid (aW wr wr.heap.size Aw (D.who.map (aG aF))):=η (by have h1:=HQ.o.at.who;rw [hv] at h1;exact aW.cA h1);have yC:=η (Md D.who Aw cw F[k] wr pC.o (by have:=LY.o;omega));have Qy:(ui D (F.take k)).who=D.who:=rfl;rw [Qy] at c11;subst jn;generalize F[k]=m at*;cases hh:hasB D.who m with
   |true=>
    rw [hh] at yC;have T9:Hid (ui D (F.take (k+1))=ui D (F.take k)):=η (by rw [mh.o,HE.o,cG.o,hh];simp);go_wp2_with (go_at_call 89;refine yC.o.mono ?_;rintro e w4 ⟨rfl,rfl⟩)
    go_roundw
    case rel=>exact⟨k+1,pk,by omega,by go_num,η (by rw [T9.o];exact HQ.o),HO⟩
    case measure=>simp [af];omega
   |false=>
    rw [hh] at yC;have T9:Hid (ui D (F.take (k+1))= {ui D (F.take k) with log:=(ui D (F.take k)).log++ [⟨8,m,0,0,0⟩]}):=η (by rw [mh.o,HE.o,cG.o,hh];simp);have kG:(ui D (F.take k)).log.length<=100000:=a9O.o;have a9I:=η kG;have kY:=η (HQ.o.at.below ((aX wr.heap.size wr).alloc (aa _) (aK #[ν 8,ν m,ν 0,ν 0,ν 0] 45)));have kZ:=η (xK db pk (ui D (F.take k)) [⟨8,m,0,0,0⟩] wr.heap.size 1 _ kY.o (dK wr 45 #[ν 8,ν m,ν 0,ν 0,ν 0] rfl) (by simp) (by simp) (by have:=a9I.o;omega));have qW:=η (HQ.o.below ((aX wr.heap.size wr).alloc (aa _) (aK #[ν 8,ν m,ν 0,ν 0,ν 0] 45)));have rN:=η (HO.o.below ((aX wr.heap.size wr).alloc (aa _) (aK #[ν 8,ν m,ν 0,ν 0,ν 0] 45)));go_wp2_with (first|(go_at_call 89;refine yC.o.mono ?_;rintro e w4 ⟨rfl,rfl⟩)|(go_at_call 55;refine kZ.o.mono ?_;rintro e w8 ⟨rfl,h8⟩;obtain⟨p8,Qm,Qo⟩:=qW.o.then h8;have oz:=η Qm;have uH:=η (rN.o.step Qo)))
    go_roundw
    case rel=>exact⟨k+1,p8,by omega,by go_num,η (by rw [T9.o];exact oz.o),uH⟩
    case measure=>simp [af];omega
  obtain rfl:k=aA F:=by omega
  rw [cT] at HQ;obtain⟨Aw,cw,hv⟩:=bL HQ.o.at.who;have Qy:(ui D F).who=D.who:=rfl;have c11:=HQ.o.at.cells.c11;rw [hv,Qy] at c11;have pC:Hid (wx wr Aw cw D.who):=η (by have h1:=HQ.o.at.who;rw [hv,Qy] at h1;exact⟨aW.cA h1,λh=>⟨nO (Ic h1 h).1,(Ic h1 h).2⟩⟩);have CV:Hid (wx wr A2 k2 F):=η ⟨HO.o.dt,λh=>⟨nO (qR.o h).1,(qR.o h).2⟩⟩;have OI:=η (aHL D.who F Aw A2 cw k2 wr pC.o CV.o (by have:=LY.o;omega) (by have:=mH.o;omega));have Da:∀W,β wr W->W.frozen? ⟨db,11,aB⟩=aP:=λW hW=>by have hb:=(hW.block db HQ.o.at.lt).trans HQ.o.at.blk;simp [iK,hb]
  have jY:∀W,β wr W->W.cell? ⟨db,11,aB⟩=aC (aH Aw (aA D.who) cw):=λW hW=>(hW.cell (p:=⟨db,11,aB⟩) HQ.o.at.lt).trans c11
  have wR:=η Da;have nz:=η jY;go_upto_region 8 with (go_at_call 122;refine OI.o.mono ?_;rintro e w3 ⟨A3,k3,rfl,j5,hb3⟩;have TN:=η j5;have ag:=η hb3;have f11:=wR.o _ hb3;have d11:=nz.o _ hb3)
  have JR:Hid (cu db p _ (vz D) w (w3.setCell ⟨db,11,aB⟩ (aH A3 (aA (r9 (D.who++F))) k3))):=η (by have h1:=HQ.o.trans (HQ.o.at.aLn ag.o TN.o);rw [HWE.o];exact h1);generalize (w3.setCell ⟨db,11,aB⟩ (aH A3 (aA (r9 (D.who++F))) k3))=w4 at*;obtain⟨p3,pj⟩:∃p3,Hid (cu db p p3 (vz D) w w4):=⟨_,JR⟩;have hoe:(vz D).ob=D.ob:=rfl;have Zl:=η hoe;clear hoe;have d9:=pj.o.at.cells.c9;have aGn:aA D.ob<=1024:=EN.o;have EB:Hid (∀k,k<=aA D.ob->fY (uR (vz D) (D.ob.take k))):=η HP.o.all;have Ot:Hid (∀x∈D.ob,aL x.az/\fw<x.az):=η (λx hx=>by have h:=HP.o.ok.ob.each x hx;have h1:=h.lo;have h2:=h.hi;unfold fw at h1;unfold aL fw;omega);clear HP HWE;go_upto_region 9 with (go_at_call 43;refine(Ah.o _ p3 (vz D) pj.o.at Zl.o).mono ?_;rintro e w5 ⟨v5,rfl,iW,cd⟩;obtain⟨A5,k5,N6⟩:=bL iW;subst N6;have ez:=η (iJ.cA pj.o.at iW);have ou:=η (pj.o.below cd);clear iW cd)
  clear pj d9 Ah Zl;generalize vz D=E0 at*;generalize D.ob=L at*;have o6:Hid (cu db p p3 (uR E0 (L.take 0)) w w5):=η ou.o;clear ou;go_loopw [6,7,8,49] (λ_ _ _ i wr=>∃(k:Nat) (pk:Dp),k<=aA L/\i=ν (k:Int)/\Hid (cu db p pk (uR E0 (L.take k)) w wr)/\Hid (iJ db pk wr A5 (fK L))) (λ_ _ _ i _=>aA L-(af i).toNat)
  case atStart=>exact⟨0,p3,bK _,rfl,o6,ez⟩
  case round=>
   clear o6 ez;obtain⟨k,pk,hk,rfl,HQ,HO⟩:=hrel;by_cases hlt:k<aA L
   ·obtain⟨bl,ol,jn,hbl,l0,l1,l2,l3,l4,l5⟩:=vx HO.o.dt hlt;have eY:(0:Int)<=(k:Int):=by omega
    have hkb:(k:Int)<(aA L:Int):=by omega
    have HL:=η (aEA (D:=E0) hlt);have dQ:=η (EB.o k hk);have HXN:Hid (aL (L[k].az)/\fw<L[k].az):=η (Ot.o _ (cH hlt));have mi:Hid (∀j,eW db pk j->j<wr.heap.size):=η (λj hj=>HQ.o.at.tW hj);subst jn;generalize uR E0 (L.take k)=E at*;generalize L[k]=x at*;obtain⟨xc,xm,xa,xn,xd,xs⟩:=x;simp only at l0 l1 l2 l3 l4 l5;have gJ:Hid (β wr (wr.alloc (aK #[ν xc,ν xm,ν xa,ν xn,ν xd,ν xs] 59))):=η σ;have qZ:Hid ((wr.alloc (aK #[ν xc,ν xm,ν xa,ν xn,ν xd,ν xs] 59)).heap[wr.heap.size]? =aC (aK #[ν xc,ν xm,ν xa,ν xn,ν xd,ν xs] 59 (0,0))):=η (cO wr _);have vr:wr.heap.size<(wr.alloc (aK #[ν xc,ν xm,ν xa,ν xn,ν xd,ν xs] 59)).heap.size:=by simp
    go_upto_region 11 with (fail)
    generalize wr.alloc (aK #[ν xc,ν xm,ν xa,ν xn,ν xd,ν xs] 59)=w6 at*;obtain⟨bx,bU⟩:∃bx,bx=wr.heap.size:=⟨_,rfl⟩;have dL:=η bU;rw [<-bU] at qZ vr ⊢;clear bU l0 l1 l2 l3 l4 l5;have L0:=η (HQ.o.at.below gJ.o);have bX:Hid (¬eW db pk bx):=η (λh=>by have:=mi.o bx h;rw [dL.o] at this;omega);obtain⟨E7,Gz,hv⟩:=bL L0.o.who;have pC:Hid (∀W,β w6 W->aW W W.heap.size E7 (E.who.map (aG aF))):=η (λW hW=>by have h1:=(L0.o.below hW).who;rw [hv] at h1;exact aW.cA h1);have ZJ:Hid (∀W,β w6 W->aQ aM 123 #[bQ #[ν xc,ν xm,ν xa,ν xn,ν xd,ν xs],aH E7 (aA E.who) Gz] W λe w'=>e=aT (bB #[ν (nV ⟨xc,xm,xa,xn,xd,xs⟩ E.who),ν (vQ ⟨xc,xm,xa,xn,xd,xs⟩ E.who)])/\β W w'):=η (λW hW=>aFQ ⟨xc,xm,xa,xn,xd,xs⟩ E.who E7 Gz W (pC.o W hW) (by have:=dQ.o.wl;omega));have zM:Hid (∀W,β w6 W->W.cell? ⟨db,11,aB⟩=aC (aH E7 (aA E.who) Gz)/\W.cell? ⟨bx,0,aB⟩=aC (ν xc)/\W.cell? ⟨bx,1,aB⟩=aC (ν xm)/\W.cell? ⟨bx,2,aB⟩=aC (ν xa)/\W.cell? ⟨bx,3,aB⟩=aC (ν xn)/\W.cell? ⟨bx,4,aB⟩=aC (ν xd)/\W.cell? ⟨bx,5,aB⟩=aC (ν xs)):=η (λW hW=>by have hd:=(hW.block bx vr).trans qZ.o;exact⟨by rw [<-hv];exact(L0.o.below hW).cells.c11,ρ hd,ρ hd,ρ hd,ρ hd,ρ hd,ρ hd⟩);have nz:Hid (yR E ⟨xc,xm,xa,xn,xd,xs⟩=if xs≠1 then E else if nV ⟨xc,xm,xa,xn,xd,xs⟩ E.who=1 then E else if xn<0 then {E with ob:=lW xm xa (nV ⟨xc,xm,xa,xn,xd,xs⟩ E.who) (vQ ⟨xc,xm,xa,xn,xd,xs⟩ E.who) E.ob,log:=E.log++ [⟨9,xm,xa,-xn,0⟩]} else {E with ob:=lW xm xa (nV ⟨xc,xm,xa,xn,xd,xs⟩ E.who) (vQ ⟨xc,xm,xa,xn,xd,xs⟩ E.who) E.ob}):=η rfl;clear hv pC;generalize nV ⟨xc,xm,xa,xn,xd,xs⟩ E.who=fs at*;generalize vQ ⟨xc,xm,xa,xn,xd,xs⟩ E.who=fn at*;have bP:β w6 w6.drew:=(aX _ _).drew;have hdd:=zM.o _ bP;go_region_held3 (λW=>W.cell? ⟨db,11,aB⟩=aC (aH E7 (aA E.who) Gz)/\W.cell? ⟨bx,0,aB⟩=aC (ν xc)/\W.cell? ⟨bx,1,aB⟩=aC (ν xm)/\W.cell? ⟨bx,2,aB⟩=aC (ν xa)/\W.cell? ⟨bx,3,aB⟩=aC (ν xn)/\W.cell? ⟨bx,4,aB⟩=aC (ν xd)/\W.cell? ⟨bx,5,aB⟩=aC (ν xs)) (first|(with_reducible assumption)) ((go_at_call 123;refine(ZJ.o _ (by with_reducible assumption)).mono ?_;rintro e w7 ⟨rfl,fP⟩;have dW:β w6 w7:=jy (by with_reducible assumption) (fP.mono (gV (by with_reducible assumption)));have hcc:=zM.o _ dW))
    have rH:=η dW;obtain⟨_,_,e1,e2,e3,_,e5⟩:=hcc;have IU:=cP vr dW.size;clear fP dW bP hdd ZJ;have cC:Hid (β wr w7):=η (gJ.o.trans (rH.o.mono gJ.o.size));by_cases h1:xs=1
    case neg=>
     have hb:(xs==1)=aP:=by simpa using h1
     rw [ifP h1] at nz;clear h1 zM;go_wp2_with fail
     go_roundw
     case rel=>exact⟨k+1,pk,by omega,by go_num,η (by rw [HL.o,nz.o];exact HQ.o.below cC.o),η (HO.o.below cC.o)⟩
     case measure=>simp [af];omega
    subst h1;rw [ifN (by simp)] at nz;by_cases h2:fs=1
    ·subst h2;rw [ifP rfl] at nz;clear zM;go_wp2_with fail
     go_roundw
     case rel=>exact⟨k+1,pk,by omega,by go_num,η (by rw [HL.o,nz.o];exact HQ.o.below cC.o),η (HO.o.below cC.o)⟩
     case measure=>simp [af];omega
    have hb2:(fs==1)=aP:=by simpa using h2
    rw [ifN h2] at nz
    skip
    have O7:=η (L0.o.below rH.o);have Tp:Hid (∀W,β w7 W->W.cell? ⟨db,9,aB⟩=aC (π pk.sb)/\W.cell? ⟨bx,1,aB⟩=aC (ν xm)/\W.cell? ⟨bx,2,aB⟩=aC (ν xa)/\W.cell? ⟨bx,3,aB⟩=aC (ν xn)):=η (λW hW=>by obtain⟨_,_,r1,r2,r3,_,_⟩:=zM.o W (rH.o.trans (hW.mono rH.o.size));exact⟨(O7.o.below hW).cells.c9,r1,r2,r3⟩);have rL:Hid (∀W,β w7 W->aQ aM 124 #[π pk.sb,ν xm,ν xa,ν fs,ν fn] W λe W'=>e=aT (ν (vw xm xa fs fn E.ob))/\aq db pk {E with ob:=lW xm xa fs fn E.ob} W W'/\W'.cell? ⟨db,9,aB⟩=aC (π pk.sb)/\W'.cell? ⟨bx,1,aB⟩=aC (ν xm)/\W'.cell? ⟨bx,2,aB⟩=aC (ν xa)/\W'.cell? ⟨bx,3,aB⟩=aC (ν xn)):=η (λW hW=>by refine(NR E.ob xm xa fs fn pk.sv pk.sb 0 W (O7.o.below hW).sh dQ.o.ob).mono ?_;intro e W' h;obtain⟨q1,q2⟩:=(O7.o.below hW).Fh h;have hz:=cP IU hW.size;obtain⟨_,r1,r2,r3⟩:=Tp.o W hW;exact⟨q1,q2,q2.c9,(q2.cell 1 hz bX.o).trans r1,(q2.cell 2 hz bX.o).trans r2,(q2.cell 3 hz bX.o).trans r3⟩);have L5:Hid (aA E.log<=90000):=η dQ.o.gl;clear zM L0 dQ;generalize lW xm xa fs fn E.ob=ob2 at*;generalize vw xm xa fs fn E.ob=me at*;go_upto_region 13 with (fail)
    have bP:β w7 w7.drew:=(aX _ _).drew;have hdd:=Tp.o _ bP;clear e1 e2 e3 e5;go_region_held3 (λW=>W.cell? ⟨db,9,aB⟩=aC (π pk.sb)/\W.cell? ⟨bx,1,aB⟩=aC (ν xm)/\W.cell? ⟨bx,2,aB⟩=aC (ν xa)/\W.cell? ⟨bx,3,aB⟩=aC (ν xn)) (first|(with_reducible assumption)) ((go_at_call 124;refine(rL.o _ (by with_reducible assumption)).mono ?_;rintro e w8 ⟨rfl,dF,AB⟩))
    have dw:Hid (aq db pk {E with ob:=ob2} wr w8):=η (aq.trans (bC.bZ _ (cC.o.trans (bP.mono cC.o.size))) (λ_ h=> .inl h) ⟨rfl,rfl,rfl,rfl⟩ dF);obtain⟨_,m1,m2,m3⟩:=AB;clear dF bP hdd rL Tp O7;obtain⟨p8,Qm,Qo⟩:=HQ.o.then dw.o;have oz:=η Qm;have uH:=η (HO.o.step Qo);clear Qm Qo dw HQ HO;by_cases h3:xn<0
    ·have hn:decide (xn<0)=aO:=decide_eq_true h3;rw [ifP h3] at nz;have hwn:aF.wrap (-xn)= -xn:=wF (by have h:=HXN.o;(try simp only at h);unfold fw aL at*;omega);have kY:=η (oz.o.at.below ((aX w8.heap.size w8).alloc (aa _) (aK #[ν 9,ν xm,ν xa,ν (-xn),ν 0] 45)));have kZ:=η (xK db p8 {E with ob:=ob2} [⟨9,xm,xa,-xn,0⟩] w8.heap.size 1 _ kY.o (dK w8 45 #[ν 9,ν xm,ν xa,ν (-xn),ν 0] rfl) (by simp) (by simp) (by have:=L5.o;simp only;omega));have sW:=η (oz.o.below ((aX w8.heap.size w8).alloc (aa _) (aK #[ν 9,ν xm,ν xa,ν (-xn),ν 0] 45)));have wW:=η (uH.o.below ((aX w8.heap.size w8).alloc (aa _) (aK #[ν 9,ν xm,ν xa,ν (-xn),ν 0] 45)));clear oz uH kY;go_wp2_with (go_at_call 55;refine kZ.o.mono ?_;rintro e w9 ⟨rfl,h9⟩;obtain⟨p9,AE,FN⟩:=sW.o.then h9;have lS:=η AE;have HOA:=η (wW.o.step FN);clear h9 AE FN)
     go_roundw
     case rel=>exact⟨k+1,p9,by omega,by go_num,η (by rw [HL.o,nz.o];exact lS.o),HOA⟩
     case measure=>simp [af];omega
    have hn:decide (xn<0)=aP:=decide_eq_false h3;rw [ifN h3] at nz;go_wp2_with fail
    go_roundw
    case rel=>exact⟨k+1,p8,by omega,by go_num,η (by rw [HL.o,nz.o];exact oz.o),uH⟩
    case measure=>simp [af];omega
   obtain rfl:k=aA L:=by omega
   rw [cT] at HQ;go_wp2_with fail
   go_end0
   rw [CQ.o];exact⟨rfl,HQ.o.p⟩
theorem bW.held {w w':aJ} {db:Nat} {p:Dp} {D:Dk} {h':List Hr} {e:dU}(H:bW w db p D)(h:Lu p.vb p.vp (aA D.x.ms) (aA D.x.ss+1) (aA D.x.ms) D.l h' w e w'):e=aT (aG aF 0)/\aq db p {D with h:=h'} w w':=by
 obtain⟨tv,rfl,hv,hu,hs⟩:=h;refine⟨rfl, {p with vp:= {p.vp with tv:=tv}},H.a8M hu hv,rfl,rfl,rfl,rfl,hu.mono (λk hk=> .inl (.inr (.inl hk))), ?_⟩;rintro k (e|(e|e|e|e|e)|e|e|e|e)
 ·exact .inl (.inl e)
 ·exact .inl (.inr (.inl (.inl e)))
 ·exact .inl (.inr (.inl (.inr (.inl e))))
 ·exact .inl (.inr (.inl (.inr (.inr (.inl e)))))
 ·exact .inl (.inr (.inl (.inr (.inr (.inr (.inl e))))))
 ·exact(hs k e).imp (λh=> .inr (.inl (.inr (.inr (.inr (.inr h)))))) id
 ·exact .inl (.inr (.inr (.inl e)))
 ·exact .inl (.inr (.inr (.inr (.inl e))))
 ·exact .inl (.inr (.inr (.inr (.inr (.inl e)))))
 exact .inl (.inr (.inr (.inr (.inr (.inr e)))))
theorem bW.S5 {w:aJ} {db:Nat} {p:Dp} {D:Dk}(H:bW w db p D)(s:Int):cu db p p {D with st:=s} w (w.setCell ⟨db,13,aB⟩ (aG aF s)):=
 ⟨H.Ph 13 (ν s) rfl rfl rfl rfl rfl rfl ⟨rfl,rfl,rfl,rfl,rfl,rfl,rfl⟩ H.who H.log,rfl,rfl,rfl,rfl,(bC.refl _ _).setCell (p:=⟨db,13,aB⟩) (.inl (.inl rfl)) _,λ_ h=> .inl h⟩
theorem aLg(vb:Nat)(p:Vp)(M A:Nat)(room:Int)(l:List Int)(h:List Hr)(k:Nat)(hk:k<aA h)(w:aJ)(H:gS w vb p M A room l (h.drop k))(hl:aA h<=99999)(hu:qC h):
 aQ aM 64 #[π vb,ν (h[k]).i] w (Lu vb p M A room l (h.drop (k+1)) w):=by
 rw [Jd hk] at H;refine aLh vb p M A room l h[k] (h.drop (k+1)) w H (by rw [List.length_drop];omega) ?_;rw [<-Jd hk];exact aMT (List.drop_sublist k h) hu
def gT(D:Dk):Dk:= {qj D with h:= []}
def uT(D:Dk):Int:=KQ (gT D) (iY (di (gT D) 0))
def oH(D:Dk):Dk:= {ly (gT D) (uT D) with st:=2}
def Pv(D:Dk):Bool:=(dR (oH D).x.ss.length).any λ(s:Nat)=>decide (jO (oH D) ((s:Int)+1)>0)
def He(D:Dk):Bool:=if D.st=1 then Pv D else aP
def Hc(D:Dk):Int:=if D.st=1 then 0 else 11
def DM(D:Dk):Dk:=if D.st=1 then oH D else D
structure Si(D:Dk):Prop where
 cl:Sh D
 up:qC (qj D).h
 Kb:fY (gT D)
 b0:aL (balA (gT D).x.ms.length ((gT D).x.ss.length+1) (gT D).l 1 0 0)
 ml:(gT D).x.ms.length<=100000
 wI:∀x∈(gT D).who,aL x
 nI:aL (uT D)
 dO:∀k,k<=aA (iF (gT D) (uT D))->fY (oG (gT D) ((iF (gT D) (uT D)).take k))
 dI:∀x∈iF (gT D) (uT D),aL x.k/\aL x.m/\aL x.n/\0<=x.n
 dl:aA (iF (gT D) (uT D))<=100000
 ok4:fY (oH D)
 sl:(oH D).x.ss.length<=100000
 bS:∀s:Nat,s<(oH D).x.ss.length->aL (balA (oH D).x.ms.length ((oH D).x.ss.length+1) (oH D).l 1 0 ((s:Int)+1))
theorem a1f {f:Nat->Bool} {n k:Nat}(hk:k<n)(h:f k=aO):(dR n).any f=aO:=kA.2 ⟨k,nP.2 hk,h⟩
theorem a1g {f:Nat->Bool} {n:Nat}(h:∀k,k<n->f k=aP):(dR n).any f=aP:=by rw [zQ];intro k hk;rw [h k (nP.1 hk)];decide
theorem a6p {b c:Bool} {a d:Int}(h:b=c)(h':a=d):aT (bB #[bJ b,aG aF a])=aT (bB #[bJ c,aG aF d]):=by rw [h,h']
theorem a2Y(db:Nat)(p:Dp)(D:Dk)(w:aJ)(H:bW w db p D)(hP:D.st=1->Si D):
 aQ aM 28 #[π db] w λe w'=>e=aT (bB #[bJ (He D),ν (Hc D)])/\aq db p (DM D) w w':=by
 have hb0:β w (w.alloc (aK #[ν 1] 3)):=(aX _ _).alloc (aa _) _;have jR:=η (Ju db p D 1 (aC ⟨w.heap.size,0,aB⟩) 1 _ (H.below hb0) (λj u hu=>⟨w.heap.size,0,rfl,by simp,by
  match j,hu with
  |0,hu=>exact(cL w #[ν 1] 3 0 rfl).trans (by simpa using hu)
  |j+1,hu=>simp at hu⟩))
 have HF:=η H;have aZ:=η hb0;by_cases h1:D.st=1
 case neg=>
  have e1:He D=aP:=by unfold He;rw [ifN h1]
  have e2:Hc D=11:=by unfold Hc;rw [ifN h1]
  have e3:DM D=D:=by unfold DM;rw [ifN h1]
  rw [ifN h1] at jR;rw [e1,e2,e3];go_enter aAy,aBk
  go_wp2_with (go_at_call 51;refine κ jR.o aZ λw1 aR=> ?_)
  go_ret2;exact⟨rfl,aq.bZ HF.o aR.o⟩
 have HP:=η (hP h1);have e1:He D=Pv D:=by unfold He;rw [ifP h1]
 have e2:Hc D=0:=by unfold Hc;rw [ifP h1]
 have e3:DM D=oH D:=by unfold DM;rw [ifP h1]
 rw [ifP h1] at jR;rw [e1,e2,e3];have nz:=η (λW (hW:β w W)=>aEs db p D W (HF.o.below hW) HP.o.cl);have qV:Hid (fY (qj D)):=η (by have h:=HP.o.cl.all (aA D.ob) (aa _);rw [cT] at h;exact h);have oY:Hid (gT D= {qj D with h:= []}):=η rfl;have Ky:Hid (uT D=KQ (gT D) (iY (di (gT D) 0))):=η rfl;have HD4:Hid (oH D= {ly (gT D) (uT D) with st:=2}):=η rfl;have zA:Hid (Pv D=(dR (oH D).x.ss.length).any λ(s:Nat)=>decide (jO (oH D) ((s:Int)+1)>0)):=η rfl;have HUP:=η HP.o.up;have y9:=η (λW p' (h:bW W db p' (gT D))=>MC db p' (gT D) 0 W h HP.o.Kb);have CX:=η (MP HP.o.Kb.ob 0);have kG:aA (di (gT D) 0)<=100000:=by have h1:=Q8 (gT D) 0;have h2:=HP.o.Kb.ob.len;omega
 have LS:=η (λW A c (hs:aW W W.heap.size A (bA (di (gT D) 0)))=>VB (di (gT D) 0) A c W hs CX.o kG);have kO:=η (λW p' (h:bW W db p' (gT D))=>a2k db p' (gT D) (iY (di (gT D) 0)) W h (SE _) HP.o.b0);rw [<-Ky.o] at kO;have JC:=η (λW p' (h:bW W db p' (gT D))=>VD db p' (gT D) (uT D) W h HP.o.nI HP.o.ml HP.o.wI (by have:=HP.o.Kb.wl;omega) HP.o.dO HP.o.dI HP.o.dl);have uy:=η (λW p' (h:bW W db p' (oH D)) (s:Nat) (hs:s<(oH D).x.ss.length)=>VG db p' (oH D) ((s:Int)+1) W h HP.o.ok4 (HP.o.bS s hs));have jK:(oH D).x.ss.length<=100000:=HP.o.sl;have Cm:=η jK;generalize qj D=C at*;generalize gT D=D2 at*;generalize uT D=dn at*;generalize oH D=D4 at*;generalize Pv D=bv at*;generalize di D2 0=G at*;generalize iY G=sv at*;go_enter aAy,aBk
 go_upto_region 5 with (first|(go_at_call 51;refine κ jR.o aZ λw1 aR=> ?_)|(go_at_call 62;refine(nz.o _ aR.o).mono ?_;rintro e w2 ⟨rfl,h2⟩;obtain⟨p2,vh,_⟩:=(cu.bZ HF.o aR.o).then h2;have lR:=η vh))
 have c8:=lR.o.at.cells.c8;have nM:=η (aLb p2.vb p2.vp (aA C.x.ms) (aA C.x.ss+1) (aA C.x.ms) C.l C.h w2 lR.o.at.vt (by have:=qV.o.hl;omega));have WA:aA C.h<=100:=qV.o.hl;go_upto_region 6 with (go_at_call 63;refine nM.o.mono ?_;rintro e w3 ⟨v3,rfl,j5,hb3⟩;obtain⟨A3,k3,hv3⟩:=bL j5;subst hv3;have cD:=η (iJ.cA lR.o.at j5);have JR:=η (lR.o.below hb3))
 have ie:Hid (cu db p p2 {C with h:=C.h.drop 0} w w3):=η JR.o;go_loopw [6,22] (λ_ i wr=>∃(k:Nat) (pk:Dp),k<=aA C.h/\i=ν (k:Int)/\Hid (cu db p pk {C with h:=C.h.drop k} w wr)/\Hid (iJ db pk wr A3 ((C.h.map (·.i)).map (aG aF)))) (λ_ i _=>aA C.h-(af i).toNat)
 case atStart=>exact⟨0,p2,bK _,rfl,ie,cD⟩
 case round=>
  obtain⟨k,pk,hk,rfl,HQ,HO⟩:=hrel;by_cases hlt:k<aA C.h
  ·obtain⟨bl,ol,jn,hbl,hF⟩:=HO.o.dt.at (k:=k) (by simpa using hlt);rw [wk,wk] at hF;have eY:(0:Int)<=(k:Int):=by omega
   have hkb:(k:Int)<(aA C.h:Int):=by omega
   have c8:=HQ.o.at.cells.c8;have HVR:=η (aLg pk.vb pk.vp (aA C.x.ms) (aA C.x.ss+1) (aA C.x.ms) C.l C.h k hlt wr HQ.o.at.vt (by omega) HUP.o);have OD:Hid (∀e W',Lu pk.vb pk.vp (aA C.x.ms) (aA C.x.ss+1) (aA C.x.ms) C.l (C.h.drop (k+1)) wr e W'->e=aT (ν 0)/\aq db pk {C with h:=C.h.drop (k+1)} wr W'):=η (λe W' h=>HQ.o.at.held h);subst jn;generalize (C.h[k]).i=id at*;go_wp2_with (go_at_call 64;refine HVR.o.mono ?_;intro e w4 h4;obtain⟨rfl,h5⟩:=OD.o e w4 h4;obtain⟨p5,Bg,ua⟩:=HQ.o.then h5;have ou:=η Bg;have ez:=η (HO.o.step ua))
   go_roundw
   case rel=>exact⟨k+1,p5,by omega,by go_num,ou,ez⟩
   case measure=>simp [af];omega
  obtain rfl:k=aA C.h:=by omega
  have ow:Hid (cu db p pk D2 w wr):=η (by rw [oY.o];have h:=HQ.o;rw [List.drop_length] at h;exact h);go_upto_region 11 with (first|(go_at_call 68;refine(y9.o _ pk ow.o.at).mono ?_;rintro e w4 ⟨v4,rfl,gG,hb4⟩;obtain⟨A4,k4,hv4⟩:=bL gG;subst hv4;have jS:=η (aW.cA gG);have qW:=η (ow.o.below hb4))|(go_at_call 67;refine(LS.o _ A4 k4 jS.o).mono ?_;rintro e w5 ⟨rfl,cd⟩;have oz:=η (qW.o.below cd))|(go_at_call 66;refine(kO.o _ pk oz.o.at).mono ?_;rintro e w6 ⟨rfl,iM⟩;have sW:=η (oz.o.below iM))|(go_at_call 65;refine(JC.o _ pk sW.o.at).mono ?_;rintro e w7 ⟨rfl,h7⟩;obtain⟨p7,Ql,_⟩:=sW.o.then h7;have lS:=η Ql))
  have f13:w7.frozen? ⟨db,13,aB⟩=aP:=by have hb:=lS.o.at.blk;simp [iK,hb]
  have c13:=lS.o.at.cells.c13;go_upto_region 12 with (fail)
  have Cj:Hid (cu db p p7 D4 w (w7.setCell ⟨db,13,aB⟩ (ν 2))):=η (by rw [HD4.o];exact lS.o.trans (lS.o.at.S5 2));generalize (w7.setCell ⟨db,13,aB⟩ (ν 2))=w8 at*;have c1:=Cj.o.at.cells.c1;have jK:aA D4.x.ss<=100000:=Cm.o;have og:Hid (∀j,j<0->(λ(s:Nat)=>decide (jO D4 ((s:Int)+1)>0)) j=aP):=η (λj hj=>absurd hj (Nat.not_lt_zero _));go_upto_region 13 with (fail)
  go_loopw [7,49] (λ_ i wq=>∃k:Nat,k<=aA D4.x.ss/\i=ν (k:Int)/\Hid (∀j,j<k->(λ(s:Nat)=>decide (jO D4 ((s:Int)+1)>0)) j=aP)/\Hid (cu db p p7 D4 w wq)) (λ_ i _=>aA D4.x.ss-(af i).toNat)
  case atStart=>exact⟨0,bK _,rfl,og,Cj⟩
  case round=>
   clear og Cj c1;obtain⟨j,hj,rfl,HN,HQ⟩:=hrel;by_cases rz:j<aA D4.x.ss
   ·have yb:(0:Int)<=(j:Int):=by omega
    have hjb:(j:Int)<(aA D4.x.ss:Int):=by omega
    have cX:=η (uy.o _ p7 HQ.o.at j rz);have ZE:Hid ((λ(s:Nat)=>decide (jO D4 ((s:Int)+1)>0)) j=decide (jO D4 ((j:Int)+1)>0)):=η rfl;generalize jO D4 ((j:Int)+1)=sh at*;by_cases h2:0<sh
    ·have hd:decide (sh>0)=aO:=decide_eq_true h2;have Su:Hid (aO=bv):=η (by rw [zA.o];exact(a1f rz (ZE.o.trans hd)).symm);go_wp2_with (go_at_call 69;refine cX.o.mono ?_;rintro e wz ⟨rfl,hz⟩;have Th:=η (HQ.o.below hz))
     go_ret2;exact⟨a6p Su.o rfl,Th.o.p⟩
    have hd:decide (sh>0)=aP:=decide_eq_false h2;have oh:Hid (∀i,i<j+1->(λ(s:Nat)=>decide (jO D4 ((s:Int)+1)>0)) i=aP):=η (λi hi=>by
     rcases Nat.lt_succ_iff_lt_or_eq.1 hi with h|rfl
     ·exact HN.o i h
     exact ZE.o.trans hd)
    go_wp2_with (go_at_call 69;refine cX.o.mono ?_;rintro e wz ⟨rfl,hz⟩;have Th:=η (HQ.o.below hz))
    go_roundw
    case rel=>exact⟨j+1,by omega,by go_num,oh,Th⟩
    case measure=>simp [af];omega
   obtain rfl:j=aA D4.x.ss:=by omega
   have Su:Hid (aP=bv):=η (by rw [zA.o];exact(a1g (λi hi=>HN.o i hi)).symm);go_wp2
   go_ret2;exact⟨a6p Su.o rfl,HQ.o.p⟩
end Go.Proofs.YtdokipdchlcmeaaGreat
