/-
  Several texts in one, for one claim (printed by pack.py).
-/
import Derived.Test.YtdokipdchlcmeaaGreatPf7
import Derived.WalkMore
set_option linter.all false
set_option maxRecDepth 100000
set_option maxHeartbeats 12800000
open And renaming intro→kh
open Array renaming getElem?_eq_some_iff→fY
open Bool renaming true→aO,false→aP
open Go renaming World→aJ,Value→aN,Calls→aQ,Addr→ai,cell_of_row→bH,maxLen→bO,TypeId→bZ,heap_alloc_new→cQ,info_parts→dP,Ending→dX,rounds_succ→eI,wpList_append_own→jC,wpAnyH_take→kA,wpAnyH_ready→pZ,wp_loop_rounds→ux,step_append_lies→Ad,wpAnyH_done→OE
open Go.AllReadyH renaming cons→mq,nil→oZ
open Go.Calls renaming mono→uD
open Go.Ending renaming returned→aT
open Go.Exit renaming noGoto_ret→a8r
open Go.IntKind renaming i64→aF,wrap_i64→fh
open Go.Lib renaming compact→tB
open Go.Obj renaming cells→aK
open Go.Proofs renaming intOf→ag
open Go.Proofs.Tryz renaming prog→aM,underlying53→mX,underlying39→tG,underlying46→yU,underlying272→Hc,func179→a0e,ntmps179→a0y,func137→aAm,func142→aAn,func28→aB6,func65→aBG,func70→aBH,ntmps137→aBZ,ntmps142→aBa,ntmps28→aBs,ntmps65→aC2,ntmps70→aC3
open Go.RowKit renaming Below→aa,wrap64→fV
open Go.RowKit.Below renaming refl→aX,size→gX,trans→kB,heap_setCell→nR,alloc→rK
open Go.Value renaming int→aG,slice→aH,tuple→bC,pointer→bD,bool→bK,agg→bP,ownBlock→eF
open Go.World renaming ownsRow_nil→gG,cell?_of_block→gu,frozen?→iO,ownsRow→kF,grownBy_alloc→Hh
open Int renaming le_trans→kD,mul_le_mul_of_nonneg_right→M3
open List renaming length→aA,getElem_mem→cK,length_append→cN,take_length→cU,range→dQ,map_append→dh,mem_map→di,mem_cons→fG,take_succ_eq_append_getElem→fH,mem_append→gN,length_map→iX,any_eq_true→kE,pairwise_cons→kp,eq_nil_of_length_eq_zero→nU,mem_range→nV,length_filter_le→qo,mem_iff_getElem→tD,length_cons→uS,length_singleton→uT,length_take→vN,getElem_map→xC,any_eq_false→zT,drop_eq_getElem_cons→Ju,mergeSort_perm→a0K
open List.Pairwise renaming nil→UO,sublist→aMW
open Nat renaming le_refl→aZ,zero_le→bM,le_trans→bz,lt_of_lt_of_le→cL
open Option renaming none→aB,some→aC
open Option.some renaming inj→pH
open Or renaming inl→aS
namespace Go.Proofs.YtdokipdchlcmeaaGreat
open Go.Proofs.Tryz Go.RowKit
def iA(D:Dk)(n:Nat):List Int:=(dQ n).map λ(i:Nat)=>balA (aA D.x.ms) (aA D.x.ss+1) D.l 8 ((i:Int)+1) 0
def iI(D:Dk)(n:Nat):List Int:=(dQ n).map λ(i:Nat)=>balA (aA D.x.ms) (aA D.x.ss+1) D.l 9 ((i:Int)+1) 0
theorem aEH(D:Dk)(n:Nat):iA D (n+1)=iA D n++ [balA (aA D.x.ms) (aA D.x.ss+1) D.l 8 ((n:Int)+1) 0]:=by unfold iA;rw [List.range_succ,dh];rfl
theorem aFs(D:Dk)(n:Nat):iI D (n+1)=iI D n++ [balA (aA D.x.ms) (aA D.x.ss+1) D.l 9 ((n:Int)+1) 0]:=by unfold iI;rw [List.range_succ,dh];rfl
theorem pL(D:Dk)(n:Nat):aA (iA D n)=n:=by simp [iA]
theorem vZ(D:Dk)(n:Nat):aA (iI D n)=n:=by simp [iI]
structure ly(w:aJ)(bR bp:Nat)(cv fv:aN)(co fu:List Int)(li ca:Int)(W:aJ):Prop where
 bl:β w W
 rb:W.heap[bR]? =aC (aK #[aH aB 0 0,aH aB 0 0,ν 0,ν 0] 193 (0,0))
 pb:W.heap[bp]? =aC (aK #[cv,fv,ν li,ν ca] 193 (0,0))
 co:W.ownsRow w.heap.size 2 1 cv (aA co) (co.map (aG aF))
 fo:W.ownsRow w.heap.size 2 1 fv (aA fu) (fu.map (aG aF))
 ap:∀k,cv.ownBlock=aC k->fv.ownBlock≠aC k
 ne:bR≠bp
 zr:w.heap.size<=bR
 zp:w.heap.size<=bp
theorem ly.below {w:aJ} {bR bp:Nat} {cv fv:aN} {co fu:List Int} {li ca:Int} {W W':aJ}(h:ly w bR bp cv fv co fu li ca W)(hb:aa W.heap.size W W'):ly w bR bp cv fv co fu li ca W':=
 ⟨h.bl.trans (hb.mono h.bl.size),(hb.block _ (fY.1 h.rb).1).trans h.rb,(hb.block _ (fY.1 h.pb).1).trans h.pb,iJ h.co hb,iJ h.fo hb,h.ap,h.ne,h.zr,h.zp⟩
theorem ly.lp {w:aJ} {bR bp:Nat} {cv fv:aN} {co fu:List Int} {li ca:Int} {W:aJ}(h:ly w bR bp cv fv co fu li ca W):bp<W.heap.size:=(fY.1 h.pb).1
theorem ly.lr {w:aJ} {bR bp:Nat} {cv fv:aN} {co fu:List Int} {li ca:Int} {W:aJ}(h:ly w bR bp cv fv co fu li ca W):bR<W.heap.size:=(fY.1 h.rb).1
theorem Es {B:Nat} {w W W':aJ} {r:Option Nat}(h:aa B w W)(hg:W.grownBy W' r)(hr:∀k,r=aC k->B<=k)(hB:B<=W.heap.size):aa B w W':=
 ⟨hg.os.trans h.os,hg.tape.trans h.tape,hg.output.trans h.output,bz h.size hg.size,λk hk=>(hg.block k (cL hk hB) (λe=>by have:=hr k e.symm;omega)).trans (h.block k hk)⟩
theorem uX {B:Nat} {w W:aJ} {b i:Nat}(u:aN)(h:aa B w W)(hb:B<=b):aa B w (W.setCell ⟨b,i,aB⟩ u):=
 ⟨h.os,h.tape,h.output,by simpa using h.size,λk hk=>(nR _ _ _ _ (λe=>by subst e;omega)).trans (h.block k hk)⟩
theorem ly.aJn {w:aJ} {bR bp:Nat} {cv fv:aN} {co fu:List Int} {li ca x:Int} {W W':aJ} {g cap n:Nat}(h:ly w bR bp cv fv co fu li ca W)(hg:W.grownBy W' cv.ownBlock)(ho:W'.ownsRow w.heap.size 2 1 (aH (aC ⟨g,0,aB⟩) n cap) n ((co++ [x]).map (aG aF)))(hn:n=aA (co++ [x]))(hat:cv.ownBlock=aC g\/W.heap.size<=g):ly w bR bp (aH (aC ⟨g,0,aB⟩) n cap) fv (co++ [x]) fu li ca (W'.setCell ⟨bp,0,aB⟩ (aH (aC ⟨g,0,aB⟩) n cap)):=by
 have hb1:=gS h.co h.pb (by decide);have hb2:=gS h.co h.rb (by decide);have Ic:=(hg.block bp h.lp (λe=>hb1 e.symm)).trans h.pb;have Kf:=(hg.block bR h.lr (λe=>hb2 e.symm)).trans h.rb;have hbl:=Es h.bl hg (λk hk=>(h.co.lt k hk).1) h.bl.size;have hfo:=h.fo.kept hg (by
  cases hf:fv.ownBlock with
  |none=>exact .inl rfl
  |some k=>exact .inr (λe=>h.ap k e.symm hf))
 subst hn;refine⟨uX _ hbl h.zp,(nR _ _ _ _ h.ne).trans Kf,(lz Ic 0 _).trans rfl,kP ho (gS ho Ic (by decide)) _,kP hfo (gS hfo Ic (by decide)) _, ?_,h.ne,h.zr,h.zp⟩;intro k hk hf;have e:g=k:=by simpa [eF] using hk
 subst e;rcases hat with hat|hat
 ·exact h.ap g hat hf
 have:=(h.fo.lt g hf).2;omega
theorem ly.aJo {w:aJ} {bR bp:Nat} {cv fv:aN} {co fu:List Int} {li ca x:Int} {W W':aJ} {g cap n:Nat}(h:ly w bR bp cv fv co fu li ca W)(hg:W.grownBy W' fv.ownBlock)(ho:W'.ownsRow w.heap.size 2 1 (aH (aC ⟨g,0,aB⟩) n cap) n ((fu++ [x]).map (aG aF)))(hn:n=aA (fu++ [x]))(hat:fv.ownBlock=aC g\/W.heap.size<=g):ly w bR bp cv (aH (aC ⟨g,0,aB⟩) n cap) co (fu++ [x]) li ca (W'.setCell ⟨bp,1,aB⟩ (aH (aC ⟨g,0,aB⟩) n cap)):=by
 have hb1:=gS h.fo h.pb (by decide);have hb2:=gS h.fo h.rb (by decide);have Ic:=(hg.block bp h.lp (λe=>hb1 e.symm)).trans h.pb;have Kf:=(hg.block bR h.lr (λe=>hb2 e.symm)).trans h.rb;have hbl:=Es h.bl hg (λk hk=>(h.fo.lt k hk).1) h.bl.size;have rB:=h.co.kept hg (by
  cases hf:cv.ownBlock with
  |none=>exact .inl rfl
  |some k=>exact .inr (λe=>h.ap k hf e.symm))
 subst hn;refine⟨uX _ hbl h.zp,(nR _ _ _ _ h.ne).trans Kf,(lz Ic 1 _).trans rfl,kP rB (gS rB Ic (by decide)) _,kP ho (gS ho Ic (by decide)) _, ?_,h.ne,h.zr,h.zp⟩;intro k hk hf;have e:g=k:=by simpa [eF] using hf
 subst e;rcases hat with hat|hat
 ·exact h.ap g hk hat
 have:=(h.co.lt g hk).2;omega
theorem J1 {w:aJ} {base:Nat} {A:Option ai} {n c m:Nat} {e:bZ} {xs:List aN}(h:w.ownsRow base e m (aH A n c) n xs)(hA:A=aB):n=0/\c=0:=by
 rcases h.2 with⟨h1,h2⟩|⟨g,cap,cur,h1,_⟩
 ·injection h1 with h3 h4 h5;exact⟨h4,h5⟩
 rw [hA] at h1;injection h1 with h3;cases h3
structure PR(w:aJ)(bR:Nat)(cv fv:aN)(co fu:List Int)(W:aJ):Prop where
 bl:β w W
 co:W.ownsRow w.heap.size 2 1 cv (aA co) (co.map (aG aF))
 fo:W.ownsRow w.heap.size 2 1 fv (aA fu) (fu.map (aG aF))
 n1:cv.ownBlock≠aC bR
 n2:fv.ownBlock≠aC bR
 zr:w.heap.size<=bR
theorem ly.res {w:aJ} {bR bp:Nat} {cv fv:aN} {co fu:List Int} {li ca:Int} {W:aJ}(h:ly w bR bp cv fv co fu li ca W):PR w bR cv fv co fu W:=
 ⟨h.bl,h.co,h.fo,gS h.co h.rb (by decide),gS h.fo h.rb (by decide),h.zr⟩
theorem PR.set {w:aJ} {bR:Nat} {cv fv:aN} {co fu:List Int} {W:aJ}(h:PR w bR cv fv co fu W)(i:Nat)(u:aN):PR w bR cv fv co fu (W.setCell ⟨bR,i,aB⟩ u):=
 ⟨uX _ h.bl h.zr,kP h.co h.n1 _,kP h.fo h.n2 _,h.n1,h.n2,h.zr⟩
def a9H(D:Dk)(w:aJ)(e:dX)(w':aJ):Prop:=∃P:cA,e=aT P.val/\P.co=iA D (aA D.x.ms)/\P.fu=iI D (aA D.x.ms)/\P.line=balA (aA D.x.ms) (aA D.x.ss+1) D.l 3 0 0/\P.cap=balA (aA D.x.ms) (aA D.x.ss+1) D.l 4 0 0/\D7 w' P/\aa w.heap.size w w'
theorem a2s(db:Nat)(p:Dp)(D:Dk)(w:aJ)(H:bV w db p D)(hm:aA D.x.ms<=100000):
 aQ aM 128 #[π db] w (a9H D w):=by
 have fC:=η (λW (hW:β w W) k m (hk:aL k) (hm:aL m)=>zq db p D k m 0 W (H.below hW) hk hm);have oB:=η (λW m=>zj m W);have HC:=η (λW (hW:β w W)=>(H.below hW).cells.c0);clear H;have mU:Hid (β w (w.alloc (aK #[aH aB 0 0,aH aB 0 0,ν 0,ν 0] 193))):=η σ;have uQ:Hid ((w.alloc (aK #[aH aB 0 0,aH aB 0 0,ν 0,ν 0] 193)).heap[w.heap.size]? =aC (aK #[aH aB 0 0,aH aB 0 0,ν 0,ν 0] 193 (0,0))):=η (cQ w _);have hz0:w.heap.size<(w.alloc (aK #[aH aB 0 0,aH aB 0 0,ν 0,ν 0] 193)).heap.size:=by simp
 obtain⟨i0,bu,sH,sJ,sK⟩:=dP Uz;go_enter func128,ntmps128
 go_upto_region 1 with (fail)
 generalize w.alloc (aK #[aH aB 0 0,aH aB 0 0,ν 0,ν 0] 193)=w0 at*;obtain⟨bR,W9⟩:∃bR,bR=w.heap.size:=⟨_,rfl⟩;have LJ:=η W9;rw [<-W9] at uQ hz0 ⊢;clear W9;have vF:=η (fC.o w0 mU.o 3 0 (by decide) (by decide));obtain⟨li,Wj⟩:∃li,li=balA (aA D.x.ms) (aA D.x.ss+1) D.l 3 0 0:=⟨_,rfl⟩;obtain⟨ca,rA⟩:∃ca,ca=balA (aA D.x.ms) (aA D.x.ss+1) D.l 4 0 0:=⟨_,rfl⟩;rw [<-Wj] at vF;have Ci:=η (λW (hW:β w W)=>fC.o W hW 4 0 (by decide) (by decide));rw [<-rA] at Ci;have Ja:=η Wj;have CV:=η rA;clear Wj rA;go_upto_region 2 with (go_at_call 46;first|(with_reducible refine uD vF.o ?_;rintro e w1 ⟨rfl,hb1⟩;have yO:=τ mU hb1;have jm:=η ((hb1.block bR hz0).trans uQ.o);have hz1:=cL hz0 hb1.size;clear hb1 vF)|(with_reducible refine uD (Ci.o _ yO.o) ?_;rintro e w2 ⟨rfl,hb2⟩;have gF:=τ yO hb2;have qD:=η ((hb2.block bR hz1).trans jm.o);have hz2:=cL hz1 hb2.size;clear hb2 Ci mU yO uQ jm hz0 hz1))
 have iF:Hid (ly w bR w2.heap.size (aH aB 0 0) (aH aB 0 0) [] [] li ca (w2.alloc (aK #[aH aB 0 0,aH aB 0 0,ν li,ν ca] 193))):=η ⟨gF.o.trans ((aX _ _).alloc gF.o.size _),(fL w2 _ hz2).trans qD.o,cQ w2 _,gG _ _ _ _,gG _ _ _ _,by intro k hk;simp [eF] at hk,by have:=LJ.o;omega,by have:=LJ.o;omega,gF.o.size⟩;clear gF qD;generalize w2.alloc (aK #[aH aB 0 0,aH aB 0 0,ν li,ν ca] 193)=w3 at*;obtain⟨bp,WC⟩:∃bp,bp=w2.heap.size:=⟨_,rfl⟩;rw [<-WC] at iF ⊢;clear WC hz2;have c0:=HC.o _ iF.o.bl;generalize hM:aA D.x.ms=M at*;go_upto_region 3 with (fail)
 go_loopw [4,18] (λ_ i wr=>∃k:Nat,∃cv fv,k<=M/\i=ν (k:Int)/\Hid (ly w bR bp cv fv (iA D k) (iI D k) li ca wr)) (λ_ i _=>M-(ag i).toNat)
 case atStart=>exact⟨0,_,_,bM _,rfl,iF⟩
 case round=>
  clear iF c0;obtain⟨k,cv,fv,hk,rfl,HP⟩:=hrel;by_cases hlt:k<M
  ·have ej:(0:Int)<=(k:Int):=by omega
   have hkb:(k:Int)<(M:Int):=by omega
   obtain⟨A1,c1,AQ⟩:=bL HP.o.co;obtain⟨A2,c2,hv2⟩:=bL HP.o.fo;subst AQ hv2;rw [pL,vZ] at HP;have FM:aL ((k:Int)+1):=by unfold aL;omega
   have Og:=η FM;have Bh:aF.wrap ((k:Int)+1)=(k:Int)+1:=by rw [fh];omega
   clear FM;go_upto_region 5 with (fail)
   have d0:wr.drew.cell? ⟨bp,0,aB⟩=aC (aH A1 k c1):=ρ HP.o.pb;have Cl:Hid (ly w bR bp (aH A1 k c1) (aH A2 k c2) (iA D k) (iI D k) li ca wr.drew):=η (HP.o.below (aX _ _).drew);clear HP;refine CM (S:=λW=>W.cell? ⟨bp,0,aB⟩=aC (aH A1 k c1)) 10 (by kernel_rfl) d0 (λhHeld=> ?_);have bJ:Hid (∀W,ly w bR bp (aH A1 k c1) (aH A2 k c2) (iA D k) (iI D k) li ca W->W.cell? ⟨bp,0,aB⟩=aC (aH A1 k c1)):=η (λW h=>ρ h.pb);clear d0;generalize wr.drew=w5 at*;refine cP (i:=0) (v:=π bp) rfl (by kernel_rfl) (by kernel_rfl) (by kernel_rfl) (by kernel_rfl) (by kernel_rfl) (λ_ _ _ h=>h) (aS ⟨by rfl,λw' hSw=>by have s0:=hSw;go_simp⟩) hHeld ?_;refine cP (i:=1) (v:=aH A1 k c1) rfl (by kernel_rfl) (by kernel_rfl) (by kernel_rfl) (by kernel_rfl) (by kernel_rfl) (λ_ _ _ h=>h) (aS ⟨by rfl,λw' hSw=>by have s0:=hSw;go_simp⟩) hHeld ?_;refine cP (i:=2) (v:=π db) rfl (by kernel_rfl) (by kernel_rfl) (by kernel_rfl) (by kernel_rfl) (by kernel_rfl) (λ_ _ _ h=>h) (aS ⟨by rfl,λw' hSw=>by have s0:=hSw;go_simp⟩) hHeld ?_;refine cP (i:=3) (v:=ν (k:Int)) rfl (by kernel_rfl) (by kernel_rfl) (by kernel_rfl) (by kernel_rfl) (by kernel_rfl) (λ_ _ _ h=>h) (aS ⟨by rfl,λw' hSw=>by have s0:=hSw;go_simp⟩) hHeld ?_;refine cP (i:=4) (v:=ν ((k:Int)+1)) rfl (by kernel_rfl) (by kernel_rfl) (by kernel_rfl) (by kernel_rfl) (by kernel_rfl) (λ_ _ _ h=>h) (aS ⟨by rfl,λw' hSw=>by have s0:=hSw;go_simp⟩) hHeld ?_;clear hHeld;refine iv (rs:= [5]) (by kernel_rfl) (by simp) ?_;refine cX.cons rfl (λK hK=> ?_) cX.nil;go_simp
   refine(oB.o _ _).mono ?_;rintro e w6 ⟨rfl,iQ⟩;have Oy:=η (Cl.o.below iQ);clear iQ Cl;refine hK.o _ _ (λ_=>bJ.o _ Oy.o) (λ_=> ?_);clear hK K;refine iv (rs:= [6]) (by kernel_rfl) (by simp) ?_;refine cX.cons rfl (λK hK=> ?_) cX.nil;go_simp
   refine(fC.o _ Oy.o.bl 8 _ (by decide) Og.o).mono ?_;rintro e w7 ⟨rfl,ft⟩;have gD:=η (Oy.o.below ft);clear ft Oy;refine hK.o _ _ (λ_=>bJ.o _ gD.o) (λ_=> ?_);clear hK K;have GH:=η (aEH D k);rw [hM] at GH;generalize balA M (aA D.x.ss+1) D.l 8 ((k:Int)+1) 0=bv at*;refine iv (rs:= [7]) (by kernel_rfl) (by simp) ?_;refine cX.cons rfl (λK hK=> ?_) cX.nil;go_simp
   have eB:Hid (ly w bR bp (aH A1 k c1) (aH A2 k c2) (iA D k) (iI D k) li ca (w7.alloc (aK #[ν bv] 2))):=η (gD.o.below σ);have Lh:Hid (∀j u,([ν bv]:List aN)[j]? =aC u->(w7.alloc (aK #[ν bv] 2)).cell? ((⟨w7.heap.size,0,aB⟩:ai).add j)=aC u):=η (dS w7 2 #[ν bv] rfl);refine hK.o _ _ (λ_=>bJ.o _ eB.o) (λ_=> ?_);clear hK K gD;generalize (w7.alloc (aK #[ν bv] 2))=w8 at*;refine iv (rs:= [8]) (by kernel_rfl) (by simp) ?_;refine cX.cons rfl (λK hK=> ?_) cX.nil;have qd:=eB.o.co;rw [pL] at qd;refine Ad _ rfl (.tmp 22) (.tmp 28) 53 rfl w.heap.size 2 i0 _ 1 8 mX bu sH sJ sK rfl (by decide) _ k ((iA D k).map (aG aF)) rfl qd ⟨w7.heap.size,0,aB⟩ 1 1 [ν bv] rfl rfl Lh.o xy (by decide) (by simp only [bO];omega) (by omega) eB.o.bl.size w8.heap.size rfl ?_;clear qd;intro g cap w9 hown hgr hat _;have rT:Hid (∀v,v=aH (aC ⟨g,0,aB⟩) (k+1) cap->ly w bR bp v (aH A2 k c2) (iA D (k+1)) (iI D k) li ca (w9.setCell ⟨bp,0,aB⟩ v)):=η (by rintro v rfl;rw [GH.o];exact eB.o.aJn hgr (by rw [dh];exact hown) (by simp [pL]) (hat.imp id (λe=>by omega)));have xT:w9.cell? ⟨bp,0,aB⟩=aC (aH A1 k c1):=by have hn:(aH A1 k c1).ownBlock≠aC bp:=gS eB.o.co eB.o.pb (by decide);exact bH _ _ _ _ _ (0,0) ((hgr.block bp eB.o.lp (λe=>hn e.symm)).trans eB.o.pb)
   have KU:w9.frozen? ⟨bp,0,aB⟩=aP:=by have hn:(aH A1 k c1).ownBlock≠aC bp:=gS eB.o.co eB.o.pb (by decide);have hb:=(hgr.block bp eB.o.lp (λe=>hn e.symm)).trans eB.o.pb;simp [iO,hb]
   refine hK.o _ _ (λ_=>xT) (λ_=> ?_);clear hK K hown hgr hat eB Lh GH;refine cP (i:=9) (v:=π bp) rfl (by kernel_rfl) (by kernel_rfl) (by kernel_rfl) (by kernel_rfl) (by kernel_rfl) (λ_ _ _ h=>h) (aS ⟨by rfl,λw' hSw=>by have s0:=hSw;go_simp⟩) xT ?_;refine iv (rs:= [10]) (by kernel_rfl) (by simp) ?_;refine cX.cons rfl (λK hK=> ?_) cX.nil;go_simp
   refine hK.o _ _ (λh=>absurd rfl h) (λ_=> ?_);clear hK K bJ xT KU;refine CL (by kernel_rfl) ?_ _;have zM:=η (rT.o _ rfl);clear rT;generalize aH (aC ⟨g,0,aB⟩) (k+1) cap=Ht at*;generalize w9.setCell ⟨bp,0,aB⟩ Ht=wa at*;go_upto_region 6 with (fail)
   have d0:wa.drew.cell? ⟨bp,1,aB⟩=aC (aH A2 k c2):=ρ zM.o.pb;have Cl:Hid (ly w bR bp Ht (aH A2 k c2) (iA D (k+1)) (iI D k) li ca wa.drew):=η (zM.o.below (aX _ _).drew);clear zM;refine CM (S:=λW=>W.cell? ⟨bp,1,aB⟩=aC (aH A2 k c2)) 10 (by kernel_rfl) d0 (λhHeld=> ?_);have bJ:Hid (∀W,ly w bR bp Ht (aH A2 k c2) (iA D (k+1)) (iI D k) li ca W->W.cell? ⟨bp,1,aB⟩=aC (aH A2 k c2)):=η (λW h=>ρ h.pb);clear d0;generalize wa.drew=wb at*;refine cP (i:=0) (v:=bD (aC ⟨bp,1,aB⟩)) rfl (by kernel_rfl) (by kernel_rfl) (by kernel_rfl) (by kernel_rfl) (by kernel_rfl) (λ_ _ _ h=>h) (aS ⟨by rfl,λw' hSw=>by have s0:=hSw;go_simp⟩) hHeld ?_;refine cP (i:=1) (v:=aH A2 k c2) rfl (by kernel_rfl) (by kernel_rfl) (by kernel_rfl) (by kernel_rfl) (by kernel_rfl) (λ_ _ _ h=>h) (aS ⟨by rfl,λw' hSw=>by have s0:=hSw;go_simp⟩) hHeld ?_;refine cP (i:=2) (v:=π db) rfl (by kernel_rfl) (by kernel_rfl) (by kernel_rfl) (by kernel_rfl) (by kernel_rfl) (λ_ _ _ h=>h) (aS ⟨by rfl,λw' hSw=>by have s0:=hSw;go_simp⟩) hHeld ?_;refine cP (i:=3) (v:=ν (k:Int)) rfl (by kernel_rfl) (by kernel_rfl) (by kernel_rfl) (by kernel_rfl) (by kernel_rfl) (λ_ _ _ h=>h) (aS ⟨by rfl,λw' hSw=>by have s0:=hSw;go_simp⟩) hHeld ?_;refine cP (i:=4) (v:=ν ((k:Int)+1)) rfl (by kernel_rfl) (by kernel_rfl) (by kernel_rfl) (by kernel_rfl) (by kernel_rfl) (λ_ _ _ h=>h) (aS ⟨by rfl,λw' hSw=>by have s0:=hSw;go_simp⟩) hHeld ?_;refine cP (i:=5) (v:=bP #[ν 9,ν ((k:Int)+1)]) rfl (by kernel_rfl) (by kernel_rfl) (by kernel_rfl) (by kernel_rfl) (by kernel_rfl) (λ_ _ _ h=>h) (aS ⟨by rfl,λw' hSw=>by have s0:=hSw;go_simp⟩) hHeld ?_;clear hHeld;refine iv (rs:= [6]) (by kernel_rfl) (by simp) ?_;refine cX.cons rfl (λK hK=> ?_) cX.nil;go_simp
   refine(fC.o _ Cl.o.bl 9 _ (by decide) Og.o).mono ?_;rintro e wc ⟨rfl,ft⟩;have gD:=η (Cl.o.below ft);clear ft Cl;refine hK.o _ _ (λ_=>bJ.o _ gD.o) (λ_=> ?_);clear hK K;have GH:=η (aFs D k);rw [hM] at GH;generalize balA M (aA D.x.ss+1) D.l 9 ((k:Int)+1) 0=K8 at*;refine iv (rs:= [7]) (by kernel_rfl) (by simp) ?_;refine cX.cons rfl (λK hK=> ?_) cX.nil;go_simp
   have eB:Hid (ly w bR bp Ht (aH A2 k c2) (iA D (k+1)) (iI D k) li ca (wc.alloc (aK #[ν K8] 2))):=η (gD.o.below σ);have Lh:Hid (∀j u,([ν K8]:List aN)[j]? =aC u->(wc.alloc (aK #[ν K8] 2)).cell? ((⟨wc.heap.size,0,aB⟩:ai).add j)=aC u):=η (dS wc 2 #[ν K8] rfl);refine hK.o _ _ (λ_=>bJ.o _ eB.o) (λ_=> ?_);clear hK K gD;generalize (wc.alloc (aK #[ν K8] 2))=wd at*;refine iv (rs:= [8]) (by kernel_rfl) (by simp) ?_;refine cX.cons rfl (λK hK=> ?_) cX.nil;have qd:=eB.o.fo;rw [vZ] at qd;refine Ad _ rfl (.tmp 32) (.tmp 38) 53 rfl w.heap.size 2 i0 _ 1 8 mX bu sH sJ sK rfl (by decide) _ k ((iI D k).map (aG aF)) rfl qd ⟨wc.heap.size,0,aB⟩ 1 1 [ν K8] rfl rfl Lh.o xy (by decide) (by simp only [bO];omega) (by omega) eB.o.bl.size wd.heap.size rfl ?_;clear qd;intro g2 a2D we hown hgr hat _;have rT:Hid (∀v,v=aH (aC ⟨g2,0,aB⟩) (k+1) a2D->ly w bR bp Ht v (iA D (k+1)) (iI D (k+1)) li ca (we.setCell ⟨bp,1,aB⟩ v)):=η (by rintro v rfl;rw [GH.o];exact eB.o.aJo hgr (by rw [dh];exact hown) (by simp [vZ]) (hat.imp id (λe=>by omega)));have xT:we.cell? ⟨bp,1,aB⟩=aC (aH A2 k c2):=by have hn:(aH A2 k c2).ownBlock≠aC bp:=gS eB.o.fo eB.o.pb (by decide);exact bH _ _ _ _ _ (0,0) ((hgr.block bp eB.o.lp (λe=>hn e.symm)).trans eB.o.pb)
   have KU:we.frozen? ⟨bp,1,aB⟩=aP:=by have hn:(aH A2 k c2).ownBlock≠aC bp:=gS eB.o.fo eB.o.pb (by decide);have hb:=(hgr.block bp eB.o.lp (λe=>hn e.symm)).trans eB.o.pb;simp [iO,hb]
   refine hK.o _ _ (λ_=>xT) (λ_=> ?_);clear hK K hown hgr hat eB Lh GH;refine cP (i:=9) (v:=bD (aC ⟨bp,1,aB⟩)) rfl (by kernel_rfl) (by kernel_rfl) (by kernel_rfl) (by kernel_rfl) (by kernel_rfl) (λ_ _ _ h=>h) (aS ⟨by rfl,λw' hSw=>by have s0:=hSw;go_simp⟩) xT ?_;refine iv (rs:= [10]) (by kernel_rfl) (by simp) ?_;refine cX.cons rfl (λK hK=> ?_) cX.nil;go_simp
   refine hK.o _ _ (λh=>absurd rfl h) (λ_=> ?_);clear hK K bJ xT KU;refine CL (by kernel_rfl) ?_ _;have zM:=η (rT.o _ rfl);clear rT;generalize aH (aC ⟨g2,0,aB⟩) (k+1) a2D=fv2 at*;generalize we.setCell ⟨bp,1,aB⟩ fv2=wf at*;go_wp2_with fail
   go_roundw
   case rel=>exact⟨k+1,_,_,by omega,by go_num,zM⟩
   case measure=>simp [ag];omega
  obtain rfl:k=M:=by omega
  obtain⟨A1,c1,AQ⟩:=bL HP.o.co;obtain⟨A2,c2,hv2⟩:=bL HP.o.fo;subst AQ hv2;have Cm:=HP.o;rw [pL,vZ] at Cm;have q0:=Cm.pb;have q1:=Cm.rb;have p0:wr.cell? ⟨bp,0,aB⟩=aC (aH A1 k c1):=ρ q0;have p1:wr.cell? ⟨bp,1,aB⟩=aC (aH A2 k c2):=ρ q0;have p2:wr.cell? ⟨bp,2,aB⟩=aC (ν li):=ρ q0;have p3:wr.cell? ⟨bp,3,aB⟩=aC (ν ca):=ρ q0;have r0:wr.cell? ⟨bR,0,aB⟩=aC (aH aB 0 0):=ρ q1;have r1:wr.cell? ⟨bR,1,aB⟩=aC (aH aB 0 0):=ρ q1;have r2:wr.cell? ⟨bR,2,aB⟩=aC (ν 0):=ρ q1;have r3:wr.cell? ⟨bR,3,aB⟩=aC (ν 0):=ρ q1;have HPH:=η Cm;clear Cm q0 HP fC oB;have f0:wr.frozen? ⟨bR,0,aB⟩=aP:=by simp [iO,q1]
  have f1:wr.frozen? ⟨bR,1,aB⟩=aP:=by simp [iO,q1]
  have f2:wr.frozen? ⟨bR,2,aB⟩=aP:=by simp [iO,q1]
  have f3:wr.frozen? ⟨bR,3,aB⟩=aP:=by simp [iO,q1]
  clear q1;go_wp2_with fail
  refine bodyPost_ret (v:=bP #[aH A1 k c1,aH A2 k c2,ν li,ν ca]) (by simp [results,results128,go_sem,r0,r1,r2,r3]) rfl ?_;have hR:=(((HPH.o.res.set 0 (aH A1 k c1)).set 1 (aH A2 k c2)).set 2 (ν li)).set 3 (ν ca);have o1:=hR.co;have o2:=hR.fo;rw [pL] at o1;rw [vZ] at o2;have g1:=aW.cB o1;have g2:=aW.cB o2;refine⟨⟨iA D k,A1,c1,iI D k,A2,c2,li,ca⟩, ?_,by rw [hM],by rw [hM],Ja.o.trans (by rw [hM]),CV.o.trans (by rw [hM]),⟨⟨g1,λh=> ?_⟩,⟨g2,λh=> ?_⟩⟩,hR.bl⟩
  ·unfold cA.val;simp only [pL,vZ]
  ·have:=J1 o1 h;rw [pL];exact this
  have:=J1 o2 h;rw [vZ];exact this
def jx(D:Dk):cA:=⟨iA D (aA D.x.ms),aB,0,iI D (aA D.x.ms),aB,0,balA (aA D.x.ms) (aA D.x.ss+1) D.l 3 0 0,balA (aA D.x.ms) (aA D.x.ss+1) D.l 4 0 0⟩
theorem aJW {P:cA} {D:Dk}(h1:P.co=iA D (aA D.x.ms))(h2:P.fu=iI D (aA D.x.ms))(h3:P.line=balA (aA D.x.ms) (aA D.x.ss+1) D.l 3 0 0)(h4:P.cap=balA (aA D.x.ms) (aA D.x.ss+1) D.l 4 0 0)(os:List Int)(n:Int):oU P os n=oU (jx D) os n:=by obtain⟨co,Ac,cc,fu,Af,cf,li,ca⟩:=P;simp only at h1 h2 h3 h4;subst h1 h2 h3 h4;rfl
theorem aK9 {P:cA} {D:Dk}(h1:P.co=iA D (aA D.x.ms))(h2:P.fu=iI D (aA D.x.ms))(h3:P.line=balA (aA D.x.ms) (aA D.x.ss+1) D.l 3 0 0)(h4:P.cap=balA (aA D.x.ms) (aA D.x.ss+1) D.l 4 0 0)(os:List Int):rH P os=rH (jx D) os:=by obtain⟨co,Ac,cc,fu,Af,cf,li,ca⟩:=P;simp only at h1 h2 h3 h4;subst h1 h2 h3 h4;rfl
def qO(D:Dk)(x:Dw):Dk:= {D with l:=bj D x.k x.m 1 0 0 x.n,log:=D.log++ [⟨10,x.m,0,x.n,x.k⟩]}
def oK(D:Dk)(L:List Dw):Dk:=L.foldl qO D
def iH(D:Dk)(n:Int):List Dw:=if n<=0 then [] else oU (jx D) D.who n
def mB(D:Dk)(n:Int):Dk:=oK D (iH D n)
theorem aF9 {D:Dk} {L:List Dw} {k:Nat}(h:k<aA L):oK D (L.take (k+1))=qO (oK D (L.take k)) L[k]:=by rw [fH h];unfold oK;rw [List.foldl_append];rfl
theorem VR(db:Nat)(p:Dp)(D:Dk)(n:Int)(w:aJ)(H:bV w db p D)(hn:aL n)(hm:aA D.x.ms<=100000)(hw:∀x∈D.who,aL x)(Kh:aA D.who<=1000)(hO:∀k,k<=aA (iH D n)->fZ (oK D ((iH D n).take k)))(hI:∀x∈iH D n,aL x.k/\aL x.m/\aL x.n/\0<=x.n)(hl:aA (iH D n)<=100000):
 aQ aM 65 #[π db,ν n] w λe w'=>e=aT (bC #[])/\aq db p (mB D n) w w':=by
 have zF:=η H;have jl:Hid (iH D n=if n<=0 then [] else oU (jx D) D.who n):=η rfl;have rN:Hid (mB D n=oK D (iH D n)):=η rfl;have HO:=η hO;have HI:=η hI;have mP:=η hl;have Co:=η (λW (hW:β w W)=>a2s db p D W (H.below hW) hm);obtain⟨Aw,cw,hv⟩:=bL H.who;have pD:=η (λW (hW:β w W)=>(show aW W W.heap.size Aw (D.who.map (aG aF)) by have h1:=(H.below hW).who;rw [hv] at h1;exact aW.cB h1));have bJ:=η (λW (hW:β w W)=>(show W.cell? ⟨db,11,aB⟩=aC (aH Aw (aA D.who) cw) from(by rw [<-hv];exact(H.below hW).cells.c11)));have yP:=η hw;have Ot:=η hn;have wY:=η hm;by_cases h0:n<=0
 ·have hd:decide (n<=0)=aO:=decide_eq_true h0;rw [ifP h0] at jl;have GI:Hid (mB D n=D):=η (by rw [rN.o,jl.o];rfl);rw [GI.o];go_enter aBG,aC2
  go_wp2_with fail
  (try simp only [Exit.inBlock,Exit.then])
  refine bodyPost_ret (results_none rfl _ _ _) rfl ?_;exact⟨rfl,aq.refl zF.o⟩
 have hd:decide (n<=0)=aP:=decide_eq_false h0;rw [ifN h0] at jl;rw [rN.o];generalize iH D n=L at*;go_enter aBG,aC2
 go_upto_region 1 with (fail)
 have bQ:β w w.drew:=(aX _ _).drew;have hdd:=bJ.o _ bQ;go_region_held3 (λW=>W.cell? ⟨db,11,aB⟩=aC (aH Aw (aA D.who) cw)) (first|(with_reducible assumption)) (first|(go_at_call 128;refine(Co.o _ (by with_reducible assumption)).mono ?_;rintro e w1 ⟨P,rfl,lX,jb,uh,xZ,FV,hb1⟩;have dZ:β w w1:=kB (by with_reducible assumption) (hb1.mono (gX (by with_reducible assumption)));have hcc:=bJ.o _ dZ)|(go_at_call 127;refine(aJX P D.who n Aw cw _ FV (by rw [lX,pL];simp only [bO];have:=wY.o;omega) (pD.o _ dZ) Kh yP.o Ot.o).mono ?_;rintro e w2 ⟨A2,c2,rfl,eY,hb2⟩;have WG:=dZ.trans (hb2.mono dZ.size);have hc2:=bJ.o _ WG))
 all_goals
  rw [aJW lX jb uh xZ,<-jl.o] at eY ⊢;have a9j:Hid (aW w2 w2.heap.size A2 (gW (L))):=η (aW.cB eY);have Vo:gW (L)≠ []->∀q,A2=aC q->¬eW db p q.block:=by intro _ q hq hs;subst hq;have:=(eY.lt q.block rfl).1;have h2:=zF.o.td hs;have h3:=dZ.size;omega
  have cJ:=η (zF.o.below WG);have aV:=η WG;have iF:Hid (aq db p (oK D ((L).take 0)) w2 w2):=η (aq.refl cJ.o);have BK:Hid (∀W D2,aq db p D2 w2 W->aW W W.heap.size A2 (gW (L))):=η (λW D2 h=>by obtain⟨_,_,_,_,_,_,hu,_⟩:=h;exact hu.eA a9j.o Vo);go_wp2_with fail
  go_loopw [7,23] (λ_ i wr=>∃k:Nat,k<=aA L/\i=ν (k:Int)/\Hid (aq db p (oK D (L.take k)) w2 wr)) (λ_ i _=>aA L-(ag i).toNat)
  case atStart=>exact⟨0,bM _,rfl,iF⟩
  case round=>
   obtain⟨k,hk,rfl,HP⟩:=hrel;by_cases hlt:k<aA L
   ·obtain⟨bl,ol,kJ,hbl,l0,l1,l2⟩:=QB (BK.o _ _ HP.o) hlt;have ej:(0:Int)<=(k:Int):=by omega
    have hkb:(k:Int)<(aA L:Int):=by omega
    obtain⟨p1,h1,e1,e2,e3,e4,dD,hs1⟩:=HP.o;have HF:=η h1;have my:Hid (∀j,eW db p1 j->j<wr.heap.size):=η (λj hj=>h1.td hj);have HT:Hid (∀W D2,aq db p1 D2 wr W->aq db p D2 w2 W):=η (λW D2 h=>aq.trans dD hs1 ⟨e1,e2,e3,e4⟩ h);have HL:=η (aF9 (D:=D) hlt);have dT:=η (HO.o k hk);obtain⟨qR,qT,s7,vn⟩:=HI.o _ (cK hlt);have nH:aA L<=100000:=mP.o;clear h1 e1 e2 e3 e4 dD hs1 HP;subst kJ;generalize oK D (L.take k)=E at*;generalize L[k]=x at*;obtain⟨xk,xm,xn⟩:=x;simp only at l0 l1 l2 qR qT s7 vn;have og:=η (kh qR (kh qT (kh s7 vn)));have vF:Hid (qO E ⟨xk,xm,xn⟩= {E with l:=bj E xk xm 1 0 0 xn,log:=E.log++ [⟨10,xm,0,xn,xk⟩]}):=η rfl;have ar:Hid (β wr (wr.alloc (aK #[ν xk,ν xm,ν xn] 196))):=η σ;have pE:Hid ((wr.alloc (aK #[ν xk,ν xm,ν xn] 196)).heap[wr.heap.size]? =aC (aK #[ν xk,ν xm,ν xn] 196 (0,0))):=η (cQ wr _);have mh:wr.heap.size<(wr.alloc (aK #[ν xk,ν xm,ν xn] 196)).heap.size:=by simp
    clear qR qT s7 vn;go_upto_region 5 with (fail)
    generalize wr.alloc (aK #[ν xk,ν xm,ν xn] 196)=w4 at*;obtain⟨bx,bU⟩:∃bx,bx=wr.heap.size:=⟨_,rfl⟩;have dJ:=η bU;rw [<-bU] at pE mh ⊢;clear bU;have lO:=η (HF.o.below ar.o);have bX:Hid (¬eW db p1 bx):=η (λh=>by have:=my.o bx h;rw [dJ.o] at this;omega);have lu:=η (λW (hW:β w4 W)=>Hw db p1 E xk xm 1 0 0 xn W (lO.o.below hW) dT.o ⟨og.o.1,og.o.2.1⟩ ⟨by decide,by decide⟩ (by decide) og.o.2.2.1 og.o.2.2.2);have bJ:Hid (∀W,β w4 W->W.cell? ⟨db,8,aB⟩=aC (π p1.vb)/\W.cell? ⟨bx,0,aB⟩=aC (ν xk)/\W.cell? ⟨bx,1,aB⟩=aC (ν xm)/\W.cell? ⟨bx,2,aB⟩=aC (ν xn)):=η (λW hW=>by have hd:=(hW.block bx mh).trans pE.o;exact⟨(lO.o.below hW).cells.c8,ρ hd,ρ hd,ρ hd⟩);have Lc:Hid (∀V W,β w4 V->aq db p1 {E with l:=bj E xk xm 1 0 0 xn} V W->W.cell? ⟨db,8,aB⟩=aC (π p1.vb)->W.cell? ⟨db,8,aB⟩=aC (π p1.vb)/\W.cell? ⟨bx,0,aB⟩=aC (ν xk)/\W.cell? ⟨bx,1,aB⟩=aC (ν xm)/\W.cell? ⟨bx,2,aB⟩=aC (ν xn)):=η (λW W' hW h h8=>by have hz:=cL mh hW.size;obtain⟨_,q0,q1,q2⟩:=bJ.o W hW;exact⟨h8,(h.cell 0 hz bX.o).trans q0,(h.cell 1 hz bX.o).trans q1,(h.cell 2 hz bX.o).trans q2⟩);have bQ:β w4 w4.drew:=(aX _ _).drew;have hdd:=bJ.o _ bQ;go_region_held3 (λW=>W.cell? ⟨db,8,aB⟩=aC (π p1.vb)/\W.cell? ⟨bx,0,aB⟩=aC (ν xk)/\W.cell? ⟨bx,1,aB⟩=aC (ν xm)/\W.cell? ⟨bx,2,aB⟩=aC (ν xn)) (first|(with_reducible assumption)) (first|(go_at_call 61;refine(xM _).mono ?_;rintro e w5 ⟨rfl,gH⟩;have qQ:β w4 w5:=kB (by with_reducible assumption) (gH.mono (gX (by with_reducible assumption)));have hcc:=bJ.o _ qQ)|(go_at_call 87;refine(lu.o _ (by with_reducible assumption)).mono ?_;rintro e w7 ⟨rfl,dH,hcm⟩;have AJ:=Lc.o _ _ (by with_reducible assumption) dH hcm))
    all_goals
     have gD:Hid (aq db p1 {E with l:=bj E xk xm 1 0 0 xn} wr w7):=η (aq.trans (bA.bY _ (ar.o.trans (Below.mono (by with_reducible assumption) ar.o.size))) (λ_ h=> .inl h) ⟨rfl,rfl,rfl,rfl⟩ dH);obtain⟨_,m0,m1,m2⟩:=AJ;have Ip:bx<w7.heap.size:=World.block_lt_of_cell? _ _ m0;clear dH hcm gH qQ hcc bQ hdd lu bJ lO ar Lc pE mh;obtain⟨p4,H4,e1,e2,e3,e4,qV,j8⟩:=gD.o;have ki:=η (H4.below ((aX w7.heap.size w7).alloc (aZ _) (aK #[ν 10,ν xm,ν 0,ν xn,ν xk] 45)));have km:=η (xP db p4 {E with l:=bj E xk xm 1 0 0 xn} [⟨10,xm,0,xn,xk⟩] w7.heap.size 1 _ ki.o (dS w7 45 #[ν 10,ν xm,ν 0,ν xn,ν xk] rfl) (by simp) (by simp) (by have:=dT.o.gl;simp only;omega));have px:Hid (∀W,aq db p4 {E with l:=bj E xk xm 1 0 0 xn,log:=E.log++ [⟨10,xm,0,xn,xk⟩]} (w7.alloc (aK #[ν 10,ν xm,ν 0,ν xn,ν xk] 45)) W->aq db p (oK D (L.take (k+1))) w2 W):=η (λW h=>by rw [HL.o,vF.o];exact HT.o W _ (aq.trans qV j8 ⟨e1,e2,e3,e4⟩ (aq.trans (bA.bY _ σ) (λ_ h=> .inl h) ⟨rfl,rfl,rfl,rfl⟩ h)));clear H4 e1 e2 e3 e4 qV j8 gD;go_wp2_with (go_at_call 55;refine km.o.mono ?_;rintro e w8 ⟨rfl,h8⟩;have eB:=η (px.o _ h8);clear h8)
     go_roundw
     case rel=>exact⟨k+1,by omega,by go_num,eB⟩
     case measure=>simp [ag];omega
   obtain rfl:k=aA L:=by omega
   rw [cU] at HP;go_wp2_with fail
   go_end0
   exact⟨rfl,aq.trans (bA.bY _ aV.o) (λ_ h=> .inl h) ⟨rfl,rfl,rfl,rfl⟩ HP.o⟩
theorem aJG {w:aJ} {base:Nat} {A:Option ai} {n c m:Nat} {e:bZ} {xs:List aN}(h:w.ownsRow base e m (aH A n c) n xs)(hA:A=aB):n=0/\c=0:=by
 rcases h.2 with⟨h1,h2⟩|⟨g,cap,cur,h1,_⟩
 ·injection h1 with h3 h4 h5;exact⟨h4,h5⟩
 rw [hA] at h1;injection h1 with h3;cases h3
def ij(w w':aJ)(A:Option ai)(c:Nat)(L:List Lg):Prop:=aW w' w'.heap.size A (bB L)/\(∀q,A=aC q->w.heap.size<=q.block)/\(A=aB->aA L=0/\c=0)
theorem ij.nil {w w':aJ}:ij w w' aB 0 []:=⟨aW.nil,(λq h=>by cases h),λ_=>⟨rfl,rfl⟩⟩
theorem ij.below {w w1 w2:aJ} {A:Option ai} {c:Nat} {L:List Lg}(h:ij w w1 A c L)(hb:aa w1.heap.size w1 w2):ij w w2 A c L:=⟨(h.1.below hb).mono hb.size,h.2⟩
theorem ij.wide {w0 w w1:aJ} {A:Option ai} {c:Nat} {L:List Lg}(h:ij w w1 A c L)(hz:w0.heap.size<=w.heap.size):ij w0 w1 A c L:=⟨h.1,λq hq=>bz hz (h.2.1 q hq),h.2.2⟩
theorem ij.cB {w w':aJ} {A:Option ai} {c:Nat} {L:List Lg}(h:w'.ownsRow w.heap.size 76 3 (aH A (aA L) c) (aA L) (bB L)):ij w w' A c L:=
 ⟨aW.cB h,λq hq=>(h.lt q.block (by rw [hq];rfl)).1,aJG h⟩
theorem ij.src {w w':aJ} {A:Option ai} {c:Nat} {L:List Lg}(h:ij w w' A c L):su w' A c L:=⟨h.1,h.2.2⟩
def aA0(L:List Lg)(w:aJ):dX->aJ->Prop:=λe w'=>∃A c,e=aT (aH A (aA L) c)/\ij w w' A c L/\aa w.heap.size w w'
def UM(w:aJ)(g l:List Lg)(err:Int):dX->aJ->Prop:=λe w'=>∃A c B d,e=aT (bC #[aH A (aA g) c,aH B (aA l) d,aG aF err])/\ij w w' A c g/\ij w w' B d l/\aa w.heap.size w w'
def GG(l:List Lg)(e:Int)(w:aJ)(ed:dX)(w':aJ):Prop:=∃A c,ed=aT (bC #[aH A (aA l) c,aG aF e])/\ij w w' A c l/\aa w.heap.size w w'
def aCT(x:ak)(L:List Lg)(w:aJ)(e:dX)(w':aJ):Prop:=
 (wthsE x L≠0/\GG [] (wthsE x L) w e w')\/(wthsE x L=0/\∃ks:List Int,ks.Pairwise (· < ·)/\(∀q,q∈ks↔∃y∈L,y.m=q)/\GG (ru (mL x L) ks) (gatE (mL x L) ks) w e w')
def a9x(A B:List Lg)(w:aJ)(e:dX)(w':aJ):Prop:=
 (sM A B≠0/\GG [] (sM A B) w e w')\/(sM A B=0/\∃ks:List Int,ks.Pairwise (· < ·)/\(∀q,q∈ks↔∃y∈A++B,y.m=q)/\GG (ni (fW (A++B)) ks) 0 w e w')
theorem a7X(L:List Lg)(xs:List Int)(A A':Option ai)(c c' bc:Nat)(w:aJ)(hs:aW w w.heap.size A (bB L))(hs':aW w w.heap.size A' (xs.map (aG aF)))(hb:w.cell? ⟨bc,0,aB⟩=aC (aH A (aA L) c))(gH:bc<w.heap.size)(hl:aA L<=100000)(hx:aA xs=aA L):
 aQ aM 196 #[aH A' (aA xs) c',π bc] w (aA0 (fB L xs) w):=by
 obtain⟨i0,bu,hz0,fw,hz2⟩:=dP a5W;have HS:=η hs;have U7:=η hs';have dJ:=η hb;have HX:=η hx;have nK:aA xs<=100000:=by omega
 clear hs hs' hb hx;go_enter func196,ntmps196
 go_wp2_with fail
 go_loopw [4,5,6,9] (λu _ _ i wr=>∃k:Nat,k<=aA xs/\i=ν k/\Hid (wr.ownsRow w.heap.size 76 3 u (aA (fB (L.take k) (xs.take k))) (bB (fB (L.take k) (xs.take k))))/\Hid (β w wr)) (λ_ _ _ i _=>aA xs-(ag i).toNat)
 case atStart=>exact⟨0,bM _,rfl,⟨by simp [fB,bB],aS ⟨rfl,rfl⟩⟩,aX _ _⟩
 case round=>
  obtain⟨k,hk,rfl,HO,HB⟩:=hrel;have hsz:=HB.o.size;by_cases hlt:k<aA xs
  ·have Wo:k<aA L:=by have:=HX.o;omega
   obtain⟨b',o',rfl,hb',hc'⟩:=(U7.o.below HB.o).at (k:=k) (by simpa using hlt);rw [xC] at hc';have HF:=η (aKm Wo hlt);have Bn:=aKl L xs k;by_cases hp:0<xs[k]
   ·obtain⟨b,o,rfl,hb2,-,-,-⟩:=oQ (HS.o.below HB.o) Wo;have Ld:Hid (∀W,β w W->W.cell? ⟨bc,0,aB⟩=aC (aH (aC ⟨b,o,aB⟩) (aA L) c)/\W.cell? ⟨b,o+k*3,aB⟩=aC (ν L[k].m)/\W.cell? ⟨b,o+k*3+1,aB⟩=aC (ν L[k].a)):=λW hW=>by
     obtain⟨b9,o9,e9,_,d0,d1,d2⟩:=oQ (HS.o.below hW) Wo;injection e9 with e9;injection e9 with Va Vb;subst Va Vb;exact⟨(hW.cell (p:=⟨bc,0,aB⟩) gH).trans dJ.o,d0,d1⟩
    obtain⟨q0,q1,q2⟩:=Ld.o _ HB.o;rw [ifP hp] at HF;have ej:(0:Int)<=(k:Int):=by omega
    have hkb:(k:Int)<(aA L:Int):=by omega
    generalize fB (L.take k) (xs.take k)=ys at*;go_wp2_with fail
    go_region_held3 (λw'=>w'.cell? ⟨bc,0,aB⟩=aC (aH (aC ⟨b,o,aB⟩) (aA L) c)/\w'.cell? ⟨b,o+k*3,aB⟩=aC (ν L[k].m)/\w'.cell? ⟨b,o+k*3+1,aB⟩=aC (ν L[k].a)) (first|(with_reducible exact Ld.o _ HB.o.drew)|(with_reducible exact Ld.o _ (HB.o.drew.alloc hsz _))|exact Ld.o _ (HB.o.alloc hsz _).drew|(with_reducible exact Ld.o _ py.o)) ((refine Ad _ rfl _ _ 39 rfl w.heap.size 76 i0 _ 3 24 tG bu hz0 fw hz2 rfl (by decide) _ (aA ys) (bB ys) rfl (HO.o.alloc _) ⟨wr.heap.size,0,aB⟩ 1 1 (Lg.cells ⟨L[k].m,L[k].a,xs[k]⟩) rfl rfl (dS _ _ #[_,_,_] (by simp)) (a5T ⟨L[k].m,L[k].a,xs[k]⟩) (by decide) (by simp only [bO];omega) (by omega) (by simp;omega) _ rfl ?_;intro g cap w4 hown1 dK _ _;have dY:=η hown1;have py:Hid (β w w4):=(HB.o.alloc hsz _).drew.grown dK (by show w.heap.size<=(wr.alloc _).heap.size;simp;omega) (λj hj=>eU HO.o j hj);clear hown1 dK))
    have fP:Hid (w4.ownsRow w.heap.size 76 3 (aH (aC ⟨g,0,aB⟩) (aA ys+1) cap) (aA (fB (L.take (k+1)) (xs.take (k+1)))) (bB (fB (L.take (k+1)) (xs.take (k+1))))):=by show kF _ _ _ _ _ _ _;rw [HF.o,a5V,cN,uT];exact dY.o
    go_wp2_with fail
    go_roundw
    case rel=>exact⟨k+1,by omega,by go_num,fP,py⟩
    case measure=>simp [ag];omega
   rw [ifN hp,List.append_nil] at HF;have jq:=HO.o;rw [<-HF.o] at jq;have cF:=η jq;clear jq;go_wp2_with fail
   go_roundw
   case rel=>exact⟨k+1,by omega,by go_num,cF,HB⟩
   case measure=>simp [ag];omega
  obtain rfl:k=aA xs:=by omega
  have hO:=HO.o;rw [cU,List.take_of_length_le (by have:=HX.o;omega)] at hO;obtain⟨A1,c1,rfl⟩:=bL hO;have qh:Hid (ij w _ A1 c1 (fB L xs)):=η (ij.cB hO);clear hO;go_wp2_with fail
  go_ret;exact⟨A1,c1,rfl,qh.o,HB.o⟩
theorem a7i(cE:Int)(L:List Lg)(A:Option ai)(c:Nat)(w:aJ)(hA:aL cE)(hs:aW w w.heap.size A (bB L))(hI:∀x∈L,aL x.n)(hl:aA L<=100000):
 aQ aM 137 #[ν cE,aH A (aA L) c] w (UM w (jn cE L) (jv cE L) (jO cE L)):=by
 have hb0:β w (w.alloc (aK #[aH A (aA L) c] 39)):=(aX _ _).alloc (aZ _) _;have hs0:=(hs.below hb0).mono hb0.size;have HC:=η (a7U cE L A c _ hA hs0 hI hl);have aY:=η hb0;have qE:=η hs0;have dJ:Hid (∀W,aa (w.heap.size+1) (w.alloc (aK #[aH A (aA L) c] 39)) W->W.cell? ⟨w.heap.size,0,aB⟩=aC (aH A (aA L) c)):=λW hW=>by rw [hW.cell (p:=⟨w.heap.size,0,aB⟩) (by simp),cM _ _ _ _ rfl];rfl
 have HV:=η (show jn cE L=if jO cE L=0 then fB L (dN cE (bG L)) else [] from rfl);have HW:=η (show jv cE L=if jO cE L=0 then fB L (oT (bG L) (dN cE (bG L))) else [] from rfl);have a4f:(w.alloc (aK #[aH A (aA L) c] 39)).heap.size=w.heap.size+1:=by simp
 have HI:=η hI;have EP:=η hA;have HZ0:=η a4f;clear hs hs0 hb0 hI hA a4f;by_cases h0:jO cE L=0
 ·have pn:=η (Q3 h0).1;have hG:=F5 pn.o;have BB:=η hG.len;have JW:=η hG.err;have mP:=η (aHp pn.o);have EM:Hid (jn cE L=fB L (dN cE (bG L))):=by show _=_;rw [HV.o,ifP h0]
  have lR:Hid (jv cE L=fB L (oT (bG L) (dN cE (bG L)))):=by show _=_;rw [HW.o,ifP h0]
  have HE:=η h0;have JN:Hid (∀x∈dN cE (bG L),aL x):=λx hx=>by
   obtain⟨i,hi,rfl⟩:=tD.1 hx;have hi':i<aA (bG L):=by rw [<-hG.len];exact hi
   have:=hG.bd i hi hi';have:=MN HI.o _ (cK hi');unfold aL at*;omega
  clear hG HV HW;rw [h0] at HC;clear h0;go_enter aAm,aBZ
  go_wp2_with fail
  refine HC.o.mono ?_;rintro e w1 ⟨rfl,hb1⟩;have aR:Hid (aa (w.heap.size+1) (w.alloc (aK #[aH A (aA L) c] 39)) w1):=by rw [<-HZ0.o];exact hb1
  have sz1:w.heap.size<w1.heap.size:=by have:=aR.o.size;have:=HZ0.o;omega
  have c1:=dJ.o _ aR.o;have cj:Hid (aW w1 w1.heap.size A (bB L)):=(qE.o.below hb1).mono hb1.size;have Ec:Hid (β w w1):=aY.o.trans (hb1.mono (by simp));clear hb1 HC;go_wp2_with fail
  refine(V0 L A c _ cj.o hl).mono ?_;rintro e w2 ⟨A2,k2,rfl,hs2,hb2⟩;have cO:=η hs2;have aV:Hid (aa (w.heap.size+1) (w.alloc (aK #[aH A (aA L) c] 39)) w2):=aR.o.trans (hb2.mono (by omega));have sz2:w.heap.size<w2.heap.size:=by have:=hb2.size;omega
  have a9c:Hid (aW w2 w2.heap.size A (bB L)):=(cj.o.below hb2).mono hb2.size;have qi:Hid (β w w2):=Ec.o.trans (hb2.mono (by omega));have rz:aA (bG L)<=bO:=by rw [qu];unfold bO;omega
  have aGF:aA (bG L)<=1000000:=by rw [qu];omega
  clear hs2 hb2 c1;go_wp2_with fail
  refine(Yu cE (bG L) A2 k2 _ EP.o (MN HI.o) cO.o rz).mono ?_;rintro e w3 ⟨A3,k3,rfl,hs3,hb3⟩;have sj:=η hs3;have af:Hid (aa (w.heap.size+1) (w.alloc (aK #[aH A (aA L) c] 39)) w3):=aV.o.trans (hb3.mono (by omega));have sz3:w.heap.size<w3.heap.size:=by have:=hb3.size;omega
  have a9e:Hid (aW w3 w3.heap.size A (bB L)):=(a9c.o.below hb3).mono hb3.size;have a9d:Hid (aW w3 w3.heap.size A2 ((bG L).map (aG aF))):=(cO.o.below hb3).mono hb3.size;have zR:Hid (β w w3):=qi.o.trans (hb3.mono (by omega));clear hs3 hb3;go_wp2_with fail
  refine(aAC (bG L) (dN cE (bG L)) A2 A3 k2 k3 _ (MN HI.o) a9d.o sj.o aGF).mono ?_;rintro e w4 ⟨A4,k4,rfl,j8,hb4⟩;have jT:=η j8;have ar:Hid (aa (w.heap.size+1) (w.alloc (aK #[aH A (aA L) c] 39)) w4):=af.o.trans (hb4.mono (by omega));have sz4:w.heap.size<w4.heap.size:=by have:=hb4.size;omega
  have c4:=dJ.o _ ar.o;have a0C:Hid (aW w4 w4.heap.size A (bB L)):=(a9e.o.below hb4).mono hb4.size;have a9f:Hid (aW w4 w4.heap.size A3 ((dN cE (bG L)).map (aG aF))):=(sj.o.below hb4).mono hb4.size;have rV:Hid (β w w4):=zR.o.trans (hb4.mono (by omega));have xl1:Hid (aA (dN cE (bG L))=aA L):=by show _=_;rw [BB.o,qu]
  have xl2:Hid (aA (oT (bG L) (dN cE (bG L)))=aA L):=by show _=_;rw [mP.o.1,qu]
  clear j8 hb4;go_wp2_with fail
  refine(a7X L (dN cE (bG L)) A A3 c k3 w.heap.size _ a0C.o a9f.o c4 sz4 hl xl1.o).mono ?_;rintro e w5 ⟨A5,k5,rfl,hs5,dA⟩;have Cq:=η (hs5.wide rV.o.size);have cY:Hid (aa (w.heap.size+1) (w.alloc (aK #[aH A (aA L) c] 39)) w5):=ar.o.trans (dA.mono (by omega));have sz5:w.heap.size<w5.heap.size:=by have:=dA.size;omega
  have c5:=dJ.o _ cY.o;have a9h:Hid (aW w5 w5.heap.size A (bB L)):=(a0C.o.below dA).mono dA.size;have a9g:Hid (aW w5 w5.heap.size A4 ((oT (bG L) (dN cE (bG L))).map (aG aF))):=(jT.o.below dA).mono dA.size;have Ct:Hid (β w w5):=rV.o.trans (dA.mono (by omega));clear hs5 dA c4;go_wp2_with fail
  refine(a7X L (oT (bG L) (dN cE (bG L))) A A4 c k4 w.heap.size _ a9h.o a9g.o c5 sz5 hl xl2.o).mono ?_;rintro e w6 ⟨A6,k6,rfl,hs6,iQ⟩;have GX:=η (hs6.wide Ct.o.size);have a9i:Hid (ij w w6 A5 k5 (fB L (dN cE (bG L)))):=Cq.o.below iQ;have UB:Hid (β w w6):=Ct.o.trans (iQ.mono (by omega));clear hs6 iQ c5;go_wp2_with fail
  go_ret3;rw [EM.o,lR.o,HE.o];exact⟨A5,k5,A6,k6,rfl,a9i.o,GX.o,UB.o⟩
 have EM:Hid (jn cE L= []):=by show _=_;rw [HV.o,ifN h0]
 have lR:Hid (jv cE L= []):=by show _=_;rw [HW.o,ifN h0]
 have h0b:(jO cE L !=0)=aO:=by simpa [bne] using h0
 rw [EM.o,lR.o];clear h0 HV HW EM lR;generalize jO cE L=E at*;generalize Ab cE L=V at*;go_enter aAm,aBZ
 go_wp2_with fail
 refine HC.o.mono ?_;rintro e w1 ⟨rfl,hb1⟩;have Ec:Hid (β w w1):=aY.o.trans (hb1.mono (by simp));clear hb1;go_wp2_with fail
 go_ret3;exact⟨aB,0,aB,0,rfl,ij.nil,ij.nil,Ec.o⟩
theorem a3X {w:aJ} {base b:Nat} {m:List (Int×aN)} {f:Int->List Int}(h:lL w base b m f)(hl:aA m<=100000)(hf:∀k,aA (f k)<=100000/\∀z∈f k,aL z):
 aQ aM 198 #[.map (aC b)] w (GG (ru f (nx m)) (gatE f (nx m)) w):=by
 obtain⟨i0,bu,hz0,fw,hz2⟩:=dP Nf;have HG:=η h;have sq:=η (aKr h (by omega));have HF:=η hf;have eK:=aHW m;have Og:Hid (∀k∈nx m,aL k):=η λk hk=>by have h1:k∈m.map (·.1):=(a0K _ _).mem_iff.1 hk;obtain⟨p,hp,rfl⟩:=di.1 h1;exact h.dom p hp
 generalize KX:nx m=ks at*;have Oh:=η KX;have ir:=hl;rw [<-eK] at ir;clear h hf KX;go_enter func198,ntmps198
 go_wp2_with (first|(go_at_call 231;refine(aHX _ _).mono ?_;rintro e w' ⟨rfl,rfl⟩)|(go_at_call 230;refine sq.o.mono ?_;rintro e w1 ⟨A,c,rfl,hs1,hb1⟩;rw [<-eK];have cj:=η hs1;have aR:Hid (β w w1):=η (((aX _ w).alloc (aZ _) _).trans (hb1.mono (by omega)));clear hs1 hb1))
 have HZW:Hid (w.heap.size<=w1.heap.size):=η aR.o.size;go_loopw [4,6,7,8,13] (λu _ _ _ i wr=>∃k:Nat,k<=aA ks/\i=ν k/\Hid (∀j (hj:j<aA ks),j<k->aL (sumI (f ks[j])))/\Hid (wr.ownsRow w1.heap.size 76 3 u (aA (ni f (ks.take k))) (bB (ni f (ks.take k))))/\Hid (β w1 wr)) (λ_ _ _ _ i _=>aA ks-(ag i).toNat)
 case atStart=>exact⟨0,bM _,rfl,λj hj h=>absurd h (Nat.not_lt_zero _),⟨by simp [ni,bB],aS ⟨rfl,rfl⟩⟩,aX _ _⟩
 case round=>
  obtain⟨k,hk,rfl,HK,HO,HB⟩:=hrel;have hsz:=HB.o.size;have aH0:=aR.o.size;have cC:Hid (β w wr):=η (aR.o.trans (HB.o.mono aH0));by_cases hlt:k<aA ks
  ·obtain⟨b',o',rfl,hb',hc'⟩:=(cj.o.below HB.o).at (k:=k) (by simpa using hlt);rw [xC] at hc';have FM:aL ks[k]:=Og.o _ (cK hlt);have TZ:=η (HG.o.below (aZ _) cC.o);have aGo:=TZ.o.look (q:=ks[k]) FM Hc;obtain⟨A2,c2,jt⟩:=bL (TZ.o.slot ks[k]);rw [jt] at aGo;have Cs:Hid (aW wr wr.heap.size A2 ((f ks[k]).map (aG aF))):=η (aW.cB (jt▸TZ.o.slot ks[k]));have gZ:=(HF.o ks[k]).1;have JV:=η (HF.o ks[k]).2;have cG:=η (aFu f hlt);have Bn:aA (ni f (ks.take k))<=100000:=by unfold ni;rw [iX,vN];omega
   have Ti:Hid (∀j (hj:j<aA ks),j<k->aL (sumI (f ks[j]))):=HK;by_cases Dq:aL (sumI (f ks[k]))
   ·have lq:Hid (∀j (hj:j<aA ks),j<k+1->aL (sumI (f ks[j]))):=η λj hj h=>by
     by_cases e:j=k
     ·subst e;exact Dq
     exact Ti.o j hj (by omega)
    have hV:=(eH Dq).1;have hE:=(eH Dq).2;generalize hq:ks[k]=q at*;have HQ:=η hq;clear hq Dq HK;generalize ju:sumI (f q)=sm at*;have GY:=η ju;clear ju;generalize ni f (ks.take k)=ys at*;go_wp2_with (first|(go_at_call 104;refine(EB (f q) A2 c2 _ JV.o Cs.o (by omega)).mono ?_;rintro e w2 ⟨rfl,hb2⟩;rw [GY.o,hV,hE];have aV:=η hb2;have sz2:=hb2.size;clear hb2)|(at_builtin;refine jC _ rfl _ _ 39 rfl w1.heap.size 76 i0 _ 3 24 tG bu hz0 fw hz2 rfl (by decide) _ (aA ys) (bB ys) rfl ((Nu HO.o aV.o).alloc _) ⟨w2.heap.size,0,aB⟩ 1 1 (Lg.cells ⟨q,0,sm⟩) rfl rfl (dS _ _ #[_,_,_] (by simp)) (Km ⟨q,0,sm⟩) (by simp only [bO];omega) (by omega) (by simp;omega) ?_))
    intro v' w4 hown1 dK _;obtain⟨A4,c4,rfl⟩:=bL hown1;have fP:Hid (w4.ownsRow w1.heap.size 76 3 (aH A4 (aA ys+1) c4) (aA (ni f (ks.take (k+1)))) (bB (ni f (ks.take (k+1))))):=by show kF _ _ _ _ _ _ _;rw [cG.o,aHk,cN,uT];exact hown1
    have ar:Hid (β w1 w4):=η (((HB.o.trans (aV.o.mono hsz)).alloc (by omega) _).grown dK (by simp;omega) (λj hj=>eU HO.o j hj));clear hown1 dK;go_wp2_with fail
    go_roundw
    case rel=>exact⟨k+1,by omega,by go_num,lq,fP,ar⟩
    case measure=>simp [ag];omega
   have hE:=(gw Dq).2;have yE:=η (a3U hlt (λj hj=>HK.o j (by omega) hj) Dq);generalize hq:ks[k]=q at*;go_wp2_with (go_at_call 104;refine(EB (f q) A2 c2 _ JV.o Cs.o (by omega)).mono ?_;rintro e w2 ⟨rfl,hb2⟩;rw [hE];have aV:=η hb2;have sz2:=hb2.size;clear hb2)
   go_ret2;refine⟨aB,0, ?_, ?_,cC.o.trans (aV.o.mono cC.o.size)⟩
   ·rw [yE.o];unfold ru;rw [yE.o,ifN (by decide)];rfl
   unfold ru;rw [yE.o,ifN (by decide)];exact ij.nil
  obtain rfl:k=aA ks:=by omega
  have hE:=Vk (f:=f) (ks:=ks) λj hj=>HK.o j hj hj
  have hO:=HO.o;rw [cU] at hO;obtain⟨A3,c3,rfl⟩:=bL hO;have qh:=η ((ij.cB (w:=w1) (L:=ni f ks) hO).wide HZW.o);have hL:ru f ks=ni f ks:=by unfold ru;rw [ifP hE]
  have CZ:=η (kh hL hE);clear hO hE hL;go_wp2_with fail
  go_ret2;exact⟨A3,c3,by rw [CZ.o.1,CZ.o.2];rfl,by rw [CZ.o.1];exact qh.o,cC.o⟩
theorem aJN(dC:Int)(L:List Lg)(A:Option ai)(c:Nat)(w:aJ)(hA:aL dC)(hs:aW w w.heap.size A (bB L))(hI:∀x∈L,aL x.n)(hl:aA L<=100000):
 aQ aM 142 #[ν dC,aH A (aA L) c] w (UM w (zn dC L) (zo dC L) (yb dC L)):=by
 have HC:=η (VI L A c w hs hI hl);have HP:Hid (∀W,β w W->aQ aM 137 #[ν dC,aH A (aA L) c] W (UM W (jn dC L) (jv dC L) (jO dC L))):=η λW hW=>a7i dC L A c W hA ((hs.below hW).mono hW.size) hI hl
 clear hs hI hA;by_cases he:oH L=0
 ·obtain⟨e1,e2,e3⟩:=aJO (dC:=dC) he;rw [e1,e2,e3];rw [he] at HC;clear e1 e2 e3 he;go_enter aAn,aBa
  go_wp2_with fail
  refine HC.o.mono ?_;rintro e w1 ⟨rfl,hb1⟩;have aR:=η hb1;have hz:=hb1.size;clear hb1;go_wp2_with fail
  refine(HP.o w1 aR.o).mono ?_;rintro e w2 ⟨A1,c1,A2,c2,rfl,hs1,hs2,hb2⟩;have cj:=η (hs1.wide hz);have cO:=η (hs2.wide hz);have aV:Hid (β w w2):=η (aR.o.trans (hb2.mono hz));clear hs1 hs2 hb2;go_wp2_with fail
  go_ret3;exact⟨A1,c1,A2,c2,rfl,cj.o,cO.o,aV.o⟩
 obtain⟨e1,e2,e3⟩:=aJM (dC:=dC) he;rw [e1,e2,e3];generalize oH L=ce at*;clear e1 e2 e3;go_enter aAn,aBa
 go_wp2_with fail
 refine HC.o.mono ?_;rintro e w1 ⟨rfl,hb1⟩;have aR:=η hb1;clear hb1;go_wp2_with fail
 go_ret3;exact⟨aB,0,aB,0,rfl,ij.nil,ij.nil,aR.o⟩
theorem a9y(X Y:List Lg)(A B:Option ai)(c d:Nat)(w:aJ)(hA:su w A c X)(hB:su w B d Y)(hX:aA X<=500)(hY:aA Y<=500)(QS:∀y∈X,aL y.m/\aL y.n)(QT:∀y∈Y,aL y.m/\aL y.n):
 aQ aM 141 #[aH A (aA X) c,aH B (aA Y) d] w (a9x X Y w):=by
 have CV:Hid (∀W,β w W->aQ aM 188 #[aH A (aA X) c] W λe w'=>e=aT (ν (dF X))/\β W w'):=η λW hW=>Q2 X A c W (hA.below hW).eA (λy hy=>(QS y hy).2) (by omega)
 have B2:Hid (∀W,β w W->aQ aM 188 #[aH B (aA Y) d] W λe w'=>e=aT (ν (dF Y))/\β W w'):=η λW hW=>Q2 Y B d W (hB.below hW).eA (λy hy=>(QT y hy).2) (by omega)
 have HKA:Hid (∀W,β w W->aQ aM 199 #[aH A (aA X) c] W λe w'=>e=aT (ν (oH X))/\β W w'):=η λW hW=>VI X A c W (hA.below hW).eA (λy hy=>(QS y hy).2) (by omega)
 have Cg:Hid (∀W,β w W->aQ aM 199 #[aH B (aA Y) d] W λe w'=>e=aT (ν (oH Y))/\β W w'):=η λW hW=>VI Y B d W (hB.below hW).eA (λy hy=>(QT y hy).2) (by omega)
 have aR:Hid (β w (w.alloc (aK #[aH A (aA X) c,aH B (aA Y) d] 39))):=η σ;have g0:(w.alloc (aK #[aH A (aA X) c,aH B (aA Y) d] 39)).cell? ⟨w.heap.size,0,aB⟩=aC (aH A (aA X) c):=by rw [cM _ _ _ _ rfl];rfl
 have g1:(w.alloc (aK #[aH A (aA X) c,aH B (aA Y) d] 39)).cell? ⟨w.heap.size,1,aB⟩=aC (aH B (aA Y) d):=by rw [cM _ _ _ _ rfl];rfl
 have NS:w.heap.size<(w.alloc (aK #[aH A (aA X) c,aH B (aA Y) d] 39)).heap.size:=by simp
 have HA:=η hA;have HB:=η hB;have Zg:=η QS;have Zh:=η QT;clear hA hB QS QT;have mZ:= @run_makeMap aM;go_enter func141,ntmps141
 go_wp2_with fail
 have G0:=η g0;have G1:=η g1;generalize w.alloc (aK #[aH A (aA X) c,aH B (aA Y) d] 39)=w1 at*;refine ux 3 ?_;rw [eI];go_wp2_with fail
 refine(CV.o _ aR.o).mono ?_;rintro e w2 ⟨rfl,hb2⟩;have aV:Hid (β w w2):=τ aR hb2;have r0:w2.cell? ⟨w.heap.size,0,aB⟩=aC (aH A (aA X) c):=(hb2.cell (p:=⟨w.heap.size,0,aB⟩) NS).trans G0.o;have r1:w2.cell? ⟨w.heap.size,1,aB⟩=aC (aH B (aA Y) d):=(hb2.cell (p:=⟨w.heap.size,1,aB⟩) NS).trans G1.o;have aH3:w.heap.size<w2.heap.size:=by have:=hb2.size;omega
 have R1:=η r1;clear hb2 aR G0 G1 NS;rcases a5C X Y with⟨h1,h2⟩|⟨h1,h2,h3⟩|⟨h1,h2,h3,h4⟩|⟨h1,h2,h3,h4,h5⟩|⟨h1,h2,h3,h4,h5⟩
 ·have HE:=η h2;have HN:Hid (sM X Y≠0):=η (by rw [h2];exact h1);clear h2;go_wp2_with fail
  go_ret2;exact aS ⟨HN.o,aB,0,by rw [HE.o];rfl,ij.nil,aV.o⟩
 all_goals
  rw [h1];go_wp2_with fail
  rw [eI];go_wp2_with fail
  refine(B2.o _ aV.o).mono ?_;rintro e w3 ⟨rfl,hb3⟩;have af:Hid (β w w3):=τ aV hb3;clear hb3 aV r0 r1 aH3 R1
 ·have HE:=η h3;have HN:Hid (sM X Y≠0):=η (by rw [h3];exact h2);clear h3;go_wp2_with fail
  go_ret2;exact aS ⟨HN.o,aB,0,by rw [HE.o];rfl,ij.nil,af.o⟩
 all_goals
  rw [h2];go_wp2_with fail
  rw [eI];go_wp2_with fail
  refine(HKA.o _ af.o).mono ?_;rintro e w4 ⟨rfl,hb4⟩;have ar:Hid (β w w4):=τ af hb4;clear hb4 af
 ·have HK:oH X=1:=by unfold oH;rw [ifN (by omega),ifP h3]
  rw [HK];have HE:=η h4;have HN:Hid (sM X Y≠0):=η (by rw [h4];decide);clear h4 HK;go_wp2_with fail
  go_ret2;exact aS ⟨HN.o,aB,0,by rw [HE.o];rfl,ij.nil,ar.o⟩
 all_goals
  rw [show oH X=0 from by unfold oH;rw [ifN (by omega),ifN (by rw [h3];decide)]];go_wp2_with fail
  refine(Cg.o _ ar.o).mono ?_;rintro e w5 ⟨rfl,dA⟩;have cY:Hid (β w w5):=τ ar dA;clear dA ar
 ·have HK:oH Y=1:=by unfold oH;rw [ifN (by omega),ifP h4]
  rw [HK];have HE:=η h5;have HN:Hid (sM X Y≠0):=η (by rw [h5];decide);clear h5 HK;go_wp2_with fail
  go_ret2;exact aS ⟨HN.o,aB,0,by rw [HE.o];rfl,ij.nil,cY.o⟩
 rw [show oH Y=0 from by unfold oH;rw [ifN (by omega),ifN (by rw [h4];decide)]];go_wp2_with fail
 obtain⟨L,hL⟩:∃L,L=X++Y:=⟨_,rfl⟩;have HL:=η hL;have iQ:β w5 ((w5.alloc (.map #[] 0)).alloc (aK #[aH A (aA X) c,aH B (aA Y) d] 39)):=σ.alloc (by simp) _;have B4:=η (aEP X Y A B c d (w5.heap.size+1) _ (HA.o.below (cY.o.trans (iQ.mono cY.o.size))) (HB.o.below (cY.o.trans (iQ.mono cY.o.size))) (by rw [cM _ _ _ _ (by simp)];rfl) (by rw [cM _ _ _ _ (by simp)];rfl) (by simp) (by omega) (by omega));have hg7:=lL.made w5;have AO:((w5.alloc (.map #[] 0)).alloc (aK #[aH A (aA X) c,aH B (aA Y) d] 39)).heap.size=w5.heap.size+2:=by simp
 have ft:aa w5.heap.size (w5.alloc (.map #[] 0)) ((w5.alloc (.map #[] 0)).alloc (aK #[aH A (aA X) c,aH B (aA Y) d] 39)):=(aX _ _).alloc (by simp) _;have Qo:=hg7.below (B:=(w5.alloc (.map #[] 0)).heap.size) (aZ _) ((aX _ _).alloc (aZ _) (aK #[aH A (aA X) c,aH B (aA Y) d] 39));rw [<-hL] at B4;have uR:=η AO;have jF:=η Qo;have gK:=η iQ;clear iQ hg7 AO ft Qo hL;have hLl:aA L<=1000:=by rw [HL.o,cN];omega
 have uM:Hid (∀y∈L,aL y.m/\aL y.n):=η λy hy=>by
  rw [HL.o] at hy;rcases gN.1 hy with h|h
  ·exact Zg.o y h
  exact Zh.o y h
 refine B4.o.mono ?_;rintro e w7 ⟨A7,c7,rfl,hO7,ft⟩;have Zi:Hid (JI L w w7 w5.heap.size (w5.heap.size+2) 0 (aH A7 (aA L) c7) []):=η ⟨by rw [show fW (L.take 0)=λ_=> [] from by funext q;simp [fW]];exact jF.o.below (aZ _) ft,aZ _,λq=>by simp,by rw [<-uR.o];exact hO7,by omega,cY.o.size,cY.o.trans ((gK.o.trans (ft.mono (by rw [uR.o];omega))).mono cY.o.size)⟩;have aGq:=mZ;clear mZ aGq hO7 ft B4 jF gK uR;generalize w5.heap.size=b at*;generalize b+2=lo at*;clear cY;go_wp2_with fail
 go_loopw [48] (λi wr=>∃k:Nat,k<=aA L/\i=ν k/\Hid (∃m,JI L w wr b lo k (aH A7 (aA L) c7) m)) (λi _=>aA L-(ag i).toNat)
 case atStart=>exact⟨0,bM _,rfl,_,Zi.o⟩
 case round=>
  clear Zi;obtain⟨k,hk,rfl,HM⟩:=hrel;obtain⟨m,hm⟩:=HM.o;have HW:=η hm;have hsz:=hm.b.size;clear hm HM;by_cases hlt:k<aA L
  ·obtain⟨b',o,rfl,hb',d0,d1,d2⟩:=oQ (aW.cB HW.o.own) hlt;obtain⟨tX,xW⟩:=uM.o _ (cK hlt);obtain⟨q,hq⟩:∃q,q=L[k].m:=⟨_,rfl⟩;obtain⟨wv,hn⟩:∃n,n=L[k].n:=⟨_,rfl⟩;obtain⟨av,KP⟩:∃a,a=L[k].a:=⟨_,rfl⟩;rw [<-hq] at d0 tX;rw [<-hn] at d2 xW;rw [<-KP] at d1;have HQ:=η (kh hq hn);clear hq hn KP;go_wp2_with fail
   have hgb:wr.heap.size<(wr.alloc (aK #[ν q,ν av,ν wv] 76)).heap.size:=by simp
   have lT:Hid ((wr.alloc (aK #[ν q,ν av,ν wv] 76)).cell? ⟨wr.heap.size,0,aB⟩=aC (ν q)/\(wr.alloc (aK #[ν q,ν av,ν wv] 76)).cell? ⟨wr.heap.size,2,aB⟩=aC (ν wv)):=η ⟨by rw [cM _ _ _ _ rfl];rfl,by rw [cM _ _ _ _ rfl];rfl⟩;have gF:Hid (JI L w (wr.alloc (aK #[ν q,ν av,ν wv] 76)) b lo k (aH (aC ⟨b',o,aB⟩) (aA L) c7) m):=η (HW.o.below σ);have rU:Hid (aC wr.heap.size≠(mK q m).ownBlock):=η λe=>by have:=((HW.o.g.slot q).lt _ e.symm).2;omega
   have yG:Hid (wr.heap.size≠b):=η (by have:=HW.o.g.map.lt;omega);clear d0 d1 d2;generalize wr.alloc (aK #[ν q,ν av,ν wv] 76)=w2 at*;generalize wr.heap.size=gb at*;have IC:=gF.o.g.map;have kT:Hid (∀W,ei aM 3 encI W b m->(Instr.lookup 272 (.map (aC b)) (ν q) aP).run aM W= .ok (mK q m) W):=η λW hW=>ei.look (P:=aM) aP Bo Hc (z:=aH aB 0 0) (by kernel_rfl) hW gF.o.g.dom tX
   refine wp_region_held_drew (S:=λw'=>w'.cell? ⟨gb,0,aB⟩=aC (ν q)/\w'.cell? ⟨gb,2,aB⟩=aC (ν wv)) (by kernel_rfl) ?_ (λhHeld=> ?_)
   ·exact lT.o
   obtain⟨i0,bu,hz0,fw,hz2⟩:=dP a4o;have gZ:aA (fW (L.take k) q)<=1000:=by have:=(V6 (L:=L.take k) (λy hy=>(uM.o y (List.mem_of_mem_take hy)).2) q).1;rw [vN] at this;omega
   have FE:b+1<=w2.heap.size:=by have:=IC.lt;omega
   refine kA (i:=0) (v:= .map (aC b)) rfl (by kernel_rfl) (by kernel_rfl) (by kernel_rfl) (λ_ _ _ h=>h) (aS ⟨by rfl,λw' hSw=>by obtain⟨IE,IG⟩:=hSw;go_simp⟩) hHeld ?_;refine kA (i:=1) (v:=π gb) rfl (by kernel_rfl) (by kernel_rfl) (by kernel_rfl) (λ_ _ _ h=>h) (aS ⟨by rfl,λw' hSw=>by obtain⟨IE,IG⟩:=hSw;go_simp⟩) hHeld ?_;refine kA (i:=2) (v:=ν q) rfl (by kernel_rfl) (by kernel_rfl) (by kernel_rfl) (λ_ _ _ h=>h) (aS ⟨by rfl,λw' hSw=>by obtain⟨IE,IG⟩:=hSw;go_simp⟩) hHeld ?_;refine kA (i:=3) (v:= .map (aC b)) rfl (by kernel_rfl) (by kernel_rfl) (by kernel_rfl) (λ_ _ _ h=>h) (aS ⟨by rfl,λw' hSw=>by obtain⟨IE,IG⟩:=hSw;go_simp⟩) hHeld ?_;refine kA (i:=4) (v:=π gb) rfl (by kernel_rfl) (by kernel_rfl) (by kernel_rfl) (λ_ _ _ h=>h) (aS ⟨by rfl,λw' hSw=>by obtain⟨IE,IG⟩:=hSw;go_simp⟩) hHeld ?_;refine kA (i:=5) (v:=ν q) rfl (by kernel_rfl) (by kernel_rfl) (by kernel_rfl) (λ_ _ _ h=>h) (aS ⟨by rfl,λw' hSw=>by obtain⟨IE,IG⟩:=hSw;go_simp⟩) hHeld ?_;refine kA (i:=7) (v:=bD (aC ⟨gb,2,aB⟩)) rfl (by kernel_rfl) (by kernel_rfl) (by kernel_rfl) (λ_ _ _ h=>h) (aS ⟨by rfl,λw' hSw=>by obtain⟨IE,IG⟩:=hSw;go_simp⟩) hHeld ?_;refine kA (i:=8) (v:=ν wv) rfl (by kernel_rfl) (by kernel_rfl) (by kernel_rfl) (λ_ _ _ h=>h) (aS ⟨by rfl,λw' hSw=>by obtain⟨IE,IG⟩:=hSw;go_simp⟩) hHeld ?_;refine pZ (rs:= [6,9]) (by kernel_rfl) (by simp) ?_;refine mq rfl (λK hK=> ?_) (mq rfl (λK hK=> ?_) oZ)
   ·have hlk:=kT.o _ IC.drew;go_simp
    refine hK.o _ _ hHeld (λhHeld=> ?_);clear hK K hlk;refine pZ (rs:= [9]) (by kernel_rfl) (by simp) ?_;refine mq rfl (λK hK=> ?_) oZ;go_simp
    refine hK.o _ _ ⟨(gu (w:=w2) (fL _ _ hgb)).trans lT.o.1,(gu (w:=w2) (fL _ _ hgb)).trans lT.o.2⟩ (λhHeld=> ?_);clear hK K;refine pZ (rs:= [10]) (by kernel_rfl) (by simp) ?_;refine mq rfl (λK hK=> ?_) oZ;refine Ad _ rfl (.tmp 58) (.tmp 61) 53 rfl (b+1) 2 i0 _ 1 8 mX bu hz0 fw hz2 rfl (by decide) (mK q m) _ _ rfl ((gF.o.g.slot q).alloc _) ⟨w2.heap.size,0,aB⟩ 1 1 [ν wv] rfl rfl (dS _ _ #[_] (by simp)) (by intro u hu;simp at hu;rw [hu];rfl) (by decide) (by simp only [bO];omega) (by omega) (by simp;omega) (w2.heap.size+1) (by simp) ?_;intro g cap w4 pQ iT zx _;have l8:w2.grownBy w4 (mK q m).ownBlock:=(Hh w2 (aK #[ν wv] 2) _).trans (c:=w4) ⟨iT.os,iT.tape,iT.output,iT.size,iT.block⟩;have pR:w4.cell? ⟨gb,0,aB⟩=aC (ν q)/\w4.cell? ⟨gb,2,aB⟩=aC (ν wv):=⟨(gu (a:=⟨gb,0,aB⟩) (l8.block gb hgb rU.o)).trans lT.o.1,(gu (a:=⟨gb,2,aB⟩) (l8.block gb hgb rU.o)).trans lT.o.2⟩;refine hK.o _ _ pR (λhHeld=> ?_);clear hK K;refine pZ (rs:= [11]) (by kernel_rfl) (by simp) ?_;refine mq rfl (λK hK=> ?_) oZ;obtain⟨w5,hrun,zw,fA⟩:=lL.put (v':=aH (aC ⟨g,0,aB⟩) (aA (fW (L.take k) q)+1) cap) (ys:=fW (L.take k) q++ [wv]) Hc gF.o.g tX l8 (by rw [cN,dh];exact pQ) (by
     rcases zx with e|e
     ·exact .inl e.symm
     exact .inr ⟨g,rfl,by omega⟩)
    refine SN rfl _ (.tmp 52) (.tmp 54) (.tmp 62) rfl rfl rfl rfl (R:=λW=>W=w5) ⟨w5,hrun,rfl⟩ ?_;rintro w6 rfl;refine hK.o _ _ ⟨(gu (a:=⟨gb,0,aB⟩) (fA.block gb (cL hgb l8.size) (λe=>yG.o (pH e)))).trans pR.1,(gu (a:=⟨gb,2,aB⟩) (fA.block gb (cL hgb l8.size) (λe=>yG.o (pH e)))).trans pR.2⟩ (λhHeld=> ?_);clear hK K hHeld;refine OE (by kernel_rfl) ?_ _;have qH:Hid (∃m',JI L w w6 b lo (k+1) (aH (aC ⟨b',o,aB⟩) (aA L) c7) m'):=η ⟨_,gF.o.step (w4:=w4) (v':=aH (aC ⟨g,0,aB⟩) (aA (fW (L.take k) q)+1) cap) hlt (by rw [<-HQ.o.1];exact l8) (by rw [<-HQ.o.1,<-HQ.o.2];exact zw) fA⟩;clear pQ iT zx l8 pR zw fA hrun;go_wp2_with fail
    go_roundw
    case rel=>exact⟨k+1,by omega,by go_num,qH⟩
    case measure=>simp [ag];omega
   go_simp
   refine hK.o _ _ ⟨(gu (w:=w2) (fL _ _ hgb)).trans lT.o.1,(gu (w:=w2) (fL _ _ hgb)).trans lT.o.2⟩ (λhHeld=> ?_);clear hK K;refine pZ (rs:= [6]) (by kernel_rfl) (by simp) ?_;refine mq rfl (λK hK=> ?_) oZ;have hlk:=kT.o _ (IC.alloc (aK #[ν wv] 2)).drew;go_simp
   refine hK.o _ _ hHeld (λhHeld=> ?_);clear hlk;clear hK K;refine pZ (rs:= [10]) (by kernel_rfl) (by simp) ?_;refine mq rfl (λK hK=> ?_) oZ;refine Ad _ rfl (.tmp 58) (.tmp 61) 53 rfl (b+1) 2 i0 _ 1 8 mX bu hz0 fw hz2 rfl (by decide) (mK q m) _ _ rfl ((gF.o.g.slot q).alloc _) ⟨w2.heap.size,0,aB⟩ 1 1 [ν wv] rfl rfl (dS _ _ #[_] (by simp)) (by intro u hu;simp at hu;rw [hu];rfl) (by decide) (by simp only [bO];omega) (by omega) (by simp;omega) (w2.heap.size+1) (by simp) ?_;intro g cap w4 pQ iT zx _;have l8:w2.grownBy w4 (mK q m).ownBlock:=(Hh w2 (aK #[ν wv] 2) _).trans (c:=w4) ⟨iT.os,iT.tape,iT.output,iT.size,iT.block⟩;have pR:w4.cell? ⟨gb,0,aB⟩=aC (ν q)/\w4.cell? ⟨gb,2,aB⟩=aC (ν wv):=⟨(gu (a:=⟨gb,0,aB⟩) (l8.block gb hgb rU.o)).trans lT.o.1,(gu (a:=⟨gb,2,aB⟩) (l8.block gb hgb rU.o)).trans lT.o.2⟩;refine hK.o _ _ pR (λhHeld=> ?_);clear hK K;refine pZ (rs:= [11]) (by kernel_rfl) (by simp) ?_;refine mq rfl (λK hK=> ?_) oZ;obtain⟨w5,hrun,zw,fA⟩:=lL.put (v':=aH (aC ⟨g,0,aB⟩) (aA (fW (L.take k) q)+1) cap) (ys:=fW (L.take k) q++ [wv]) Hc gF.o.g tX l8 (by rw [cN,dh];exact pQ) (by
    rcases zx with e|e
    ·exact .inl e.symm
    exact .inr ⟨g,rfl,by omega⟩)
   refine SN rfl _ (.tmp 52) (.tmp 54) (.tmp 62) rfl rfl rfl rfl (R:=λW=>W=w5) ⟨w5,hrun,rfl⟩ ?_;rintro w6 rfl;refine hK.o _ _ ⟨(gu (a:=⟨gb,0,aB⟩) (fA.block gb (cL hgb l8.size) (λe=>yG.o (pH e)))).trans pR.1,(gu (a:=⟨gb,2,aB⟩) (fA.block gb (cL hgb l8.size) (λe=>yG.o (pH e)))).trans pR.2⟩ (λhHeld=> ?_);clear hK K hHeld;refine OE (by kernel_rfl) ?_ _;have qH:Hid (∃m',JI L w w6 b lo (k+1) (aH (aC ⟨b',o,aB⟩) (aA L) c7) m'):=η ⟨_,gF.o.step (w4:=w4) (v':=aH (aC ⟨g,0,aB⟩) (aA (fW (L.take k) q)+1) cap) hlt (by rw [<-HQ.o.1];exact l8) (by rw [<-HQ.o.1,<-HQ.o.2];exact zw) fA⟩;clear pQ iT zx l8 pR zw fA hrun;go_wp2_with fail
   go_roundw
   case rel=>exact⟨k+1,by omega,by go_num,qH⟩
   case measure=>simp [ag];omega
  obtain rfl:k=aA L:=by omega
  have hg:=HW.o.g;have ir:=HW.o.len;rw [cU] at hg;have uK:=η (a3X hg (by omega) λq=>⟨by have:=(V6 (L:=L) (λy hy=>(uM.o y hy).2) q).1;omega,(V6 (L:=L) (λy hy=>(uM.o y hy).2) q).2⟩);have HR:Hid ((nx m).Pairwise (· < ·)/\∀q,q∈nx m↔∃y∈L,y.m=q):=η ⟨a5J hg.map.apart,λq=>by rw [a5I];have:=HW.o.ks q;rw [cU] at this;exact this⟩;have yK:Hid (∀W,β w W->aQ aM 129 #[aH A (aA X) c] W λe w'=>e=aT (bC #[ν (sumI (bG X)),ν 0])/\β W w'):=η λW hW=>by have:=Ps X A c W (HA.o.below hW).eA (λy hy=>(Zg.o y hy).2) (by omega);rw [show ie X=sumI (bG X) from by unfold ie;rw [ifP h1],h1] at this;exact this
  have GZ:Hid (∀W,β w W->aQ aM 129 #[aH B (aA Y) d] W λe w'=>e=aT (bC #[ν (sumI (bG Y)),ν 0])/\β W w'):=η λW hW=>by have:=Ps Y B d W (HB.o.below hW).eA (λy hy=>(Zh.o y hy).2) (by omega);rw [show ie Y=sumI (bG Y) from by unfold ie;rw [ifP h2],h2] at this;exact this
  have Gc:Hid (aL (sumI (bG X))):=η (BW h1).2.2;have HYI:Hid (aL (sumI (bG Y))):=η (BW h2).2.2;have HJE:=η h5;have HT:Hid (Iq X Y=sumI (bG X)+sumI (bG Y)):=η rfl;have hsz:=HW.o.b.size;by_cases hT:aL (Iq X Y)
  ·have hE:=Vk (f:=fW L) (ks:=nx m) λj hj=>by rw [HL.o];exact a5D h1 h2 hT _
   have hLL:ru (fW L) (nx m)=ni (fW L) (nx m):=by unfold ru;rw [ifP hE]
   rw [hE,hLL] at uK;have JZ:Hid (sM X Y=0):=η (by rw [h5];exact(eH hT).2);have hV:=(eH hT).1;have hV2:=(eH hT).2;rw [HT.o] at hV hV2;have HV:=η (kh hV hV2);clear hg ir hE hLL hT hV hV2 h1 h2 h3 h4 h5;generalize sumI (bG X)=sx at*;generalize sumI (bG Y)=sy at*;go_wp2_with fail
   refine uK.o.mono ?_;rintro e w8 ⟨A8,c8,rfl,Bl,kK⟩;have BJ:=η (Bl.wide hsz);have mN:Hid (β w w8):=η (HW.o.b.trans (kK.mono hsz));clear Bl kK;go_wp2_with fail
   refine(yK.o _ mN.o).mono ?_;rintro e w9 ⟨rfl,ez⟩;have gL:Hid (β w w9):=τ mN ez;have Cr:=η (BJ.o.below ez);clear ez;go_wp2_with fail
   refine(GZ.o _ gL.o).mono ?_;rintro e uB ⟨rfl,zy⟩;have B0:Hid (β w uB):=τ gL zy;have a0B:=η (Cr.o.below zy);clear zy;go_wp2_with fail
   refine(Pm _ _ _ Gc.o HYI.o).mono ?_;rintro e w11 ⟨rfl,rfl⟩;rw [HV.o.1,HV.o.2];go_wp2_with fail
   go_ret2;exact Or.inr ⟨JZ.o,_,HR.o.1,by rw [<-HL.o];exact HR.o.2,A8,c8,by rw [<-HL.o];rfl,by rw [<-HL.o];exact a0B.o,B0.o⟩
  have JZ:Hid (sM X Y=2):=η (by rw [h5];exact(gw hT).2);have HV:=η (gw hT);rw [HT.o] at HV;rcases a3V (fW L) (nx m) with hE|hE
  ·rw [hE] at uK;clear hg ir hE hT h1 h2 h3 h4 h5;generalize sumI (bG X)=sx at*;generalize sumI (bG Y)=sy at*;generalize ru (fW L) (nx m)=gl at*;go_wp2_with fail
   refine uK.o.mono ?_;rintro e w8 ⟨A8,c8,rfl,Bl,kK⟩;have BJ:=η Bl;have mN:Hid (β w w8):=η (HW.o.b.trans (kK.mono hsz));clear Bl kK;go_wp2_with fail
   refine(yK.o _ mN.o).mono ?_;rintro e w9 ⟨rfl,ez⟩;have gL:Hid (β w w9):=τ mN ez;have Cr:=η (BJ.o.below ez);clear ez;go_wp2_with fail
   refine(GZ.o _ gL.o).mono ?_;rintro e uB ⟨rfl,zy⟩;have B0:Hid (β w uB):=τ gL zy;have a0B:=η (Cr.o.below zy);clear zy;go_wp2_with fail
   refine(Pm _ _ _ Gc.o HYI.o).mono ?_;rintro e w11 ⟨rfl,rfl⟩;rw [HV.o.1,HV.o.2];go_wp2_with fail
   go_ret2;exact aS ⟨by rw [JZ.o];decide,aB,0,by rw [JZ.o];rfl,ij.nil,B0.o⟩
  rw [hE] at uK;have hGL:ru (fW L) (nx m)= []:=by unfold ru;rw [hE,ifN (by decide)]
  rw [hGL] at uK;clear hg ir hE hT h1 h2 h3 h4 h5 hGL;go_wp2_with fail
  refine uK.o.mono ?_;rintro e w8 ⟨A8,c8,rfl,Bl,kK⟩;have mN:Hid (β w w8):=η (HW.o.b.trans (kK.mono hsz));clear Bl kK;go_wp2_with fail
  go_ret2;exact aS ⟨by rw [JZ.o];decide,aB,0,by rw [JZ.o];rfl,ij.nil,mN.o⟩
theorem aCU(x:ak)(L:List Lg)(A:Option ai)(c:Nat)(w:aJ)(hc:lj w x)(hs:aW w w.heap.size A (bB L))(hl:aA L<=1000)(hI:∀y∈L,aL y.m/\aL y.a/\aL y.n)(hp:∀i,aL (df x i).a):
 aQ aM 140 #[x.val,aH A (aA L) c] w (aCT x L w):=by
 have HC:=η hc;have HS:=η hs;have HI:=η hI;have HP:=η hp;have mU:Hid (∀W,W=(w.alloc (aK #[aH x.Am (aA x.ms) x.cm,aH x.As (aA x.ss) x.cs,aH x.Ac (aA x.cy) x.cc,ν x.line,ν x.bW,ν x.lead,ν x.tr,ν x.bT] 26)).alloc (.map #[] 0)->WI x L w W 0 []):=η (by rintro W rfl;have hg:=lL.made (w.alloc (aK #[aH x.Am (aA x.ms) x.cm,aH x.As (aA x.ss) x.cs,aH x.Ac (aA x.cy) x.cc,ν x.line,ν x.bW,ν x.lead,ν x.tr,ν x.bT] 26));rw [show (w.alloc (aK #[aH x.Am (aA x.ms) x.cm,aH x.As (aA x.ss) x.cs,aH x.Ac (aA x.cy) x.cc,ν x.line,ν x.bW,ν x.lead,ν x.tr,ν x.bT] 26)).heap.size=w.heap.size+1 by simp] at hg;exact⟨hg,aZ _,λq=>by simp,λj _ h=>absurd h (Nat.not_lt_zero _),(zl w x).below σ,(mY w x).alloc (by simp) _⟩);have mZ:= @run_makeMap aM;clear hc hs hI hp;unfold ak.val;go_enter func140,ntmps140
 go_wp2_with fail
 have yO:=mU.o _ rfl;clear mU;generalize (w.alloc (aK #[aH x.Am (aA x.ms) x.cm,aH x.As (aA x.ss) x.cs,aH x.Ac (aA x.cy) x.cc,ν x.line,ν x.bW,ν x.lead,ν x.tr,ν x.bT] 26)).alloc (.map #[] 0)=w1 at yO ⊢;have HW:=η yO;clear yO;go_loopw [8,9,10,17] (λ_ _ _ i wr=>∃k:Nat,k<=aA L/\i=ν k/\Hid (∃m,WI x L w wr k m)) (λ_ _ _ i _=>aA L-(ag i).toNat)
 case atStart=>exact⟨0,bM _,rfl,_,HW.o⟩
 case round=>
  clear HW;obtain⟨k,hk,rfl,HM⟩:=hrel;obtain⟨m,hm⟩:=HM.o;have HW:=η hm;have hsz:=hm.b.size;by_cases hlt:k<aA L
  ·obtain⟨b,o,rfl,hb,d0,d1,d2⟩:=oQ (HS.o.below HW.o.b) hlt;obtain⟨tX,xW,Bi⟩:=HI.o _ (cK hlt);obtain⟨q,hq⟩:∃q,q=L[k].m:=⟨_,rfl⟩;obtain⟨a,ha⟩:∃a,a=L[k].a:=⟨_,rfl⟩;obtain⟨n,hn⟩:∃n,n=L[k].n:=⟨_,rfl⟩;rw [<-hq] at d0 tX;rw [<-ha] at d1 xW;rw [<-hn] at d2 Bi;have HQ:=η (kh hq (kh ha hn));clear hq ha hn;have P5:Hid (∀W,β w W->aQ aM 197 #[x.val,bP #[ν q,ν a,ν n]] W λe w'=>e=aT (bC #[ν (Aj x a n),ν (y8 x a n)])/\β W w'):=η λW hW=>aLt x q a n W (HC.o.below hW) xW Bi (HP.o a)
   unfold ak.val at P5;have bU:=HW.o.bx.lt;have c0:=HW.o.bx.c0;have c1:=HW.o.bx.c1;have c2:=HW.o.bx.c2;have c3:=HW.o.bx.c3;have c4:=HW.o.bx.c4;have c5:=HW.o.bx.c5;have c6:=HW.o.bx.c6;have c7:=HW.o.bx.c7;have JN:Hid (∀o,β w (wr.alloc o)):=η λo=>HW.o.b.alloc hsz o
   obtain⟨wv,XG⟩:∃wv,wv=Aj x a n:=⟨_,rfl⟩;obtain⟨ev,De⟩:∃ev,ev=y8 x a n:=⟨_,rfl⟩;rw [<-XG,<-De] at P5;have HV:=η (kh XG De);clear XG De hm xW Bi;by_cases he:ev=0
   ·subst he;go_wp2_with (go_at_call 197;refine(P5.o _ (JN.o _)).mono ?_;rintro e w2 ⟨rfl,hb2⟩;have aV:=η hb2;clear hb2)
    have gF:Hid (WI x L w w2 k m):=η (HW.o.below (σ.trans (aV.o.mono (by simp))));have hgb:wr.heap.size<w2.heap.size:=by have:=aV.o.size;simp at this;omega
    have vx:w2.cell? ⟨wr.heap.size,0,aB⟩=aC (ν q):=by rw [aV.o.cell (p:=⟨wr.heap.size,0,aB⟩) (by simp)];simp
    have IC:=gF.o.g.map;have kT:Hid (∀W,ei aM 3 encI W (w.heap.size+1) m->(Instr.lookup 272 (.map (aC (w.heap.size+1))) (ν q) aP).run aM W= .ok (mK q m) W):=η λW hW=>ei.look (P:=aM) aP Bo Hc (z:=aH aB 0 0) (by kernel_rfl) hW gF.o.g.dom tX
    clear c0 c1 c2 c3 c4 c5 c6 c7 d0 d1 d2;have rU:Hid (aC wr.heap.size≠(mK q m).ownBlock):=η λe=>by have:=((HW.o.g.slot q).lt _ e.symm).2;omega
    have fQ:Hid (aC (w.heap.size+1)≠(mK q m).ownBlock):=η λe=>by have:=((HW.o.g.slot q).lt _ e.symm).1;omega
    have yG:Hid (wr.heap.size≠w.heap.size+1):=η (by have:=HW.o.g.map.lt;omega);generalize hgg:wr.heap.size=gb at*;refine wp_region_held_drew (S:=λw'=>w'.cell? ⟨gb,0,aB⟩=aC (ν q)) (by kernel_rfl) ?_ (λhHeld=> ?_)
    ·exact vx
    obtain⟨i0,bu,hz0,fw,hz2⟩:=dP a4o;refine kA (i:=0) (v:= .map (aC (w.heap.size+1))) rfl (by kernel_rfl) (by kernel_rfl) (by kernel_rfl) (λ_ _ _ h=>h) (aS ⟨by rfl,λw' hSw=>by dsimp only at hSw;go_simp⟩) hHeld ?_;refine kA (i:=1) (v:=π gb) rfl (by kernel_rfl) (by kernel_rfl) (by kernel_rfl) (λ_ _ _ h=>h) (aS ⟨by rfl,λw' hSw=>by dsimp only at hSw;go_simp⟩) hHeld ?_;refine kA (i:=2) (v:=ν q) rfl (by kernel_rfl) (by kernel_rfl) (by kernel_rfl) (λ_ _ _ h=>h) (aS ⟨by rfl,λw' hSw=>by dsimp only at hSw;go_simp⟩) hHeld ?_;refine kA (i:=3) (v:= .map (aC (w.heap.size+1))) rfl (by kernel_rfl) (by kernel_rfl) (by kernel_rfl) (λ_ _ _ h=>h) (aS ⟨by rfl,λw' hSw=>by dsimp only at hSw;go_simp⟩) hHeld ?_;refine kA (i:=4) (v:=π gb) rfl (by kernel_rfl) (by kernel_rfl) (by kernel_rfl) (λ_ _ _ h=>h) (aS ⟨by rfl,λw' hSw=>by dsimp only at hSw;go_simp⟩) hHeld ?_;refine kA (i:=5) (v:=ν q) rfl (by kernel_rfl) (by kernel_rfl) (by kernel_rfl) (λ_ _ _ h=>h) (aS ⟨by rfl,λw' hSw=>by dsimp only at hSw;go_simp⟩) hHeld ?_;refine kA (i:=7) (v:=ν wv) rfl (by kernel_rfl) (by kernel_rfl) (by kernel_rfl) (λ_ _ _ h=>h) (aS ⟨by rfl,λw' hSw=>by dsimp only at hSw;go_simp⟩) hHeld ?_;have gZ:aA (mL x (L.take k) q)<=1000:=by have:=(Ys x (L.take k) q).1;rw [vN] at this;omega
    have FE:w.heap.size+2<=w2.heap.size:=by have:=gF.o.b.size;have:=IC.lt;omega
    refine pZ (rs:= [6,8]) (by kernel_rfl) (by simp) ?_;refine mq rfl (λK hK=> ?_) (mq rfl (λK hK=> ?_) oZ)
    ·have hlk:=kT.o _ IC.drew;go_simp
     refine hK.o _ _ hHeld (λhHeld=> ?_);clear hK K hlk;refine pZ (rs:= [8]) (by kernel_rfl) (by simp) ?_;refine mq rfl (λK hK=> ?_) oZ;go_simp
     refine hK.o _ _ ((gu (w:=w2) (fL _ _ hgb)).trans vx) (λhHeld=> ?_);clear hK K;refine pZ (rs:= [9]) (by kernel_rfl) (by simp) ?_;refine mq rfl (λK hK=> ?_) oZ;refine Ad _ rfl (.tmp 36) (.tmp 38) 53 rfl (w.heap.size+2) 2 i0 _ 1 8 mX bu hz0 fw hz2 rfl (by decide) (mK q m) _ _ rfl ((gF.o.g.slot q).alloc _) ⟨w2.heap.size,0,aB⟩ 1 1 [ν wv] rfl rfl (dS _ _ #[_] (by simp)) (by intro u hu;simp at hu;rw [hu];rfl) (by decide) (by simp only [bO];omega) (by omega) (by simp;omega) (w2.heap.size+1) (by simp) ?_;intro g cap w4 pQ iT zx _;have l8:w2.grownBy w4 (mK q m).ownBlock:=(Hh w2 (aK #[ν wv] 2) _).trans (c:=w4) ⟨iT.os,iT.tape,iT.output,iT.size,iT.block⟩;have pR:w4.cell? ⟨gb,0,aB⟩=aC (ν q):=(gu (a:=⟨gb,0,aB⟩) (l8.block gb hgb rU.o)).trans vx;refine hK.o _ _ pR (λhHeld=> ?_);clear hK K;refine pZ (rs:= [10]) (by kernel_rfl) (by simp) ?_;refine mq rfl (λK hK=> ?_) oZ;obtain⟨w5,hrun,zw,fA⟩:=lL.put (v':=aH (aC ⟨g,0,aB⟩) (aA (mL x (L.take k) q)+1) cap) (ys:=mL x (L.take k) q++ [wv]) Hc gF.o.g tX l8 (by rw [cN,dh];exact pQ) (by
      rcases zx with e|e
      ·exact .inl e.symm
      exact .inr ⟨g,rfl,by omega⟩)
     refine SN rfl _ (.tmp 30) (.tmp 32) (.tmp 39) rfl rfl rfl rfl (R:=λW=>W=w5) ⟨w5,hrun,rfl⟩ ?_;rintro w6 rfl;refine hK.o _ _ ((gu (a:=⟨gb,0,aB⟩) (fA.block gb (cL hgb l8.size) (λe=>yG.o (pH e)))).trans pR) (λhHeld=> ?_);clear hK K hHeld;refine OE (by kernel_rfl) ?_ _;have qH:Hid (∃m',WI x L w w6 (k+1) m'):=η ⟨_,gF.o.step (w4:=w4) (v':=aH (aC ⟨g,0,aB⟩) (aA (mL x (L.take k) q)+1) cap) hlt (by rw [<-HQ.o.2.1,<-HQ.o.2.2];exact HV.o.2.symm) (by rw [<-HQ.o.1];exact l8) (by rw [<-HQ.o.1,<-HQ.o.2.1,<-HQ.o.2.2,<-HV.o.1];exact zw) fA⟩;clear pQ iT zx l8 pR zw fA hrun;go_wp2_with fail
     go_roundw
     case rel=>exact⟨k+1,by omega,by go_num,qH⟩
     case measure=>simp [ag];omega
    go_simp
    refine hK.o _ _ ((gu (w:=w2) (fL _ _ hgb)).trans vx) (λhHeld=> ?_);clear hK K;refine pZ (rs:= [6]) (by kernel_rfl) (by simp) ?_;refine mq rfl (λK hK=> ?_) oZ;have hlk:=kT.o _ (IC.alloc (aK #[ν wv] 2)).drew;go_simp
    refine hK.o _ _ hHeld (λhHeld=> ?_);clear hlk;clear hK K;refine pZ (rs:= [9]) (by kernel_rfl) (by simp) ?_;refine mq rfl (λK hK=> ?_) oZ;refine Ad _ rfl (.tmp 36) (.tmp 38) 53 rfl (w.heap.size+2) 2 i0 _ 1 8 mX bu hz0 fw hz2 rfl (by decide) (mK q m) _ _ rfl ((gF.o.g.slot q).alloc _) ⟨w2.heap.size,0,aB⟩ 1 1 [ν wv] rfl rfl (dS _ _ #[_] (by simp)) (by intro u hu;simp at hu;rw [hu];rfl) (by decide) (by simp only [bO];omega) (by omega) (by simp;omega) (w2.heap.size+1) (by simp) ?_;intro g cap w4 pQ iT zx _;have l8:w2.grownBy w4 (mK q m).ownBlock:=(Hh w2 (aK #[ν wv] 2) _).trans (c:=w4) ⟨iT.os,iT.tape,iT.output,iT.size,iT.block⟩;have pR:w4.cell? ⟨gb,0,aB⟩=aC (ν q):=(gu (a:=⟨gb,0,aB⟩) (l8.block gb hgb rU.o)).trans vx;refine hK.o _ _ pR (λhHeld=> ?_);clear hK K;refine pZ (rs:= [10]) (by kernel_rfl) (by simp) ?_;refine mq rfl (λK hK=> ?_) oZ;obtain⟨w5,hrun,zw,fA⟩:=lL.put (v':=aH (aC ⟨g,0,aB⟩) (aA (mL x (L.take k) q)+1) cap) (ys:=mL x (L.take k) q++ [wv]) Hc gF.o.g tX l8 (by rw [cN,dh];exact pQ) (by
     rcases zx with e|e
     ·exact .inl e.symm
     exact .inr ⟨g,rfl,by omega⟩)
    refine SN rfl _ (.tmp 30) (.tmp 32) (.tmp 39) rfl rfl rfl rfl (R:=λW=>W=w5) ⟨w5,hrun,rfl⟩ ?_;rintro w6 rfl;refine hK.o _ _ ((gu (a:=⟨gb,0,aB⟩) (fA.block gb (cL hgb l8.size) (λe=>yG.o (pH e)))).trans pR) (λhHeld=> ?_);clear hK K hHeld;refine OE (by kernel_rfl) ?_ _;have qH:Hid (∃m',WI x L w w6 (k+1) m'):=η ⟨_,gF.o.step (w4:=w4) (v':=aH (aC ⟨g,0,aB⟩) (aA (mL x (L.take k) q)+1) cap) hlt (by rw [<-HQ.o.2.1,<-HQ.o.2.2];exact HV.o.2.symm) (by rw [<-HQ.o.1];exact l8) (by rw [<-HQ.o.1,<-HQ.o.2.1,<-HQ.o.2.2,<-HV.o.1];exact zw) fA⟩;clear pQ iT zx l8 pR zw fA hrun;go_wp2_with fail
    go_roundw
    case rel=>exact⟨k+1,by omega,by go_num,qH⟩
    case measure=>simp [ag];omega
   have yE:Hid (wthsE x L=ev):=η (by rw [HV.o.2,HQ.o.2.1,HQ.o.2.2];exact a8h hlt (λj hj=>HW.o.ok j (by omega) hj) (by rw [<-HQ.o.2.1,<-HQ.o.2.2,<-HV.o.2];exact he));have hez:(ev=0)=False:=eq_false he;go_wp2_with (go_at_call 197;refine(P5.o _ (JN.o _)).mono ?_;rintro e w2 ⟨rfl,hb2⟩;have aV:=η hb2;clear hb2)
   go_ret2;refine aS ⟨by rw [yE.o];exact he,aB,0,by rw [yE.o];rfl,ij.nil,(JN.o _).trans (aV.o.mono (by simp;omega))⟩
  obtain rfl:k=aA L:=by omega
  have hg:=HW.o.g;have ir:=HW.o.len;rw [cU] at hg;have uK:=η (a3X hg (by omega) λq=>⟨by have:=(Ys x L q).1;omega,(Ys x L q).2⟩);have HE:Hid (wthsE x L=0):=η (a8g λj hj=>HW.o.ok j hj hj);have HR:Hid ((nx m).Pairwise (· < ·)/\∀q,q∈nx m↔∃y∈L,y.m=q):=η ⟨a5J hg.map.apart,λq=>by rw [a5I];have:=HW.o.ks q;rw [cU] at this;exact this⟩;clear hg ir hm;go_wp2_with (go_at_call 198;refine uK.o.mono ?_;rintro e w2 ⟨A2,c2,rfl,hs2,hb2⟩;have cO:=η (hs2.wide HW.o.b.size);have aV:=η hb2;clear hs2 hb2)
  go_ret2;exact Or.inr ⟨HE.o,_,HR.o.1,HR.o.2,A2,c2,rfl,cO.o,HW.o.b.trans (aV.o.mono HW.o.b.size)⟩
def dB(db:Nat)(p p':Dp)(D':Dk)(w w':aJ):Prop:=bV w' db p' D'/\p'.vb=p.vb/\p'.sb=p.sb/\p'.xb=p.xb/\p'.xc=p.xc/\bA (eW db p) w w'/\∀k,eW db p' k->eW db p k\/w.heap.size<=k
theorem aq.q {db:Nat} {p:Dp} {D':Dk} {w w':aJ}(h:aq db p D' w w'):∃p',dB db p p' D' w w':=h
theorem dB.p {db:Nat} {p p':Dp} {D':Dk} {w w':aJ}(h:dB db p p' D' w w'):aq db p D' w w':=⟨p',h⟩
theorem dB.at {db:Nat} {p p':Dp} {D':Dk} {w w':aJ}(h:dB db p p' D' w w'):bV w' db p' D':=h.1
theorem dB.bY {db:Nat} {p:Dp} {D:Dk} {w w':aJ}(H:bV w db p D)(hb:aa w.heap.size w w'):dB db p p D w w':=⟨H.below hb,rfl,rfl,rfl,rfl,bA.bY _ hb,λ_ h=> .inl h⟩
theorem dB.trans {db:Nat} {p p1 p2:Dp} {D1 D2:Dk} {w w1 w2:aJ}(h1:dB db p p1 D1 w w1)(h2:dB db p1 p2 D2 w1 w2):dB db p p2 D2 w w2:=by obtain⟨_,e1,e2,e3,e4,hu,hs⟩:=h1;obtain⟨H2,f1,f2,f3,f4,vy,hs2⟩:=h2;exact⟨H2,f1.trans e1,f2.trans e2,f3.trans e3,f4.trans e4,hu.trans vy hs,λk hk=>(hs2 k hk).elim (hs k) (λh=> .inr (bz hu.size h))⟩
theorem dB.below {db:Nat} {p p1:Dp} {D1:Dk} {w w1 w2:aJ}(h1:dB db p p1 D1 w w1)(hb:aa w1.heap.size w1 w2):dB db p p1 D1 w w2:=h1.trans (dB.bY h1.at hb)
theorem dB.then {db:Nat} {p p1:Dp} {D1 D2:Dk} {w w1 w2:aJ}(h1:dB db p p1 D1 w w1)(h2:aq db p1 D2 w1 w2):∃p2,dB db p p2 D2 w w2/\dB db p1 p2 D2 w1 w2:=by obtain⟨p2,h⟩:=h2.q;exact⟨p2,h1.trans h,h⟩
theorem dB.size {db:Nat} {p p1:Dp} {D1:Dk} {w w1:aJ}(h1:dB db p p1 D1 w w1):w.heap.size<=w1.heap.size:=h1.2.2.2.2.2.1.size
theorem a7P {w:aJ} {B:Nat} {A:Option ai} {xs:List aN}(h:aW w B A xs)(hx:xs≠ []):∀q,A=aC q->q.block<B:=by
 intro q hq;subst hq;cases xs with
 |nil=>exact absurd rfl hx
 |cons u us=>
  obtain⟨b,o,e,hb,_⟩:=h.at (k:=0) (by simp);injection e with e;subst e;exact hb
structure iM(db:Nat)(p:Dp)(w:aJ)(A:Option ai)(xs:List aN):Prop where
 eA:aW w w.heap.size A xs
 o:xs≠ []->∀q,A=aC q->¬eW db p q.block
theorem iM.Iz {db:Nat} {p:Dp} {D:Dk} {w w':aJ} {A:Option ai} {c:Nat} {L:List Lg}(H:bV w db p D)(h:ij w w' A c L):iM db p w' A (bB L):=
 ⟨h.1,λ_ q hq hs=>by have h1:=H.td hs;have h2:=h.2.1 q hq;omega⟩
theorem iM.cB {db:Nat} {p:Dp} {D:Dk} {w w':aJ} {A:Option ai} {e:bZ} {s n c:Nat} {xs:List aN}(H:bV w db p D)(h:w'.ownsRow w.heap.size e s (aH A n c) n xs):iM db p w' A xs:=
 ⟨aW.cB h,λ_ q hq hs=>by subst hq;have h1:=H.td hs;have h2:=(h.lt q.block rfl).1;omega⟩
theorem iM.below {db:Nat} {p:Dp} {w w':aJ} {A:Option ai} {xs:List aN}(h:iM db p w A xs)(hb:aa w.heap.size w w'):iM db p w' A xs:=⟨(h.eA.below hb).mono hb.size,h.o⟩
theorem iM.step {db:Nat} {p p':Dp} {D':Dk} {w w':aJ} {A:Option ai} {xs:List aN}(h:iM db p w A xs)(hq:dB db p p' D' w w'):iM db p' w' A xs:=by
 obtain⟨_,_,_,_,_,hu,hs⟩:=hq;refine⟨hu.eA h.eA h.o,λhx q hq h'=> ?_⟩;rcases hs _ h' with h1|h1
 ·exact h.o hx q hq h1
 have:=a7P h.eA hx q hq;omega
theorem iM.nil {db:Nat} {p:Dp} {w:aJ}:iM db p w aB []:=⟨aW.nil,λh=>absurd rfl h⟩
structure oF(db:Nat)(p:Dp)(w w':aJ)(A:Option ai)(c:Nat)(L:List Lg):Prop where
 o:iM db p w' A (bB L)
 new:∀q,A=aC q->w.heap.size<=q.block
 nil:A=aB->aA L=0/\c=0
theorem oF.Iz {db:Nat} {p:Dp} {D:Dk} {w w':aJ} {A:Option ai} {c:Nat} {L:List Lg}(H:bV w db p D)(h:ij w w' A c L):oF db p w w' A c L:=⟨.Iz H h,h.2.1,h.2.2⟩
theorem oF.wide {db:Nat} {p:Dp} {w0 w w':aJ} {A:Option ai} {c:Nat} {L:List Lg}(h:oF db p w w' A c L)(hz:w0.heap.size<=w.heap.size):oF db p w0 w' A c L:=⟨h.o,λq hq=>bz hz (h.new q hq),h.nil⟩
theorem oF.step {db:Nat} {p p':Dp} {D':Dk} {w0 w w':aJ} {A:Option ai} {c:Nat} {L:List Lg}(h:oF db p w0 w A c L)(hq:dB db p p' D' w w'):oF db p' w0 w' A c L:=⟨h.o.step hq,h.new,h.nil⟩
theorem oF.below {db:Nat} {p:Dp} {w0 w w':aJ} {A:Option ai} {c:Nat} {L:List Lg}(h:oF db p w0 w A c L)(hb:aa w.heap.size w w'):oF db p w0 w' A c L:=⟨h.o.below hb,h.new,h.nil⟩
def ja(D:Dk)(s:Int):List Lg:=jn (balA (aA D.x.ms) (aA D.x.ss+1) D.l 1 0 s) (dy D s)
def oM(D:Dk)(s:Int):List Lg:=jv (balA (aA D.x.ms) (aA D.x.ss+1) D.l 1 0 s) (dy D s)
def FB(D:Dk)(s:Int):Dk:=kH (j5 D (ja D s)) 14 (oM D s)
def Hand(db:Nat)(p:Dp)(D':Dk)(G K:List Lg)(w:aJ)(e:dX)(w':aJ):Prop:=∃A c B d p',e=aT (bC #[aH A (aA G) c,aH B (aA K) d])/\dB db p p' D' w w'/\oF db p' w w' A c G/\oF db p' w w' B d K
theorem aEz(db:Nat)(p:Dp)(D:Dk)(s:Int)(w:aJ)(H:bV w db p D)(hb:aL (balA (aA D.x.ms) (aA D.x.ss+1) D.l 1 0 s))(hO:∀k,k<=aA (ja D s)->fZ (j5 D ((ja D s).take k)))(hI:∀x∈ja D s,aL x.m/\aL x.a/\aL x.n/\0<=x.n)(hl:aA (ja D s)<=80000)(hg:(j5 D (ja D s)).log.length+aA (oM D s)<=90000)(hk:aA (oM D s)<=80000):
 aQ aM 71 #[π db,ν s] w (Hand db p (FB D s) (ja D s) (oM D s) w):=by
 have QW:fZ D:=hO 0 (bM _);have rN:Hid (FB D s=kH (j5 D (ja D s)) 14 (oM D s)):=η rfl;have fC:=η (λW (hW:β w W)=>zq db p D 1 0 s W (H.below hW) (by decide) (by decide));have yF:=η (λW (hW:β w W)=>MZ db p D s W (H.below hW) QW);have Cc:=η (Mk QW.ob s);have jr:aA (dy D s)<=100000:=by have h1:=QN D s;have h2:=QW.ob.len;omega
 have zD:=η hb;have HF:=η H;have EM:=η (λW p' (h:bV W db p' D) A c (ho:iM db p' W A (bB (ja D s)))=>a2k db p' D (ja D s) A c W h ho.eA ho.o hO hI (by omega));have TP:=η (λW p' (h:bV W db p' (j5 D (ja D s))) A c (ho:iM db p' W A (bB (oM D s)))=>a2F db p' (j5 D (ja D s)) (oM D s) 14 A c W h ho.eA ho.o hg hk);clear H hb hO QW hI hg;have F8:ja D s=jn (balA (aA D.x.ms) (aA D.x.ss+1) D.l 1 0 s) (dy D s):=rfl;have KO:oM D s=jv (balA (aA D.x.ms) (aA D.x.ss+1) D.l 1 0 s) (dy D s):=rfl;rw [rN.o];have U9:=η (λW A c (hs:aW W W.heap.size A (bB (dy D s)))=>(a7i (balA (aA D.x.ms) (aA D.x.ss+1) D.l 1 0 s) (dy D s) A c W zD.o hs Cc.o jr));rw [<-F8,<-KO] at U9;clear F8 KO rN;generalize balA (aA D.x.ms) (aA D.x.ss+1) D.l 1 0 s=bq at*;generalize ja D s=G at*;generalize oM D s=K at*;generalize dy D s=L at*;generalize jO bq L=se at*;go_enter func71,ntmps71
 go_upto_region 2 with (first|(go_at_call 61;refine(xM _).mono ?_;rintro e w2 ⟨rfl,hb2⟩;have aV:=η hb2;clear hb2)|(go_at_call 46;refine(fC.o _ aV.o).mono ?_;rintro e w3 ⟨rfl,hb3⟩;have af:=τ aV hb3;clear hb3)|(go_at_call 68;refine(yF.o _ af.o).mono ?_;rintro e w4 ⟨v4,rfl,iC,hb4⟩;have ar:=τ af hb4;obtain⟨A4,c4,hv4⟩:=bL iC;subst hv4;have jT:=η (aW.cB iC);clear iC hb4)|(go_at_call 137;refine(U9.o _ A4 c4 jT.o).mono ?_;rintro e w5 ⟨A5,c5,B5,d5,rfl,Ia,hm5,dA⟩;have cY:=τ ar dA;have oq:=η (oF.Iz HF.o (Ia.wide ar.o.size));have Om:=η (oF.Iz HF.o (hm5.wide ar.o.size));have ow:=η (dB.bY HF.o cY.o);clear Ia hm5 dA))
 clear fC yF U9 aV af ar jT cY;go_upto_region 3 with (go_at_call 138;refine(EM.o _ p ow.o.at A5 c5 oq.o.o).mono ?_;rintro e w6 ⟨rfl,h6⟩;obtain⟨p6,FW,NL⟩:=ow.o.then h6;have oz:=η FW;have wZ:=η (oq.o.step NL);have Jc:=η (Om.o.step NL);clear h6 FW NL oq Om ow)
 go_wp2_with (go_at_call 139;refine(TP.o _ p6 oz.o.at B5 d5 Jc.o.o).mono ?_;rintro e w7 ⟨rfl,h7⟩;obtain⟨p7,R5,Dr⟩:=oz.o.then h7;have qg:=η R5;have EW:=η (wZ.o.step Dr);have Oo:=η (Jc.o.step Dr);clear h7 R5 Dr wZ Jc oz)
 go_ret2;exact⟨A5,c5,B5,d5,p7,rfl,qg.o,EW.o,Oo.o⟩
def xg(x:Int):List Int->List Int
 | []=> [x]
 |y::l=>if x<y then x::y::l else if x=y then y::l else y::xg x l
theorem Xd {x q:Int}:∀ {l:List Int},q∈xg x l↔q=x\/q∈l
 | []=>by simp [xg]
 |y::l=>by
  unfold xg;by_cases h:x<y
  ·rw [ifP h];simp
  rw [ifN h];by_cases h2:x=y
  ·rw [ifP h2];subst h2;simp
  rw [ifN h2,fG,Xd,fG];constructor
  ·rintro (h|h|h)
   ·exact .inr (.inl h)
   ·exact .inl h
   exact .inr (.inr h)
  rintro (h|h|h)
  ·exact .inr (.inl h)
  ·exact .inl h
  exact .inr (.inr h)
theorem a4s {x:Int}:∀ {l:List Int},l.Pairwise (· < ·)->(xg x l).Pairwise (· < ·)
 | [],_=>by simp [xg]
 |y::l,h=>by
  obtain⟨h1,h2⟩:=kp.1 h;unfold xg;by_cases hx:x<y
  ·rw [ifP hx];refine kp.2 ⟨λz hz=> ?_,h⟩;rcases fG.1 hz with rfl|hz
   ·exact hx
   have:=h1 z hz;omega
  rw [ifN hx];by_cases h3:x=y
  ·rw [ifP h3];exact h
  rw [ifN h3];refine kp.2 ⟨λz hz=> ?_,a4s h2⟩;rcases Xd.1 hz with rfl|hz
  ·omega
  exact h1 z hz
theorem a4r {x:Int}:∀ {l:List Int},aA (xg x l)<=aA l+1
 | []=>by simp [xg]
 |y::l=>by
  have:=a4r (x:=x) (l:=l);unfold xg;split
  ·simp
  split
  ·simp
  simp only [uS];omega
def xh(L:List Lg):List Int:=L.foldr (λy ks=>xg y.m ks) []
theorem aHY(L:List Lg):(xh L).Pairwise (· < ·):=by
 induction L with
 |nil=>exact UO
 |cons y L ih=>exact a4s ih
theorem Rb(L:List Lg)(q:Int):q∈xh L↔∃y∈L,y.m=q:=by
 induction L with
 |nil=>simp [xh]
 |cons y L ih=>
  have e:xh (y::L)=xg y.m (xh L):=rfl;rw [e,Xd,ih];constructor
  ·rintro (h|⟨z,hz,h⟩)
   ·exact⟨y,by simp,h.symm⟩
   exact⟨z,by simp [hz],h⟩
  rintro⟨z,hz,h⟩;rcases fG.1 hz with rfl|hz
  ·exact .inl h.symm
  exact .inr ⟨z,hz,h⟩
theorem a5N(L:List Lg):aA (xh L)<=aA L:=by
 induction L with
 |nil=>simp [xh]
 |cons y L ih=>
  have e:xh (y::L)=xg y.m (xh L):=rfl;have:=a4r (x:=y.m) (l:=xh L);rw [e,uS];omega
theorem a5M {L:List Lg} {ks:List Int}(h:ks.Pairwise (· < ·))(hm:∀q,q∈ks↔∃y∈L,y.m=q):ks=xh L:=
 a7d h (aHY L) (λq=>(hm q).trans (Rb L q).symm)
def oY(x:ak)(K:List Lg):List Lg:=if wthsE x K=0 then ru (mL x K) (xh K) else []
def Dv(X Y:List Lg):List Lg:=if sM X Y=0 then ni (fW (X++Y)) (xh (X++Y)) else []
theorem a3T {f:Int->List Int}:∀ {ks:List Int},gatE f ks=0->∀k∈ks,aL (sumI (f k))
 | [],_,k,hk=>by cases hk
 |x::xs,h,k,hk=>by
  unfold gatE at h;by_cases hx:aL (sumI (f x))
  ·rw [ifP hx] at h;rcases fG.1 hk with rfl|hk
   ·exact hx
   exact a3T h k hk
  rw [ifN hx] at h;cases h
theorem a3W(f:Int->List Int)(ks:List Int):aA (ni f ks)=aA ks:=by simp [ni]
theorem aFt(f:Int->List Int)(ks:List Int):aA (ru f ks)<=aA ks:=by
 unfold ru;split
 ·rw [a3W];exact aZ _
 simp
theorem Yo(x:ak)(K:List Lg):aA (oY x K)<=aA K:=by
 unfold oY;split
 ·exact bz (aFt _ _) (a5N K)
 simp
theorem aLs {x:ak} {K:List Lg}(h:∀y∈K,aL y.m):∀y∈oY x K,aL y.m/\aL y.n:=by
 intro y hy;unfold oY at hy;split at hy
 ·unfold ru at hy;split at hy
  ·rename_i he;unfold ni at hy;obtain⟨k,hk,rfl⟩:=di.1 hy;obtain⟨z,hz,hzk⟩:=(Rb K k).1 hk;exact⟨hzk▸h z hz,a3T he k hk⟩
  cases hy
 cases hy
theorem a5F(X Y:List Lg):aA (Dv X Y)<=aA X+aA Y:=by
 unfold Dv;split
 ·rw [a3W];exact bz (a5N _) (by simp)
 simp
theorem a5E {X Y:List Lg}:∀y∈Dv X Y,aL y.n:=by
 intro y hy;unfold Dv at hy;split at hy
 ·rename_i he;unfold ni at hy;obtain⟨k,hk,rfl⟩:=di.1 hy;rcases a5C X Y with⟨h1,h2⟩|⟨h1,h2,h3⟩|⟨h1,h2,h3,h4⟩|⟨h1,h2,h3,h4,h5⟩|⟨h1,h2,h3,h4,h5⟩
  ·rw [he] at h2;exact absurd h2.symm h1
  ·rw [he] at h3;exact absurd h3.symm h2
  ·rw [he] at h4;cases h4
  ·rw [he] at h5;cases h5
  refine a5D h1 h2 ?_ k;rw [he] at h5;by_cases hT:aL (Iq X Y)
  ·exact hT
  rw [(gw hT).2] at h5;cases h5
 cases hy
def gp(D:Dk)(K:List Lg):List Lg:=Dv (dy D 0) (oY D.x K)
def wJ(D:Dk)(K:List Lg):Int:=Kl D (ie (gp D K))
def dw(D:Dk)(K:List Lg):Dk:=mB D (wJ D K)
def jA(D:Dk)(K:List Lg):List Lg:=zn (balA (dw D K).x.ms.length ((dw D K).x.ss.length+1) (dw D K).l 1 0 0) (gp D K)
def mj(D:Dk)(K:List Lg):List Lg:=zo (balA (dw D K).x.ms.length ((dw D K).x.ss.length+1) (dw D K).l 1 0 0) (gp D K)
def J2(D:Dk)(K:List Lg):Dk:=kH (j5 (dw D K) (jA D K)) 15 (mj D K)
structure PN(D:Dk)(K:List Lg):Prop where
 ok:fZ D
 b0:aL (balA (aA D.x.ms) (aA D.x.ss+1) D.l 1 0 0)
 kl:aA K<=400
 kI:∀y∈K,aL y.m/\aL y.a/\aL y.n
 sp:∀i,aL (df D.x i).a
 gl:aA (dy D 0)<=400
 gm:∀y∈dy D 0,aL y.m
 ml:aA D.x.ms<=100000
 wI:∀x∈D.who,aL x
 nI:aL (wJ D K)
 dO:∀k,k<=aA (iH D (wJ D K))->fZ (oK D ((iH D (wJ D K)).take k))
 dI:∀x∈iH D (wJ D K),aL x.k/\aL x.m/\aL x.n/\0<=x.n
 dl:aA (iH D (wJ D K))<=100000
 b1:aL (balA (dw D K).x.ms.length ((dw D K).x.ss.length+1) (dw D K).l 1 0 0)
 gO:∀k,k<=aA (jA D K)->fZ (j5 (dw D K) ((jA D K).take k))
 gI:∀x∈jA D K,aL x.m/\aL x.a/\aL x.n/\0<=x.n
 pl:aA (jA D K)<=80000
 lg:(j5 (dw D K) (jA D K)).log.length+aA (mj D K)<=90000
 ll:aA (mj D K)<=80000
theorem aF8(db:Nat)(p:Dp)(D:Dk)(K:List Lg)(A:Option ai)(c:Nat)(w:aJ)(H:bV w db p D)(hs:aW w w.heap.size A (bB K))(P:PN D K):
 aQ aM 72 #[π db,aH A (aA K) c] w (Hand db p (J2 D K) (jA D K) (mj D K) w):=by
 have HF:=η H;have yF:=η (λW (hW:β w W)=>MZ db p D 0 W (H.below hW) P.ok);have UH:=η (aCU D.x K A c w H.src hs (by have:=P.kl;omega) P.kI P.sp);have Od:=η (λW A B c d (h1:su W A c (dy D 0)) (h2:su W B d (oY D.x K))=>a9y (dy D 0) (oY D.x K) A B c d W h1 h2 (by have:=P.gl;omega) (by have:=P.kl;have:=Yo D.x K;omega) (λy hy=>⟨P.gm y hy,Mk P.ok.ob 0 y hy⟩) (λy hy=>aLs (λz hz=>(P.kI z hz).1) y hy));have l9:aA (gp D K)<=100000:=by have h1:=P.gl;have h2:=P.kl;have h3:=Yo D.x K;have h4:=a5F (dy D 0) (oY D.x K);unfold gp;omega
 have Lr:=η (λW A c (hs:aW W W.heap.size A (bB (gp D K)))=>VP (gp D K) A c W hs a5E l9);have kT:=η (λW (hW:β w W)=>a2p db p D (ie (gp D K)) W (H.below hW) (SY _) P.b0);have JU:=η (λW (hW:β w W)=>VR db p D (wJ D K) W (H.below hW) P.nI P.ml P.wI (by have:=P.ok.wl;omega) P.dO P.dI P.dl);have EZ:=η (λW A c (hs:aW W W.heap.size A (bB (gp D K)))=>aJN (balA (dw D K).x.ms.length ((dw D K).x.ss.length+1) (dw D K).l 1 0 0) (gp D K) A c W P.b1 hs a5E l9);have fC:=η (λW p' (h:bV W db p' (dw D K))=>zq db p' (dw D K) 1 0 0 W h (by decide) (by decide));have EM:=η (λW p' (h:bV W db p' (dw D K)) A c (ho:iM db p' W A (bB (jA D K)))=>a2k db p' (dw D K) (jA D K) A c W h ho.eA ho.o P.gO P.gI (by have:=P.pl;omega));have TP:=η (λW p' (h:bV W db p' (j5 (dw D K) (jA D K))) A c (ho:iM db p' W A (bB (mj D K)))=>a2F db p' (j5 (dw D K) (jA D K)) (mj D K) 15 A c W h ho.eA ho.o P.lg P.ll);obtain⟨c0,c1,c2,c3,c4,c5,c6,c7,c8,c9,c10,c11,c12,c13,c14,c15⟩:=H.cells;have Mq:mB D (wJ D K)=dw D K:=rfl;rw [Mq] at JU;have hE2:Kl D (ie (gp D K))=wJ D K:=rfl;rw [hE2] at kT;have hE3:zn (balA (dw D K).x.ms.length ((dw D K).x.ss.length+1) (dw D K).l 1 0 0) (gp D K)=jA D K:=rfl;have Mr:zo (balA (dw D K).x.ms.length ((dw D K).x.ss.length+1) (dw D K).l 1 0 0) (gp D K)=mj D K:=rfl;rw [hE3,Mr] at EZ;have hE5:J2 D K=kH (j5 (dw D K) (jA D K)) 15 (mj D K):=rfl;rw [hE5];unfold ak.val at UH;have LZ:Hid (∀W A B c d,su W A c (dy D 0)->su W B d (oY D.x K)->aQ aM 141 #[aH A (aA (dy D 0)) c,aH B (aA (oY D.x K)) d] W λe W'=>∃er,GG (gp D K) er W e W'):=η (λW A B c d h1 h2=>(Od.o W A B c d h1 h2).mono (by
  rintro e W' (⟨h,hg⟩|⟨h,ks,AG,hk2,hg⟩)
  ·refine⟨sM (dy D 0) (oY D.x K), ?_⟩;have e2:gp D K= []:=by unfold gp Dv;rw [ifN h]
   rw [e2];exact hg
  refine⟨0, ?_⟩;have e2:gp D K=ni (fW (dy D 0++oY D.x K)) ks:=by rw [a5M AG hk2];unfold gp Dv;rw [ifP h]
  rw [e2];exact hg))
 have gF:Hid (aQ aM 140 #[bP #[aH D.x.Am (aA D.x.ms) D.x.cm,aH D.x.As (aA D.x.ss) D.x.cs,aH D.x.Ac (aA D.x.cy) D.x.cc,ν D.x.line,ν D.x.bW,ν D.x.lead,ν D.x.tr,ν D.x.bT],aH A (aA K) c] w λe W'=>∃er,GG (oY D.x K) er w e W'):=η (UH.o.mono (by
  rintro e W' (⟨h,hg⟩|⟨h,ks,AG,hk2,hg⟩)
  ·refine⟨wthsE D.x K, ?_⟩;have e2:oY D.x K= []:=by unfold oY;rw [ifN h]
   rw [e2];exact hg
  refine⟨gatE (mL D.x K) ks, ?_⟩;have e2:oY D.x K=ru (mL D.x K) ks:=by rw [a5M AG hk2];unfold oY;rw [ifP h]
  rw [e2];exact hg))
 clear Od UH Mq hE2 hE3 Mr hE5;generalize balA (dw D K).x.ms.length ((dw D K).x.ss.length+1) (dw D K).l 1 0 0=bq at*;generalize yb bq (gp D K)=pe at*;generalize jA D K=G at*;generalize mj D K=L at*;generalize dw D K=E at*;generalize wJ D K=n at*;generalize gp D K=O at*;generalize oY D.x K=V at*;generalize dy D 0=X at*;generalize ie O=sv at*;go_enter func72,ntmps72
 go_upto_region 2 with (go_at_call 140;refine gF.o.mono ?_;rintro e w1 ⟨er,A1,k1,rfl,kM,hb1⟩;have aR:=η hb1;have yN:=η kM.src)
 go_upto_region 3 with (first|(go_at_call 68;refine(yF.o _ aR.o).mono ?_;rintro e w2 ⟨v2,rfl,eY,hb2⟩;obtain⟨A2,k2,hv2⟩:=bL eY;subst hv2;have kU:=η ((⟨aW.cB eY,J1 eY⟩:su w2 A2 k2 X));have aV:=τ aR hb2;have UE:=η (yN.o.below hb2))|(go_at_call 141;refine(LZ.o _ A2 A1 k2 k1 kU.o UE.o).mono ?_;rintro e w3 ⟨er3,A3,k3,rfl,nu,hb3⟩;have af:=τ aV hb3;have cD:=η (iM.Iz HF.o (nu.wide aV.o.size))))
 go_upto_region 4 with (first|(go_at_call 67;refine(Lr.o _ A3 k3 cD.o.eA).mono ?_;rintro e w4 ⟨rfl,hb4⟩;have ar:=τ af hb4;have dY:=η (cD.o.below hb4))|(go_at_call 66;refine(kT.o _ ar.o).mono ?_;rintro e w5 ⟨rfl,dA⟩;have cY:=τ ar dA;have fP:=η (dY.o.below dA))|(go_at_call 65;refine(JU.o _ cY.o).mono ?_;rintro e w6 ⟨rfl,h6⟩;obtain⟨p6,FW,NL⟩:=(dB.bY HF.o cY.o).then h6;have oz:=η FW;have lx:=η (fP.o.step NL)))
 go_upto_region 5 with (first|(go_at_call 61;refine(xM _).mono ?_;rintro e w7 ⟨rfl,ft⟩;have qg:=η (oz.o.below ft);have rS:=η (lx.o.below ft))|(go_at_call 46;refine(fC.o _ p6 qg.o.at).mono ?_;rintro e w8 ⟨rfl,kK⟩;have pA:=η (qg.o.below kK);have uN:=η (rS.o.below kK))|(go_at_call 142;refine(EZ.o _ A3 k3 uN.o.eA).mono ?_;rintro e w9 ⟨A5,c5,B5,d5,rfl,hn9,hm9,ez⟩;have Je:=η ((oF.Iz pA.o.at hn9).wide pA.o.size);have zI:=η ((oF.Iz pA.o.at hm9).wide pA.o.size);have sZ:=η (pA.o.below ez)))
 go_upto_region 6 with (go_at_call 138;refine(EM.o _ p6 sZ.o.at A5 c5 Je.o.o).mono ?_;rintro e wa ⟨rfl,ha⟩;obtain⟨pa,R7,hra⟩:=sZ.o.then ha;have HQa:=η R7;have HNa:=η (Je.o.step hra);have Zs:=η (zI.o.step hra))
 go_wp2_with (go_at_call 139;refine(TP.o _ pa HQa.o.at B5 d5 Zs.o.o).mono ?_;rintro e wb ⟨rfl,hb⟩;obtain⟨pb,Kd,Kf⟩:=HQa.o.then hb;have HQb:=η Kd;have HNb:=η (HNa.o.step Kf);have HMb:=η (Zs.o.step Kf))
 go_ret2;exact⟨A5,c5,B5,d5,pb,rfl,HQb.o,HNb.o,HMb.o⟩
def takeN(x:Bd)(la ca:Int):Int:=min x.q (min la (ca/x.p))
def mn:List Bd->Int->Int->List Fi
 | [],_,_=> []
 |x::L,la,ca=>if la=0 then [] else if takeN x la ca=0 then mn L la ca else⟨x,takeN x la ca,takeN x la ca*x.p⟩::mn L (la-takeN x la ca) (ca-takeN x la ca*x.p)
theorem aFZ:(aM.info? 208).map (λi=>(i.zero,i.size,i.bytes))=aC (aC (bP #[aG aF 0,aG aF 0,aG aF 0,aG aF 0,aG aF 0,aG aF 0,aG aF 0]),7,56):=by kernel_rfl
theorem aFY(l:List Fi)(x:Fi):Ba (l++ [x])=Ba l++x.cells:=by simp [Ba]
theorem aFa(x:Fi):∀u∈x.cells,u.oneCell'=aO:=by intro u hu;simp [Fi.cells] at hu;rcases hu with rfl|rfl|rfl|rfl|rfl|rfl|rfl<;>rfl
theorem Xp {w:aJ} {b t st n:Nat} {v:aN} {l:List aN}(h:w.ownsRow b t st v n l)(m:Nat):(w.drewN m).ownsRow b t st v n l:=h
theorem aLK {s m c q p a b n:Int}(hq:0<=q)(ha:0<=a)(hb:0<=b)(hp:0<p)(hn:n=(if b/p<if a<q then a else q then b/p else if a<q then a else q)):0<=n/\n<=q/\n<=a/\n*p<=b/\n=takeN ⟨s,m,c,q,p⟩ a b:=by
 have h1:0<=b/p:=Int.ediv_nonneg hb (by omega);have h2:b/p*p<=b:=Int.ediv_mul_le b (by omega);have h3:n<=b/p:=by split at hn<;>split at hn<;>omega
 refine⟨by split at hn<;>split at hn<;>omega,by split at hn<;>split at hn<;>omega,by split at hn<;>split at hn<;>omega,kD (M3 h3 (by omega)) h2, ?_⟩;unfold takeN;show n=min q (min a (b/p));split at hn<;>split at hn<;>omega
theorem aCs(L:List Bd)(A:Option ai)(c:Nat)(la ca:Int)(w:aJ)(hs:aW w w.heap.size A (nX L))(he:uW L la ca=0)(Wi:aL la)(rA:aL ca)(hI:∀x∈L,aL x.q/\aL x.p):
 aQ aM 133 #[aH A (aA L) c,ν la,ν ca] w λe w'=>∃v,e=aT (bC #[v,ν 0])/\w'.ownsRow w.heap.size 208 7 v (aA (mn L la ca)) (Ba (mn L la ca))/\β w w':=by
 have HS:=η hs;have hg:aA L<=1024/\0<=la/\0<=ca/\L.any rh=aP:=by
  unfold uW at he;by_cases h1:1024<aA L
  ·rw [ifP h1] at he;cases he
  rw [ifN h1] at he;by_cases h2:la<0\/ca<0\/L.any rh=aO
  ·rw [ifP h2] at he;cases he
  exact⟨by omega,by omega,by omega,by cases h:L.any rh;rfl;exact absurd (.inr (.inr h)) h2⟩
 obtain⟨hl,h0,h1,h2⟩:=hg;have pn:=η (aCY L A c la ca w hs (by omega));rw [he] at pn;have HP:Hid (∀x∈L,1<=x.q/\1<=x.p/\aL x.q/\aL x.p):=η λx hx=>by have:=zT.1 h2 x hx;simp [rh] at this;exact⟨by omega,by omega,hI x hx⟩
 obtain⟨i0,bu,hz0,fw,xe⟩:=dP aFZ;obtain⟨R,HR⟩:∃R,Hid (mn L la ca=R):=⟨_,η rfl⟩;have uQ:Hid (R= []++mn (L.drop 0) la ca):=η HR.o.symm;rw [HR.o];obtain⟨a4V,Wi⟩:=Wi;obtain⟨a4K,rA⟩:=rA;go_enter func133,ntmps133
 go_wp2_with fail
 go_step3
 go_wp2_with (go_at_call 192;refine pn.o.mono ?_;rintro e w1 ⟨rfl,hb1⟩;have aR:=η hb1)
 go_step3
 go_wp2_with fail
 go_loopw [1,2,9,11,12,22] (λlv cv u _ _ i wr=>∃(k:Nat) (a b:Int) (F:List Fi),k<=aA L/\i=ν (k:Int)/\lv=ν a/\cv=ν b/\0<=a/\a<=9223372036854775807/\0<=b/\b<=9223372036854775807/\aA F<=k/\Hid (R=F++mn (L.drop k) a b)/\Hid (wr.ownsRow w.heap.size 208 7 u (aA F) (Ba F))/\Hid (β w wr)) (λ_ _ _ _ _ i _=>aA L-(ag i).toNat)
 case atStart=>exact⟨0,la,ca,[],bM _,rfl,rfl,rfl,h0,Wi,h1,rA,aZ _,uQ,gG _ _ _ _,aR⟩
 case round=>
  obtain⟨k,a,b,F,hk,rfl,rfl,rfl,ha0,ha1,hb0,hb1,hF,HR,HO,HB⟩:=hrel;have hsz:=HB.o.size;by_cases hlt:k<aA L
  ·obtain⟨bb,oo,rfl,j6,d0,d1,d2,d3,d4⟩:=Pv ((HS.o.below HB.o).mono hsz) hlt;obtain⟨p1,p2,p3,p4⟩:=HP.o _ (cK hlt);have JU:Hid (L.drop k=L[k]::L.drop (k+1)):=η (Ju hlt);have hkb:(k:Int)<(aA L:Int):=by omega
   generalize L[k]=x at*;obtain⟨xs,xm,xc,xq,xp⟩:=x;simp only at p1 p2 p3 p4 d0 d1 d2 d3 d4;unfold aL at p3 p4;go_upto_region 8 with fail
   go_quiet (fail)
   obtain⟨n,hn⟩:∃n,n=(if b/xp<if a<xq then a else xq then b/xp else if a<xq then a else xq):=⟨_,rfl⟩;rw [<-hn];obtain⟨t1,t2,t3,t4,t5⟩:=aLK (s:=xs) (m:=xm) (c:=xc) (show 0<=xq by omega) ha0 hb0 (show 0<xp by omega) hn;clear hn;rw [JU.o] at HR;by_cases XM:a=0
   ·subst XM;have jm:Hid (R=F):=η (by rw [HR.o];simp [mn]);go_wp2_with fail
    rw [a8r];go_ret2;rw [jm.o];exact⟨_,rfl,Xp ((HO.o.alloc _)) nq,below_drewN (HB.o.alloc hsz _) nq⟩
   by_cases Du:n=0
   ·subst Du;have jm:Hid (R=F++mn (L.drop (k+1)) a b):=η (by rw [HR.o];simp [mn,XM,<-t5]);clear HR;go_wp2_with fail
    go_roundw
    case rel=>exact⟨k+1,a,b,F,by omega,by go_num,rfl,rfl,ha0,ha1,hb0,hb1,by omega,jm,η (Xp (HO.o.alloc _) nq),η (below_drewN (HB.o.alloc hsz _) nq)⟩
    case measure=>simp [ag];omega
   have t6:0<=n*xp:=Int.mul_nonneg t1 (by omega);have jR:Hid (R=(F++ [⟨⟨xs,xm,xc,xq,xp⟩,n,n*xp⟩])++mn (L.drop (k+1)) (a-n) (b-n*xp)):=η (by rw [HR.o];simp [mn,XM,<-t5,Du]);clear HR;have yj:fV (n*xp)=n*xp:=by unfold fV;omega
   have hw2:fV (a-n)=a-n:=by unfold fV;omega
   have hw3:fV (b-n*xp)=b-n*xp:=by unfold fV;omega
   have cD:=η (Xp (HO.o.alloc (aK #[ν xs,ν xm,ν xc,ν xq,ν xp] 41)) nq);have hzF:(aA F:Int)<=1024:=by omega
   clear t5;generalize hzz:n*xp=z at*;go_wp2_with (at_builtin;refine jC _ rfl _ _ 201 rfl w.heap.size 208 i0 _ 7 56 underlying201 bu hz0 fw xe rfl (by decide) _ (aA F) (Ba F) rfl (cD.o.alloc _) ⟨wr.heap.size+1,0,aB⟩ 1 1 (Fi.cells ⟨⟨xs,xm,xc,xq,xp⟩,n,z⟩) rfl rfl ?c1 (aFa _) ?c3 ?c4 ?c5 ?_)
   case c1=>exact dS _ _ #[_,_,_,_,_,_,_] (by simp)
   case c3=>simp only [bO];omega
   case c4=>omega
   case c5=>simp;omega
   intro v' w4 hown1 dK _;have dY:Hid (w4.ownsRow w.heap.size 208 7 v' (aA (F++ [(⟨⟨xs,xm,xc,xq,xp⟩,n,z⟩:Fi)])) (Ba (F++ [⟨⟨xs,xm,xc,xq,xp⟩,n,z⟩]))):=by show kF _ _ _ _ _ _ _;rw [aFY,cN,uT];exact hown1
   have ar:Hid (β w w4):=η (((below_drewN (HB.o.alloc hsz _) nq).alloc (by simp;omega) _).grown dK (by simp;omega) (λj hj=>eU cD.o j hj));have hbl:w4.heap[wr.heap.size]? =aC (aK #[ν xs,ν xm,ν xc,ν xq,ν xp] 41):=by
    refine(dK.block _ (by simp;omega) (λhe=> ?_)).trans ?_
    ·have:=(HO.o.lt _ he.symm).2;omega
    rw [fL _ _ (by simp)];exact cQ _ _
   have hc4:w4.cell? ⟨wr.heap.size,4,aB⟩=aC (ν xp):=by
    first
     |(simp [World.cell?,hbl];done)
     |(simp [World.cell?,aJ.aNI,hbl];done)
   clear hown1 dK hbl;go_wp2_with fail
   go_roundw
   case rel=>exact⟨k+1,a-n,b-z,F++ [⟨⟨xs,xm,xc,xq,xp⟩,n,z⟩],by omega,by go_num,rfl,rfl,by omega,by omega,by omega,by omega,by rw [cN,uT];omega,jR,dY,ar⟩
   case measure=>simp [ag];omega
  obtain rfl:k=aA L:=by omega
  have jm:Hid (R=F):=η (by rw [HR.o];simp [mn]);go_wp2_with fail
  rw [a8r];go_ret2;rw [jm.o];exact⟨_,rfl,HO.o,HB.o⟩
def fS(s:Int)(x:Fi):List En:= [⟨7,x.b.m,s,-x.q⟩,⟨1,0,s,x.q⟩,⟨1,0,0,-x.c⟩,⟨7,x.b.m,0,x.c⟩]
def eX(D:Dk)(es:List En):List Int:=if lf (aA D.x.ms) (aA D.x.ss+1) D.l D.h es=0 then kN (aA D.x.ms) (aA D.x.ss+1) D.l es else D.l
def I7(s:Int)(D:Dk)(x:Fi):Dk:= {D with l:=eX D (fS s x),log:=D.log++ [⟨12,x.b.m,s,x.q,x.b.s⟩,⟨19,x.b.m,0,x.c,x.b.s⟩]}
def tS(s:Int)(D:Dk)(L:List Fi):Dk:=L.foldl (I7 s) D
theorem aFb {s:Int} {D:Dk} {L:List Fi} {k:Nat}(h:k<aA L):tS s D (L.take (k+1))=I7 s (tS s D (L.take k)) L[k]:=by rw [fH h];unfold tS;rw [List.foldl_append];rfl
def GA(D:Dk)(s:Int)(Bs:List Bd):Prop:=∃is,Js ((qW D.bx s).map bk) is/\Bs=is.map λi=>(qW D.bx s).getD i ⟨0,0,0,0,0⟩
def yY(D:Dk):Int:=yX D+rH (jx D) D.who
def nC(D:Dk)(s:Int)(Bs:List Bd):List Fi:=mn Bs (jP D s) (yY D)
def pK(D:Dk)(s:Int)(Bs:List Bd):Int:=rj (nC D s Bs)-yX D
def K7(D:Dk)(s:Int)(Bs:List Bd):Dk:=tS s (mB D (pK D s Bs)) (nC D s Bs)
structure Z0(D:Dk)(s:Int)(Bs:List Bd):Prop where
 cI:aL (yY D)
 au:uW Bs (jP D s) (yY D)=0
 bI:∀x∈Bs,aL x.q/\aL x.p
 nI:aL (pK D s Bs)
 dO:∀k,k<=aA (iH D (pK D s Bs))->fZ (oK D ((iH D (pK D s Bs)).take k))
 dI:∀x∈iH D (pK D s Bs),aL x.k/\aL x.m/\aL x.n/\0<=x.n
 dl:aA (iH D (pK D s Bs))<=100000
 fO:∀k,k<=aA (nC D s Bs)->fZ (tS s (mB D (pK D s Bs)) ((nC D s Bs).take k))
 fI:∀x∈nC D s Bs,aL x.b.m/\aL x.q/\aL x.c/\0<=x.q/\0<=x.c
 fl:aA (nC D s Bs)<=80000
structure Sy(D:Dk)(s:Int):Prop where
 ok:fZ D
 sI:aL s
 bs:aL (balA (aA D.x.ms) (aA D.x.ss+1) D.l 1 0 s)
 b0:aL (balA (aA D.x.ms) (aA D.x.ss+1) D.l 1 0 0)
 ml:aA D.x.ms<=100000
 wI:∀x∈D.who,aL x
 xI:∀d∈D.bx,aL d.s
 all:jP D s≠0->∀Bs,GA D s Bs->Z0 D s Bs
def JG(D:Dk)(s:Int)(D':Dk):Prop:=(jP D s=0/\D'=D)\/(jP D s≠0/\∃Bs,GA D s Bs/\D'=K7 D s Bs)
theorem uy {n:Int}(h:aL n):aF.wrap n=n:=by rw [fh];unfold aL at h;omega
theorem aKd(a:Int)(L:List Lg):aL (Ab a L):=by
 unfold Ab;split
 ·unfold yr;split
  ·decide
  split
  ·exact V7 _
  decide
 decide
theorem aJB(a b:Int):aL (pV a b):=by
 unfold pV;split
 ·decide
 split
 ·assumption
 decide
theorem aEt(db:Nat)(p:Dp)(D:Dk)(s:Int)(w:aJ)(H:bV w db p D)(P:Sy D s):
 aQ aM 70 #[π db,ν s] w λe w'=>e=aT (bC #[])/\∃D',JG D s D'/\aq db p D' w w':=by
 have HF:=η H;have HP:=η P;have vJ:=η (VU db p D s w H P.ok P.bs);have xU:=H.lt;clear H P;by_cases h0:jP D s=0
 ·rw [h0] at vJ;have HR:Hid (JG D s D):=η (.inl ⟨h0,rfl⟩);clear h0 HP;go_enter aBH,aC3
  go_wp2_with (go_at_call 69;refine vJ.o.mono ?_;rintro e w1 ⟨rfl,hb1⟩;have aR:=η hb1;clear hb1)
  (try simp only [Exit.inBlock,Exit.then])
  refine bodyPost_ret (results_none rfl _ _ _) rfl ?_;exact⟨rfl,D,HR.o,aq.bY HF.o aR.o⟩
 have hb0:(jP D s==0)=aP:=by simpa using h0
 have om:=η h0;have EI:=η (HP.o.all h0);clear h0;have Co:=η (λW (hW:β w W)=>a2s db p D W (HF.o.below hW) HP.o.ml);obtain⟨Aw,cw,hv⟩:=bL HF.o.who;have pD:=η (λW (hW:β w W)=>(show aW W W.heap.size Aw (D.who.map (aG aF)) by have h1:=(HF.o.below hW).who;rw [hv] at h1;exact aW.cB h1));have bJ:=η (λW (hW:β w W)=>(show W.cell? ⟨db,11,aB⟩=aC (aH Aw (aA D.who) cw) from(by rw [<-hv];exact(HF.o.below hW).cells.c11)));have JS:=η (λW (hW:β w W)=>(HF.o.below hW).cells.c10);have LL:=η (λW (hW:β w W)=>aEs db p D W (HF.o.below hW) HP.o.ok HP.o.b0);have yK:=η (λW (hW:β w W)=>aMG p.xc p.xv D.bx s p.xb W (HF.o.below hW).bx (by have:=HP.o.ok.bl;omega) HP.o.xI);have Ls:Hid (aL (jP D s)):=η (aKd _ _);have HR:Hid (∀Bs D',GA D s Bs->D'=K7 D s Bs->JG D s D'):=η (λBs D' h e=> .inr ⟨om.o,Bs,h,e⟩);have Lx:Hid (aA D.who<=1000):=η (by have:=HP.o.ok.wl;omega);have Kh:=Lx.o;go_enter aBH,aC3
 go_upto_region 2 with (go_at_call 69;refine vJ.o.mono ?_;rintro e w1 ⟨rfl,hb1⟩;have aR:=η hb1;clear hb1)
 have bQ:β w w1.drew:=aR.o.drew;have hdd:=bJ.o _ bQ;clear vJ aR;go_region_held3 (λW=>W.cell? ⟨db,11,aB⟩=aC (aH Aw (aA D.who) cw)) (first|(with_reducible assumption)) (first|(go_at_call 128;refine(Co.o _ (by with_reducible assumption)).mono ?_;rintro e w2 ⟨P,rfl,lX,jb,uh,xZ,FV,hb2⟩;have dZ:β w w2:=kB (by with_reducible assumption) (hb2.mono (gX (by with_reducible assumption)));have hcc:=bJ.o _ dZ)|(go_at_call 132;refine(aKA P D.who Aw cw _ FV (by rw [lX,pL];simp only [bO];have:=HP.o.ml;omega) (pD.o _ dZ) Kh HP.o.wI).mono ?_;rintro e w3 ⟨rfl,hb3⟩;have WH:=dZ.trans (hb3.mono dZ.size);have hc3:=bJ.o _ WH))
 all_goals
  rw [aK9 lX jb uh xZ];have af:=η WH;generalize gJ P D.who=me at*;clear lX jb uh xZ FV hb2 dZ hcc hb3 WH hc3 bQ hdd Co pD bJ;have c10:=JS.o _ af.o;have yB:Hid (yX D+rH (jx D) D.who=yY D):=η rfl;have zD:Hid (aL (yX D)):=η (aJB _ _);have Jl:Hid (∀Bs,mn Bs (jP D s) (yY D)=nC D s Bs):=η (λ_=>rfl);have HNF:Hid (∀Bs,rj (nC D s Bs)-yX D=pK D s Bs):=η (λ_=>rfl);have HDF:Hid (∀Bs,K7 D s Bs=tS s (mB D (pK D s Bs)) (nC D s Bs)):=η (λ_=>rfl);clear JS;generalize rH (jx D) D.who=rv at*;have lV:Hid (∀Bs,GA D s Bs->aF.wrap (yX D+rv)=yY D):=η (λBs h=>by rw [yB.o];exact uy (EI.o Bs h).cI);go_upto_region 4 with (first|(go_at_call 134;refine(yK.o _ af.o).mono ?_;rintro e w4 ⟨v4,is,rfl,WY,iC,hb4⟩;obtain⟨A4,k4,hv4⟩:=bL iC;subst hv4;have ar:=τ af hb4;have iw:Hid (GA D s (is.map λi=>(qW D.bx s).getD i ⟨0,0,0,0,0⟩)):=η ⟨is,WY,rfl⟩;have jT:=η (aW.cB iC);have nk:aA is=aA (is.map λi=>(qW D.bx s).getD i ⟨0,0,0,0,0⟩):=(by simp);clear iC hb4 WY yK;rw [nk];clear nk;generalize (is.map λi=>(qW D.bx s).getD i (⟨0,0,0,0,0⟩:Bd))=Bs at*;have dT:=η (EI.o Bs iw.o))|(go_at_call 135;refine(LL.o _ ar.o).mono ?_;rintro e w5 ⟨rfl,dA⟩;have cY:=τ ar dA;have Cq:=η ((jT.o.below dA).mono dA.size);have hwr:=lV.o Bs iw.o;clear dA ar jT)|(go_at_call 133;refine(aCs Bs A4 k4 (jP D s) (yY D) _ Cq.o dT.o.au Ls.o dT.o.cI dT.o.bI).mono ?_;rintro e w6 ⟨v6,rfl,sB,iQ⟩;obtain⟨A6,k6,hv6⟩:=bL sB;subst hv6;rw [Jl.o] at sB ⊢;have gK:=τ cY iQ;have lx:=η (iM.cB HF.o (iD sB cY.o.size));clear sB iQ cY Cq hwr))
  clear af c10;have vD:=η dT.o.fl;have gZ:=vD.o;have ZO:=η (λW (hW:β w W)=>VR db p D (pK D s Bs) W (HF.o.below hW) dT.o.nI HP.o.ml HP.o.wI Lx.o dT.o.dO dT.o.dI dT.o.dl);have hwr:aF.wrap (rj (nC D s Bs)-yX D)=pK D s Bs:=uy dT.o.nI;have HFO:=η dT.o.fO;have JV:=η dT.o.fI;have HSI:=η HP.o.sI;have qD:Hid (JG D s (tS s (mB D (pK D s Bs)) (nC D s Bs))):=η (HR.o Bs _ iw.o rfl);clear dT iw HR EI Ls yB Jl HDF zD HNF;generalize pK D s Bs=bn at*;generalize nC D s Bs=L at*;generalize mB D bn=D1 at*;go_upto_region 5 with (first|(go_at_call 136;refine(aEW L A6 k6 _ lx.o.eA (by have:=vD.o;omega)).mono ?_;rintro e w7 ⟨rfl,ft⟩;have vB:=τ gK ft;have rS:=η (lx.o.below ft);clear ft lx gK)|(go_at_call 135;refine(LL.o _ vB.o).mono ?_;rintro e w8 ⟨rfl,kK⟩;have mN:=τ vB kK;have uN:=η (rS.o.below kK);clear kK rS vB)|(go_at_call 65;refine(ZO.o _ mN.o).mono ?_;rintro e w9 ⟨rfl,h9⟩;obtain⟨p9,yi,FZ⟩:=(dB.bY HF.o mN.o).then h9;have sZ:=η yi;have wk:=η (uN.o.step FZ);clear h9 yi FZ uN mN))
  clear ZO LL hwr;have iF:Hid (aq db p9 (tS s D1 (L.take 0)) w9 w9):=η (aq.refl sZ.o.at);have BK:Hid (∀W D2,aq db p9 D2 w9 W->aW W W.heap.size A6 (Ba L)):=η (λW D2 h=>by obtain⟨_,_,_,_,_,_,hu,_⟩:=h;exact hu.eA wk.o.eA wk.o.o);clear wk;go_wp2_with fail
  go_loopw [10,11,51] (λ_ _ i wr=>∃k:Nat,k<=aA L/\i=ν (k:Int)/\Hid (aq db p9 (tS s D1 (L.take k)) w9 wr)) (λ_ _ i _=>aA L-(ag i).toNat)
  case atStart=>exact⟨0,bM _,rfl,iF⟩
  case round=>
   clear iF;obtain⟨k,hk,rfl,Ln⟩:=hrel;by_cases hlt:k<aA L
   ·obtain⟨bl,ol,kJ,hbl,l0,l1,l2,l3,l4,l5,l6⟩:=a3M (BK.o _ _ Ln.o) hlt;have ej:(0:Int)<=(k:Int):=by omega
    have hkb:(k:Int)<(aA L:Int):=by omega
    obtain⟨p1,h1,e1,e2,e3,e4,dD,hs1⟩:=Ln.o;have HFk:=η h1;have my:Hid (∀j,eW db p1 j->j<wr.heap.size):=η (λj hj=>h1.td hj);have HT:Hid (∀W D2,aq db p1 D2 wr W->aq db p9 D2 w9 W):=η (λW D2 h=>aq.trans dD hs1 ⟨e1,e2,e3,e4⟩ h);have HL:=η (aFb (s:=s) (D:=D1) hlt);have Tr:=η (HFO.o k hk);obtain⟨qR,qT,s7,vn,WV⟩:=JV.o _ (cK hlt);clear h1 e1 e2 e3 e4 dD hs1 Ln;subst kJ;generalize tS s D1 (L.take k)=E at*;generalize L[k]=x at*;obtain⟨⟨fs,fm,fe,fr,fp⟩,fq,fc⟩:=x;simp only at l0 l1 l2 l3 l4 l5 l6 qR qT s7 vn WV;have og:=η (kh qR (kh qT (kh s7 (kh vn WV))));have hwq:aF.wrap (-fq)= -fq:=uy (by unfold aL at qT ⊢;omega);have hwc:aF.wrap (-fc)= -fc:=uy (by unfold aL at s7 ⊢;omega);have vF:Hid (I7 s E ⟨⟨fs,fm,fe,fr,fp⟩,fq,fc⟩= {E with l:=eX E (fS s ⟨⟨fs,fm,fe,fr,fp⟩,fq,fc⟩),log:=E.log++ [⟨12,fm,s,fq,fs⟩,⟨19,fm,0,fc,fs⟩]}):=η rfl;have ar:Hid (β wr (wr.alloc (aK #[ν fs,ν fm,ν fe,ν fr,ν fp,ν fq,ν fc] 208))):=η σ;have pE:Hid ((wr.alloc (aK #[ν fs,ν fm,ν fe,ν fr,ν fp,ν fq,ν fc] 208)).heap[wr.heap.size]? =aC (aK #[ν fs,ν fm,ν fe,ν fr,ν fp,ν fq,ν fc] 208 (0,0))):=η (cQ wr _);have mh:wr.heap.size<(wr.alloc (aK #[ν fs,ν fm,ν fe,ν fr,ν fp,ν fq,ν fc] 208)).heap.size:=by simp
    clear qR qT s7 vn WV;go_upto_region 8 with (fail)
    generalize wr.alloc (aK #[ν fs,ν fm,ν fe,ν fr,ν fp,ν fq,ν fc] 208)=w4 at*;obtain⟨bx,bU⟩:∃bx,bx=wr.heap.size:=⟨_,rfl⟩;have dJ:=η bU;rw [<-bU] at pE mh ⊢;clear bU l0 l1 l2 l3 l4 l5 l6;have x1:w4.cell? ⟨bx,1,aB⟩=aC (ν fm):=ρ pE.o;go_upto_region 9 with (fail)
    clear x1;have lO:=η (HFk.o.below ar.o);have bX:Hid (¬eW db p1 bx):=η (λh=>by have:=my.o bx h;rw [dJ.o] at this;omega);have bJ:Hid (∀W,β w4 W->W.cell? ⟨db,8,aB⟩=aC (π p1.vb)/\W.cell? ⟨bx,0,aB⟩=aC (ν fs)/\W.cell? ⟨bx,5,aB⟩=aC (ν fq)/\W.cell? ⟨bx,6,aB⟩=aC (ν fc)):=η (λW hW=>by have hd:=(hW.block bx mh).trans pE.o;exact⟨(lO.o.below hW).cells.c8,ρ hd,ρ hd,ρ hd⟩);have lu:Hid (∀W b,β w4 W->aW W W.heap.size (aC ⟨b,0,aB⟩) (qy (fS s ⟨⟨fs,fm,fe,fr,fp⟩,fq,fc⟩))->aQ aM 50 #[π p1.vb,aH (aC ⟨b,0,aB⟩) 4 4] W λe W'=>e=aT (ν (lf (aA E.x.ms) (aA E.x.ss+1) E.l E.h (fS s ⟨⟨fs,fm,fe,fr,fp⟩,fq,fc⟩)))/\aq db p1 {E with l:=eX E (fS s ⟨⟨fs,fm,fe,fr,fp⟩,fq,fc⟩)} W W'/\W'.cell? ⟨db,8,aB⟩=aC (π p1.vb)/\W'.cell? ⟨bx,0,aB⟩=aC (ν fs)/\W'.cell? ⟨bx,5,aB⟩=aC (ν fq)/\W'.cell? ⟨bx,6,aB⟩=aC (ν fc)):=η (λW b hW nJ=>by
     refine(Yk p1.vb p1.vp (aA E.x.ms) (aA E.x.ss+1) (aA E.x.ms) E.l E.h (fS s ⟨⟨fs,fm,fe,fr,fp⟩,fq,fc⟩) (aC ⟨b,0,aB⟩) 4 W (lO.o.below hW).vt nJ ?_ Tr.o.lI (by have:=Tr.o.hl;omega) (by simp [fS])).mono ?_
     ·have h2:=og.o;have h3:=HSI.o;intro y hy;simp only [fS,fG,List.not_mem_nil,or_false] at hy;rcases hy with rfl|rfl|rfl|rfl
      ·exact⟨(by decide:aL 7),h2.1,h3,(by have:=h2.2.1;have:=h2.2.2.2.1;unfold aL at*;simp only;omega)⟩
      ·exact⟨(by decide:aL 1),(by decide:aL 0),h3,h2.2.1⟩
      ·exact⟨(by decide:aL 1),(by decide:aL 0),(by decide:aL 0),(by have:=h2.2.2.1;have:=h2.2.2.2.2;unfold aL at*;simp only;omega)⟩
      exact⟨(by decide:aL 7),h2.1,(by decide:aL 0),h2.2.2.1⟩
     intro e W' h;obtain⟨q1,q2⟩:=(lO.o.below hW).moved h;have hz:=cL mh hW.size;obtain⟨_,r0,r1,r2⟩:=bJ.o W hW;obtain⟨p3,H3,f1,f2,f3,f4,qU,hs3⟩:=q2;have S7:aq db p1 {E with l:=eX E (fS s ⟨⟨fs,fm,fe,fr,fp⟩,fq,fc⟩)} W W':=⟨p3,H3,f1,f2,f3,f4,qU,hs3⟩;exact⟨q1,S7,by rw [<-f1];exact H3.cells.c8,(S7.cell 0 hz bX.o).trans r0,(S7.cell 5 hz bX.o).trans r1,(S7.cell 6 hz bX.o).trans r2⟩)
    have bQ:β w4 w4.drew:=(aX _ _).drew;have hdd:=bJ.o _ bQ;go_region_held3 (λW=>W.cell? ⟨db,8,aB⟩=aC (π p1.vb)/\W.cell? ⟨bx,0,aB⟩=aC (ν fs)/\W.cell? ⟨bx,5,aB⟩=aC (ν fq)/\W.cell? ⟨bx,6,aB⟩=aC (ν fc)) (first|(with_reducible assumption)|(refine bJ.o _ (rK (by with_reducible assumption) (gX (by with_reducible assumption)) _))) (first|(go_at_call 61;refine(xM _).mono ?_;rintro e w5 ⟨rfl,gH⟩;have qQ:β w4 w5:=kB (by with_reducible assumption) (gH.mono (gX (by with_reducible assumption)));have hcc:=bJ.o _ qQ)|(go_at_call 49;refine(Et fm _).mono ?_;rintro e w6 ⟨rfl,tV⟩;have xS:β w4 w6:=kB (by with_reducible assumption) (tV.mono (gX (by with_reducible assumption)));have rB:=bJ.o _ xS)|(go_at_call 50;refine(lu.o _ _ (rK (by with_reducible assumption) (gX (by with_reducible assumption)) _) (a7Q _ _ (qy (fS s ⟨⟨fs,fm,fe,fr,fp⟩,fq,fc⟩)))).mono ?_;rintro e w7 ⟨rfl,dH,AJ⟩))
    all_goals
     have gD:Hid (aq db p1 {E with l:=eX E (fS s ⟨⟨fs,fm,fe,fr,fp⟩,fq,fc⟩)} wr w7):=η (aq.trans (bA.bY _ (ar.o.trans (Below.mono (rK (by with_reducible assumption) (gX (by with_reducible assumption)) _) ar.o.size))) (λ_ h=> .inl h) ⟨rfl,rfl,rfl,rfl⟩ dH);obtain⟨_,m0,m1,m2⟩:=AJ;have Ip:bx<w7.heap.size:=World.block_lt_of_cell? _ _ m0;clear dH gH qQ hcc tV xS rB bQ hdd lu bJ lO ar pE mh;obtain⟨p4,H4,e1,e2,e3,e4,qV,j8⟩:=gD.o;have ki:=η (H4.below ((aX w7.heap.size w7).alloc (aZ _) (aK #[ν 12,ν fm,ν s,ν fq,ν fs,ν 19,ν fm,ν 0,ν fc,ν fs] 45)));have km:=η (xP db p4 {E with l:=eX E (fS s ⟨⟨fs,fm,fe,fr,fp⟩,fq,fc⟩)} [⟨12,fm,s,fq,fs⟩,⟨19,fm,0,fc,fs⟩] w7.heap.size 2 _ ki.o (dS w7 45 #[ν 12,ν fm,ν s,ν fq,ν fs,ν 19,ν fm,ν 0,ν fc,ν fs] rfl) (by simp) (by simp) (by have:=Tr.o.gl;simp only;omega));have px:Hid (∀W,aq db p4 {E with l:=eX E (fS s ⟨⟨fs,fm,fe,fr,fp⟩,fq,fc⟩),log:=E.log++ [⟨12,fm,s,fq,fs⟩,⟨19,fm,0,fc,fs⟩]} (w7.alloc (aK #[ν 12,ν fm,ν s,ν fq,ν fs,ν 19,ν fm,ν 0,ν fc,ν fs] 45)) W->aq db p9 (tS s D1 (L.take (k+1))) w9 W):=η (λW h=>by rw [HL.o,vF.o];exact HT.o W _ (aq.trans qV j8 ⟨e1,e2,e3,e4⟩ (aq.trans (bA.bY _ σ) (λ_ h=> .inl h) ⟨rfl,rfl,rfl,rfl⟩ h)));clear H4 e1 e2 e3 e4 qV j8 gD;go_wp2_with (go_at_call 55;refine km.o.mono ?_;rintro e w8 ⟨rfl,h8⟩;have eB:=η (px.o _ h8);clear h8)
     go_roundw
     case rel=>exact⟨k+1,by omega,by go_num,eB⟩
     case measure=>simp [ag];omega
   obtain rfl:k=aA L:=by omega
   rw [cU] at Ln;go_wp2_with fail
   go_end0
   obtain⟨pz,hqz,_⟩:=sZ.o.then Ln.o;exact⟨rfl,_,qD.o,hqz.p⟩
def TB(w:aJ)(zs:List Int)(e:dX)(w':aJ):Prop:=∃A c,e=aT (aH A (aA zs) c)/\w'.ownsRow w.heap.size 3 1 (aH A (aA zs) c) (aA zs) (zs.map (aG aF))/\aa w.heap.size w w'
theorem a6I(zs:List Int)(A:Option ai)(c:Nat)(w:aJ)(h:aW w w.heap.size A (zs.map (aG aF)))(hl:aA zs<=1000000):
 aQ aM 179 #[aH A (aA zs) c] w (TB w (rE zs)):=by
 have HS:=η h;have HE:=η (show rE zs=tB (zs.mergeSort λx y=>decide (x<=y)) from rfl);rcases Nat.eq_zero_or_pos (aA zs) with h0|h0
 ·have hz:zs= []:=nU h0;subst hz;cases A with
  |none=>
   go_enter a0e,a0y
   go_wp2_with fail
   refine(slices_Clone_int_nil 0 c _).mono ?_;rintro e w1 ⟨rfl,rfl⟩;go_wp2_with fail
   refine(slices_Sort_int_none aB 0 _).mono ?_;rintro e w2 ⟨rfl,rfl⟩;go_wp2_with fail
   refine(slices_Compact_int_empty aB 0 _).mono ?_;rintro e w3 ⟨rfl,rfl⟩;go_wp2_with fail
   go_ret;exact⟨aB,0,by rw [Rq];rfl,by rw [Rq];exact gG _ _ _ _,aX _ _⟩
  |some a=>
   go_enter a0e,a0y
   go_wp2_with fail
   refine(slices_Clone_int_zero a c _).mono ?_;rintro e w1 ⟨v1,rfl,eT,_,hb1⟩;obtain⟨A1,c1,rfl⟩:=bL eT;have aR:=η hb1;have cF:=η eT;go_wp2_with fail
   refine(slices_Sort_int_none A1 c1 _).mono ?_;rintro e w2 ⟨rfl,rfl⟩;go_wp2_with fail
   refine(slices_Compact_int_empty A1 c1 _).mono ?_;rintro e w3 ⟨rfl,rfl⟩;go_wp2_with fail
   go_ret;exact⟨A1,c1,by rw [Rq];rfl,by rw [Rq];exact cF.o,aR.o⟩
 obtain⟨b,o,rfl,hb,_⟩:=tZ HS.o h0;go_enter a0e,a0y
 go_wp2_with fail
 refine(slices_Clone_int b o (aA zs) c zs _ (aZ _) (by omega) (YH HS.o)).mono ?_;rintro e w1 ⟨v1,rfl,eT,_,hb1⟩;rw [cU] at eT;obtain⟨g,cap,rfl,hg,hlt⟩:=eT.form h0;have cF:=η eT;have aR:=η hb1;have hz1:=hb1.size;clear eT hb1;go_wp2_with fail
 refine(aIj zs g cap w.heap.size w _ hg cF.o hl aR.o hz1).mono ?_;rintro e w2 ⟨rfl,eY,hb2⟩;have ir:aA (zs.mergeSort λx y=>decide (x<=y))=aA zs:=List.length_mergeSort _;generalize (zs.mergeSort λx y=>decide (x<=y))=ms at*;rw [<-ir] at eY;have dG:=η eY;have aV:=η hb2;have hz2:=hb2.size;have aGp:aA ms<=1000000:=by omega
 clear eY hb2;rw [<-ir];clear ir;go_wp2_with fail
 refine(aEK ms g cap w.heap.size w _ hg dG.o aGp aV.o hz2).mono ?_;rintro e w3 ⟨rfl,j7,hb3⟩;have cD:=η j7;have af:=η hb3;clear j7 hb3;go_wp2_with fail
 go_ret;rw [HE.o];exact⟨_,_,rfl,cD.o,af.o⟩
theorem aFS(L:List Ob)(A:Option ai)(c:Nat)(w:aJ)(hs:aW w w.heap.size A (fN L))(hl:aA L<=1000000):
 aQ aM 121 #[aH A (aA L) c] w (TB w (rE ((L.filter λx=>x.st==1&&BZ x).map (·.m)))):=by
 have HC:=η (aIw L A c BZ w hs hl (λx W _=>aFR x W));have hDl:aA (L.filter λx=>x.st==1&&BZ x)<=aA L:=qo _ _;obtain⟨i0,bu,hz0,fw,hz2⟩:=dP Ra;generalize hzs:rE ((L.filter λx=>x.st==1&&BZ x).map (·.m))=zs;have HZ:=η hzs;go_enter func121,ntmps121
 go_wp2_with fail
 refine HC.o.mono ?_;rintro e w1 ⟨v1,rfl,eT,hb1⟩;generalize (L.filter λx=>x.st==1&&BZ x)=D at*;obtain⟨A1,c1,rfl⟩:=bL eT;have HS:=η (aW.cB eT);have aR:=η hb1;have hz1:=hb1.size;go_wp2_with fail
 go_loopw [3,5,9] (λu _ i wr=>∃k:Nat,k<=aA D/\i=ν k/\Hid (wr.ownsRow w1.heap.size 3 1 u (aA ((D.take k).map (·.m))) (((D.take k).map (·.m)).map (aG aF)))/\Hid (β w1 wr)) (λ_ _ i _=>aA D-(ag i).toNat)
 case atStart=>exact⟨0,bM _,rfl,⟨by simp,aS ⟨rfl,rfl⟩⟩,aX _ _⟩
 case round=>
  obtain⟨k,hk,rfl,HO,HB⟩:=hrel;have hsz:=HB.o.size;by_cases hlt:k<aA D
  ·obtain⟨b,o,rfl,hb,d0,d1,d2,d3,d4,d5⟩:=xw (HS.o.below HB.o) hlt;have jR:Hid ((D.take (k+1)).map (·.m)=(D.take k).map (·.m)++ [D[k].m]):=by show _=_;rw [fH hlt,dh];rfl
   have Bn:aA ((D.take k).map (·.m))<=k:=by rw [iX];exact List.length_take_le _ _
   generalize (D.take k).map (·.m)=ys at*;go_wp2_with (at_builtin;refine jC _ rfl _ _ 46 rfl w1.heap.size 3 i0 _ 1 8 yU bu hz0 fw hz2 rfl (by decide) _ (aA ys) (ys.map (aG aF)) rfl ((HO.o.alloc _).alloc _) ⟨wr.heap.size+1,0,aB⟩ 1 1 [ν D[k].m] rfl rfl ?c1 xy ?c3 ?c4 ?c5 ?_)
   case c1=>exact dS _ _ #[_] (by simp)
   case c3=>simp only [bO];omega
   case c4=>omega
   case c5=>simp;omega
   intro v' w4 hown1 dK _;have dY:Hid (w4.ownsRow w1.heap.size 3 1 v' (aA ((D.take (k+1)).map (·.m))) (((D.take (k+1)).map (·.m)).map (aG aF))):=by show kF _ _ _ _ _ _ _;rw [jR.o,dh,cN,uT];exact hown1
   have py:Hid (β w1 w4):=((HB.o.alloc hsz _).alloc (by simp;omega) _).grown dK (by simp;omega) (λj hj=>eU HO.o j hj);go_wp2_with fail
   go_roundw
   case rel=>exact⟨k+1,by omega,by go_num,dY,py⟩
   case measure=>simp [ag];omega
  obtain rfl:k=aA D:=by omega
  have hO:=HO.o;rw [cU] at hO;have Bn:aA (D.map (·.m))<=aA D:=by rw [iX];exact aZ _
  generalize D.map (·.m)=ys at*;obtain⟨A2,c2,rfl,hs2⟩:=YI hO rfl;have cO:=η hs2;have cC:Hid (β w wr):=aR.o.trans (HB.o.mono hz1);go_wp2_with fail
  refine(a6I ys A2 c2 _ cO.o (by omega)).mono ?_;rintro e w5 ⟨A5,c5,rfl,hs5,dA⟩;rw [HZ.o] at hs5 ⊢;have Cq:=η (iD hs5 cC.o.size);have cY:Hid (β w w5):=cC.o.trans (dA.mono cC.o.size);go_wp2_with fail
  go_ret;exact⟨A5,c5,rfl,Cq.o,cY.o⟩
theorem aHS(z1 z2:List Int)(A1 A2:Option ai)(c1 c2:Nat)(w:aJ)(h1:xE w A1 c1 z1)(h2:xE w A2 c2 z2)(oO:aA z1<=100000)(hl2:aA z2<=100000):
 aQ aM 122 #[aH A1 (aA z1) c1,aH A2 (aA z2) c2] w (TB w (rE (z1++z2))):=by
 have hb:β w (w.alloc (aK #[aH A1 (aA z1) c1,aH A2 (aA z2) c2] 46)):=(aX _ _).alloc (aZ _) _;have HC:=η (aEQ z1 z2 A1 A2 c1 c2 w.heap.size _ (h1.below hb) (h2.below hb) (by rw [cM _ _ _ _ rfl];rfl) (by rw [cM _ _ _ _ rfl];rfl) (by simp) oO hl2);have HB:=η hb;have nH:aA (z1++z2)<=1000000:=by rw [cN];omega
 generalize (z1++z2)=zs at*;go_enter func122,ntmps122
 go_wp2_with fail
 refine HC.o.mono ?_;rintro e w1 ⟨A3,c3,rfl,hs3,hb3⟩;have sj:=η hs3;have af:Hid (β w w1):=HB.o.trans (hb3.mono (by simp));go_wp2_with fail
 refine(a6I zs A3 c3 _ sj.o nH).mono ?_;rintro e w2 ⟨A4,c4,rfl,j8,hb4⟩;have jT:=η (iD j8 af.o.size);have ar:Hid (β w w2):=af.o.trans (hb4.mono af.o.size);go_wp2_with fail
 go_ret;exact⟨A4,c4,rfl,jT.o,ar.o⟩
def nh(x:Ob)(who:List Int):Int:=if x.st≠1 then x.st else if 0<x.az/\x.done=x.az then 2 else if 0<x.az then 3 else if x.az<0/\hasB who x.m=aO then 3 else x.st
def vY(x:Ob)(who:List Int):Int:=if x.st≠1 then x.done else if 0<x.az/\x.done=x.az then x.done else if 0<x.az then x.done else if x.az<0/\hasB who x.m=aO then 0 else x.done
theorem L6 {k:IntKind} {a b c d:Int}(h:a=c)(h':b=d):aT (bC #[aG k a,aG k b])=aT (bC #[aG k c,aG k d]):=by rw [h,h']
theorem aFT(x:Ob)(who:List Int)(A:Option ai)(c:Nat)(w:aJ)(hs:aW w w.heap.size A (who.map (aG aF)))(hl:aA who<=1000000):
 aQ aM 123 #[x.val,aH A (aA who) c] w λe w'=>e=aT (bC #[ν (nh x who),ν (vY x who)])/\β w w':=by
 obtain⟨xc,xm,xa,xn,xd,xs⟩:=x;unfold Ob.val nh vY;simp only;have hb0:β w (w.alloc (aK #[ν xc,ν xm,ν xa,ν xn,ν xd,ν xs] 59)):=(aX _ _).alloc (aZ _) _;have cu:Hid ((w.alloc (aK #[ν xc,ν xm,ν xa,ν xn,ν xd,ν xs] 59)).heap[w.heap.size]? =aC (aK #[ν xc,ν xm,ν xa,ν xn,ν xd,ν xs] 59 (0,0))):=η (cQ w _);have hz0:w.heap.size<(w.alloc (aK #[ν xc,ν xm,ν xa,ν xn,ν xd,ν xs] 59)).heap.size:=by simp
 have fQ:=η (λW (hW:β w W)=>((hs.below hW).mono hW.size:aW W W.heap.size A (who.map (aG aF))));have yI:=η (λW (hW:β w W)=>Mw who A c xm W (fQ.o W hW) hl);have aY:=η hb0;clear hs hb0;go_enter func123,ntmps123
 go_upto_region 1 with (fail)
 generalize w.alloc (aK #[ν xc,ν xm,ν xa,ν xn,ν xd,ν xs] 59)=w1 at*;obtain⟨bx,bU⟩:∃bx,bx=w.heap.size:=⟨_,rfl⟩;rw [<-bU] at cu hz0 ⊢;clear bU;have c1:w1.cell? ⟨bx,1,aB⟩=aC (ν xm):=ρ cu.o;have c3:w1.cell? ⟨bx,3,aB⟩=aC (ν xn):=ρ cu.o;have c4:w1.cell? ⟨bx,4,aB⟩=aC (ν xd):=ρ cu.o;have c5:w1.cell? ⟨bx,5,aB⟩=aC (ν xs):=ρ cu.o;clear cu;by_cases h1:xs=1
 case neg=>
  have hb:(xs==1)=aP:=by simpa using h1
  go_upto_region 8 with (fail)
  go_quiet (fail)
  go_wp2_with fail
  go_ret2;exact⟨L6 (by simp [h1]) (by simp [h1]),below_drewN aY.o nq⟩
 subst h1;by_cases h2:0<xn
 ·have hg:decide (xn>0)=aO:=decide_eq_true h2;by_cases h3:xd=xn
  ·subst h3;go_upto_region 3 with (fail)
   go_quiet (fail)
   go_wp2_with fail
   go_ret2;exact⟨L6 (by simp [h2]) (by simp [h2]),below_drewN aY.o nq⟩
  have hb:(xd==xn)=aP:=by simpa using h3
  go_upto_region 5 with (fail)
  go_quiet (fail)
  go_wp2_with fail
  go_ret2;exact⟨L6 (by simp [h2,h3]) (by simp [h2,h3]),below_drewN aY.o nq⟩
 have hg:decide (xn>0)=aP:=decide_eq_false h2;by_cases h3:xn<0
 ·have hn:decide (xn<0)=aO:=decide_eq_true h3;have yH:=yI.o _ aY.o;cases hh:hasB who xm
  ·rw [hh] at yH;have HH:=η yH;clear yH;go_upto_region 8 with (go_at_call 89;refine HH.o.mono ?_;rintro e w2 ⟨rfl,rfl⟩)
   go_quiet (fail)
   go_wp2_with fail
   go_ret2;exact⟨L6 (by simp [h2,h3,hh]) (by simp [h2,h3,hh]),below_drewN aY.o nq⟩
  rw [hh] at yH;have HH:=η yH;clear yH;go_wp2_with (go_at_call 89;refine HH.o.mono ?_;rintro e w2 ⟨rfl,rfl⟩)
  go_ret2;exact⟨L6 (by simp [h2,h3,hh]) (by simp [h2,h3,hh]),aY.o⟩
 have hn:decide (xn<0)=aP:=decide_eq_false h3;go_upto_region 8 with (fail)
 go_quiet (fail)
 go_wp2_with fail
 go_ret2;exact⟨L6 (by simp [h2,h3]) (by simp [h2,h3]),below_drewN aY.o nq⟩
def tQ(D:Dk):List Int:=rE ((D.ob.filter λx=>x.st==1&&BZ x).map (·.m))
def sR(D:Dk)(L:List Int):List Ev:=(L.filter λm=> !hasB D.who m).map λm=>⟨8,m,0,0,0⟩
def ur(D:Dk)(L:List Int):Dk:= {D with log:=D.log++sR D L}
theorem aJ9 {D:Dk} {L:List Int} {k:Nat}(h:k<aA L):sR D (L.take (k+1))=sR D (L.take k)++if hasB D.who L[k] then [] else [⟨8,L[k],0,0,0⟩]:=by rw [fH h];unfold sR;rw [List.filter_append,dh,List.filter_cons];cases hasB D.who L[k]<;>simp
theorem aJ8(D:Dk)(L:List Int):aA (sR D L)<=aA L:=by unfold sR;rw [iX];exact qo _ _
def wH(D:Dk):Dk:= {D with log:=D.log++sR D (tQ D),who:=rE (D.who++tQ D)}
def yZ(D:Dk)(x:Ob):Dk:=
 if x.st≠1 then D else if nh x D.who=1 then D else
 if x.az<0 then {D with ob:=lY x.m x.a (nh x D.who) (vY x D.who) D.ob,log:=D.log++ [⟨9,x.m,x.a,-x.az,0⟩]} else {D with ob:=lY x.m x.a (nh x D.who) (vY x D.who) D.ob}
def uY(D:Dk)(L:List Ob):Dk:=L.foldl yZ D
def qw(D:Dk):Dk:=uY (wH D) D.ob
theorem aED {D:Dk} {L:List Ob} {k:Nat}(h:k<aA L):uY D (L.take (k+1))=yZ (uY D (L.take k)) L[k]:=by rw [fH h];unfold uY;rw [List.foldl_append];rfl
theorem bV.aLq {w w1:aJ} {db:Nat} {p:Dp} {D:Dk} {v:aN} {L:List Int}(H:bV w db p D)(hb:aa w.heap.size w w1)(ho:w1.ownsRow w.heap.size 3 1 v (aA L) (L.map (aG aF))):dB db p {p with wv:=v} {D with who:=L} w (w1.setCell ⟨db,11,aB⟩ v):=by
 have H1:=H.below hb;refine⟨H1.Pz 11 v rfl rfl rfl rfl rfl rfl ⟨rfl,rfl,rfl,rfl,rfl,rfl,rfl⟩ (iD ho (bM _)) H1.log,rfl,rfl,rfl,rfl,(bA.bY _ hb).setCell (p:=⟨db,11,aB⟩) (.inl (.inl rfl)) _, ?_⟩;rintro k (e|e|e|e|e|e)
 ·exact .inl (.inl e)
 ·exact .inl (.inr (.inl e))
 ·exact .inl (.inr (.inr (.inl e)))
 ·exact .inl (.inr (.inr (.inr (.inl e))))
 ·exact .inr (ho.lt k e).1
 exact .inl (.inr (.inr (.inr (.inr (.inr e)))))
structure T9(D:Dk):Prop where
 ok:fZ D
 fl:aA (tQ D)<=2000
 all:∀k,k<=aA D.ob->fZ (uY (wH D) (D.ob.take k))
theorem aEu(db:Nat)(p:Dp)(D:Dk)(w:aJ)(H:bV w db p D)(P:T9 D):
 aQ aM 62 #[π db] w λe w'=>e=aT (bC #[])/\aq db p (qw D) w w':=by
 have HF:=η H;have HP:=η P;have l9:aA D.ob<=1024:=P.ok.ob.len;have c9:=H.cells.c9;have Az:=η (λW p' D' (h:bV W db p' D') (he:D'.ob=D.ob)=>(he▸Nk D'.ob p'.sv p'.sb 0 W h.sh (by rw [he];omega):aQ aM 43 #[π p'.sb] W (CT W D.ob)));have LU:=η (λW A c (hs:aW W W.heap.size A (fN D.ob))=>aFS D.ob A c W hs (by omega));have KV:rE ((D.ob.filter λx=>x.st==1&&BZ x).map (·.m))=tQ D:=rfl;rw [KV] at LU;have mP:=η P.fl;have Lx:Hid (aA D.who<=100):=η P.ok.wl;have BB:Hid (aA D.log<=90000):=η P.ok.gl;have EX:=η l9;have hCE:qw D=uY (wH D) D.ob:=rfl;have hWE:wH D= {D with log:=D.log++sR D (tQ D),who:=rE (D.who++tQ D)}:=rfl;have yB:=η hCE;have HWE:=η hWE;generalize qw D=R at*;go_enter func62,ntmps62
 go_upto_region 1 with (first|(go_at_call 43;refine(Az.o _ p D HF.o rfl).mono ?_;rintro e w1 ⟨v1,rfl,eT,hb1⟩;obtain⟨A1,k1,AQ⟩:=bL eT;subst AQ;have cj:=η (aW.cB eT);have aR:=η hb1)|(go_at_call 121;refine(LU.o _ A1 k1 cj.o).mono ?_;rintro e w2 ⟨A2,k2,rfl,eY,hb2⟩;have aV:=τ aR hb2;have dG:=η (iM.cB HF.o (iD eY aR.o.size));have qY:=η (J1 eY)))
 generalize tQ D=F at*;have iF:Hid (dB db p p (ur D (F.take 0)) w w2):=η (by
  have e:ur D (F.take 0)=D:=by unfold ur sR;simp
  rw [e];exact dB.bY HF.o aV.o)
 have Tx:=η dG.o;have gZ:aA F<=2000:=mP.o;go_upto_region 2 with (fail)
 go_loopw [4,17] (λ_ i wr=>∃(k:Nat) (pk:Dp),k<=aA F/\i=ν (k:Int)/\Hid (dB db p pk (ur D (F.take k)) w wr)/\Hid (iM db pk wr A2 (F.map (aG aF)))) (λ_ i _=>aA F-(ag i).toNat)
 case atStart=>exact⟨0,p,bM _,rfl,iF,Tx⟩
 case round=>
  obtain⟨k,pk,hk,rfl,HQ,HO⟩:=hrel;by_cases hlt:k<aA F
  ·obtain⟨bl,ol,kJ,hbl,hF⟩:=HO.o.eA.at (k:=k) (by simpa using hlt);rw [xC] at hF;have ej:(0:Int)<=(k:Int):=by omega
   have hkb:(k:Int)<(aA F:Int):=by omega
   have cG:=η (aJ9 (D:=D) hlt);have nH:aA (D.log++sR D (F.take k))<=100000:=by have h1:=aJ8 D (F.take k);have h3:=BB.o;rw [cN];have h4:aA (F.take k)<=aA F:=List.length_take_le' _ _;omega
   have a9X:=η nH;have HE:Hid (ur D (F.take k)= {D with log:=D.log++sR D (F.take k)}):=η rfl;have mr:Hid (ur D (F.take (k+1))= {D with log:=D.log++sR D (F.take (k+1))}):=η rfl;obtain⟨Aw,cw,hv⟩:=bL HQ.o.at.who;have c11:=HQ.o.at.cells.c11;rw [hv] at c11;have pD:Hid (aW wr wr.heap.size Aw (D.who.map (aG aF))):=η (by have h1:=HQ.o.at.who;rw [hv] at h1;exact aW.cB h1);have yI:=η (Mw D.who Aw cw F[k] wr pD.o (by have:=Lx.o;omega));have RL:(ur D (F.take k)).who=D.who:=rfl;rw [RL] at c11;subst kJ;generalize F[k]=m at*;cases hh:hasB D.who m with
   |true=>
    rw [hh] at yI;have TR:Hid (ur D (F.take (k+1))=ur D (F.take k)):=η (by rw [mr.o,HE.o,cG.o,hh];simp);go_wp2_with (go_at_call 89;refine yI.o.mono ?_;rintro e w4 ⟨rfl,rfl⟩)
    go_roundw
    case rel=>exact⟨k+1,pk,by omega,by go_num,η (by rw [TR.o];exact HQ.o),HO⟩
    case measure=>simp [ag];omega
   |false=>
    rw [hh] at yI;have TR:Hid (ur D (F.take (k+1))= {ur D (F.take k) with log:=(ur D (F.take k)).log++ [⟨8,m,0,0,0⟩]}):=η (by rw [mr.o,HE.o,cG.o,hh];simp);have jr:(ur D (F.take k)).log.length<=100000:=a9X.o;have a9R:=η jr;have ki:=η (HQ.o.at.below ((aX wr.heap.size wr).alloc (aZ _) (aK #[ν 8,ν m,ν 0,ν 0,ν 0] 45)));have km:=η (xP db pk (ur D (F.take k)) [⟨8,m,0,0,0⟩] wr.heap.size 1 _ ki.o (dS wr 45 #[ν 8,ν m,ν 0,ν 0,ν 0] rfl) (by simp) (by simp) (by have:=a9R.o;omega));have qg:=η (HQ.o.below ((aX wr.heap.size wr).alloc (aZ _) (aK #[ν 8,ν m,ν 0,ν 0,ν 0] 45)));have rS:=η (HO.o.below ((aX wr.heap.size wr).alloc (aZ _) (aK #[ν 8,ν m,ν 0,ν 0,ν 0] 45)));go_wp2_with (first|(go_at_call 89;refine yI.o.mono ?_;rintro e w4 ⟨rfl,rfl⟩)|(go_at_call 55;refine km.o.mono ?_;rintro e w8 ⟨rfl,h8⟩;obtain⟨p8,R6,R8⟩:=qg.o.then h8;have pA:=η R6;have uN:=η (rS.o.step R8)))
    go_roundw
    case rel=>exact⟨k+1,p8,by omega,by go_num,η (by rw [TR.o];exact pA.o),uN⟩
    case measure=>simp [ag];omega
  obtain rfl:k=aA F:=by omega
  rw [cU] at HQ;obtain⟨Aw,cw,hv⟩:=bL HQ.o.at.who;have RL:(ur D F).who=D.who:=rfl;have c11:=HQ.o.at.cells.c11;rw [hv,RL] at c11;have pD:Hid (xE wr Aw cw D.who):=η (by have h1:=HQ.o.at.who;rw [hv,RL] at h1;exact⟨aW.cB h1,λh=>⟨nU (J1 h1 h).1,(J1 h1 h).2⟩⟩);have Ca:Hid (xE wr A2 k2 F):=η ⟨HO.o.eA,λh=>⟨nU (qY.o h).1,(qY.o h).2⟩⟩;have Od:=η (aHS D.who F Aw A2 cw k2 wr pD.o Ca.o (by have:=Lx.o;omega) (by have:=mP.o;omega));have Dg:∀W,β wr W->W.frozen? ⟨db,11,aB⟩=aP:=λW hW=>by have hb:=(hW.block db HQ.o.at.lt).trans HQ.o.at.blk;simp [iO,hb]
  have kL:∀W,β wr W->W.cell? ⟨db,11,aB⟩=aC (aH Aw (aA D.who) cw):=λW hW=>(hW.cell (p:=⟨db,11,aB⟩) HQ.o.at.lt).trans c11
  have wW:=η Dg;have oB:=η kL;go_upto_region 8 with (go_at_call 122;refine Od.o.mono ?_;rintro e w3 ⟨A3,k3,rfl,j7,hb3⟩;have Th:=η j7;have af:=η hb3;have f11:=wW.o _ hb3;have d11:=oB.o _ hb3)
  have Ji:Hid (dB db p _ (wH D) w (w3.setCell ⟨db,11,aB⟩ (aH A3 (aA (rE (D.who++F))) k3))):=η (by have h1:=HQ.o.trans (HQ.o.at.aLq af.o Th.o);rw [HWE.o];exact h1);generalize (w3.setCell ⟨db,11,aB⟩ (aH A3 (aA (rE (D.who++F))) k3))=w4 at*;obtain⟨p3,qC⟩:∃p3,Hid (dB db p p3 (wH D) w w4):=⟨_,Ji⟩;have hoe:(wH D).ob=D.ob:=rfl;have Zv:=η hoe;clear hoe;have d9:=qC.o.at.cells.c9;have aN7:aA D.ob<=1024:=EX.o;have EI:Hid (∀k,k<=aA D.ob->fZ (uY (wH D) (D.ob.take k))):=η HP.o.all;have P7:Hid (∀x∈D.ob,aL x.az/\gA<x.az):=η (λx hx=>by have h:=HP.o.ok.ob.each x hx;have h1:=h.lo;have h2:=h.hi;unfold gA at h1;unfold aL gA;omega);clear HP HWE;go_upto_region 9 with (go_at_call 43;refine(Az.o _ p3 (wH D) qC.o.at Zv.o).mono ?_;rintro e w5 ⟨v5,rfl,iY,dA⟩;obtain⟨A5,k5,NR⟩:=bL iY;subst NR;have fP:=η (iM.cB qC.o.at iY);have ow:=η (qC.o.below dA);clear iY dA)
  clear qC d9 Az Zv;generalize wH D=E0 at*;generalize D.ob=L at*;have mR:Hid (dB db p p3 (uY E0 (L.take 0)) w w5):=η ow.o;clear ow;go_loopw [6,7,8,49] (λ_ _ _ i wr=>∃(k:Nat) (pk:Dp),k<=aA L/\i=ν (k:Int)/\Hid (dB db p pk (uY E0 (L.take k)) w wr)/\Hid (iM db pk wr A5 (fN L))) (λ_ _ _ i _=>aA L-(ag i).toNat)
  case atStart=>exact⟨0,p3,bM _,rfl,mR,fP⟩
  case round=>
   clear mR fP;obtain⟨k,pk,hk,rfl,HQ,HO⟩:=hrel;by_cases hlt:k<aA L
   ·obtain⟨bl,ol,kJ,hbl,l0,l1,l2,l3,l4,l5⟩:=xw HO.o.eA hlt;have ej:(0:Int)<=(k:Int):=by omega
    have hkb:(k:Int)<(aA L:Int):=by omega
    have HL:=η (aED (D:=E0) hlt);have dT:=η (EI.o k hk);have HXN:Hid (aL (L[k].az)/\gA<L[k].az):=η (P7.o _ (cK hlt));have my:Hid (∀j,eW db pk j->j<wr.heap.size):=η (λj hj=>HQ.o.at.td hj);subst kJ;generalize uY E0 (L.take k)=E at*;generalize L[k]=x at*;obtain⟨xc,xm,xa,xn,xd,xs⟩:=x;simp only at l0 l1 l2 l3 l4 l5;have gK:Hid (β wr (wr.alloc (aK #[ν xc,ν xm,ν xa,ν xn,ν xd,ν xs] 59))):=η σ;have qj:Hid ((wr.alloc (aK #[ν xc,ν xm,ν xa,ν xn,ν xd,ν xs] 59)).heap[wr.heap.size]? =aC (aK #[ν xc,ν xm,ν xa,ν xn,ν xd,ν xs] 59 (0,0))):=η (cQ wr _);have wD:wr.heap.size<(wr.alloc (aK #[ν xc,ν xm,ν xa,ν xn,ν xd,ν xs] 59)).heap.size:=by simp
    go_upto_region 11 with (fail)
    generalize wr.alloc (aK #[ν xc,ν xm,ν xa,ν xn,ν xd,ν xs] 59)=w6 at*;obtain⟨bx,bU⟩:∃bx,bx=wr.heap.size:=⟨_,rfl⟩;have dJ:=η bU;rw [<-bU] at qj wD ⊢;clear bU l0 l1 l2 l3 l4 l5;have LS:=η (HQ.o.at.below gK.o);have bX:Hid (¬eW db pk bx):=η (λh=>by have:=my.o bx h;rw [dJ.o] at this;omega);obtain⟨EE,Hu,hv⟩:=bL LS.o.who;have pD:Hid (∀W,β w6 W->aW W W.heap.size EE (E.who.map (aG aF))):=η (λW hW=>by have h1:=(LS.o.below hW).who;rw [hv] at h1;exact aW.cB h1);have ZV:Hid (∀W,β w6 W->aQ aM 123 #[bP #[ν xc,ν xm,ν xa,ν xn,ν xd,ν xs],aH EE (aA E.who) Hu] W λe w'=>e=aT (bC #[ν (nh ⟨xc,xm,xa,xn,xd,xs⟩ E.who),ν (vY ⟨xc,xm,xa,xn,xd,xs⟩ E.who)])/\β W w'):=η (λW hW=>aFT ⟨xc,xm,xa,xn,xd,xs⟩ E.who EE Hu W (pD.o W hW) (by have:=dT.o.wl;omega));have zP:Hid (∀W,β w6 W->W.cell? ⟨db,11,aB⟩=aC (aH EE (aA E.who) Hu)/\W.cell? ⟨bx,0,aB⟩=aC (ν xc)/\W.cell? ⟨bx,1,aB⟩=aC (ν xm)/\W.cell? ⟨bx,2,aB⟩=aC (ν xa)/\W.cell? ⟨bx,3,aB⟩=aC (ν xn)/\W.cell? ⟨bx,4,aB⟩=aC (ν xd)/\W.cell? ⟨bx,5,aB⟩=aC (ν xs)):=η (λW hW=>by have hd:=(hW.block bx wD).trans qj.o;exact⟨by rw [<-hv];exact(LS.o.below hW).cells.c11,ρ hd,ρ hd,ρ hd,ρ hd,ρ hd,ρ hd⟩);have oB:Hid (yZ E ⟨xc,xm,xa,xn,xd,xs⟩=if xs≠1 then E else if nh ⟨xc,xm,xa,xn,xd,xs⟩ E.who=1 then E else if xn<0 then {E with ob:=lY xm xa (nh ⟨xc,xm,xa,xn,xd,xs⟩ E.who) (vY ⟨xc,xm,xa,xn,xd,xs⟩ E.who) E.ob,log:=E.log++ [⟨9,xm,xa,-xn,0⟩]} else {E with ob:=lY xm xa (nh ⟨xc,xm,xa,xn,xd,xs⟩ E.who) (vY ⟨xc,xm,xa,xn,xd,xs⟩ E.who) E.ob}):=η rfl;clear hv pD;generalize nh ⟨xc,xm,xa,xn,xd,xs⟩ E.who=fs at*;generalize vY ⟨xc,xm,xa,xn,xd,xs⟩ E.who=fn at*;have bQ:β w6 w6.drew:=(aX _ _).drew;have hdd:=zP.o _ bQ;go_region_held3 (λW=>W.cell? ⟨db,11,aB⟩=aC (aH EE (aA E.who) Hu)/\W.cell? ⟨bx,0,aB⟩=aC (ν xc)/\W.cell? ⟨bx,1,aB⟩=aC (ν xm)/\W.cell? ⟨bx,2,aB⟩=aC (ν xa)/\W.cell? ⟨bx,3,aB⟩=aC (ν xn)/\W.cell? ⟨bx,4,aB⟩=aC (ν xd)/\W.cell? ⟨bx,5,aB⟩=aC (ν xs)) (first|(with_reducible assumption)) ((go_at_call 123;refine(ZV.o _ (by with_reducible assumption)).mono ?_;rintro e w7 ⟨rfl,ft⟩;have dZ:β w6 w7:=kB (by with_reducible assumption) (ft.mono (gX (by with_reducible assumption)));have hcc:=zP.o _ dZ))
    have vB:=η dZ;obtain⟨_,_,e1,e2,e3,_,e5⟩:=hcc;have Ip:=cL wD dZ.size;clear ft dZ bQ hdd ZV;have cC:Hid (β wr w7):=η (gK.o.trans (vB.o.mono gK.o.size));by_cases h1:xs=1
    case neg=>
     have hb:(xs==1)=aP:=by simpa using h1
     rw [ifP h1] at oB;clear h1 zP;go_wp2_with fail
     go_roundw
     case rel=>exact⟨k+1,pk,by omega,by go_num,η (by rw [HL.o,oB.o];exact HQ.o.below cC.o),η (HO.o.below cC.o)⟩
     case measure=>simp [ag];omega
    subst h1;rw [ifN (by simp)] at oB;by_cases h2:fs=1
    ·subst h2;rw [ifP rfl] at oB;clear zP;go_wp2_with fail
     go_roundw
     case rel=>exact⟨k+1,pk,by omega,by go_num,η (by rw [HL.o,oB.o];exact HQ.o.below cC.o),η (HO.o.below cC.o)⟩
     case measure=>simp [ag];omega
    have hb2:(fs==1)=aP:=by simpa using h2
    rw [ifN h2] at oB
    skip
    have OS:=η (LS.o.below vB.o);have U8:Hid (∀W,β w7 W->W.cell? ⟨db,9,aB⟩=aC (π pk.sb)/\W.cell? ⟨bx,1,aB⟩=aC (ν xm)/\W.cell? ⟨bx,2,aB⟩=aC (ν xa)/\W.cell? ⟨bx,3,aB⟩=aC (ν xn)):=η (λW hW=>by obtain⟨_,_,r1,r2,r3,_,_⟩:=zP.o W (vB.o.trans (hW.mono vB.o.size));exact⟨(OS.o.below hW).cells.c9,r1,r2,r3⟩);have rQ:Hid (∀W,β w7 W->aQ aM 124 #[π pk.sb,ν xm,ν xa,ν fs,ν fn] W λe W'=>e=aT (ν (wF xm xa fs fn E.ob))/\aq db pk {E with ob:=lY xm xa fs fn E.ob} W W'/\W'.cell? ⟨db,9,aB⟩=aC (π pk.sb)/\W'.cell? ⟨bx,1,aB⟩=aC (ν xm)/\W'.cell? ⟨bx,2,aB⟩=aC (ν xa)/\W'.cell? ⟨bx,3,aB⟩=aC (ν xn)):=η (λW hW=>by refine(Nl E.ob xm xa fs fn pk.sv pk.sb 0 W (OS.o.below hW).sh dT.o.ob).mono ?_;intro e W' h;obtain⟨q1,q2⟩:=(OS.o.below hW).Fx h;have hz:=cL Ip hW.size;obtain⟨_,r1,r2,r3⟩:=U8.o W hW;exact⟨q1,q2,q2.c9,(q2.cell 1 hz bX.o).trans r1,(q2.cell 2 hz bX.o).trans r2,(q2.cell 3 hz bX.o).trans r3⟩);have LW:Hid (aA E.log<=90000):=η dT.o.gl;clear zP LS dT;generalize lY xm xa fs fn E.ob=ob2 at*;generalize wF xm xa fs fn E.ob=me at*;go_upto_region 13 with (fail)
    have bQ:β w7 w7.drew:=(aX _ _).drew;have hdd:=U8.o _ bQ;clear e1 e2 e3 e5;go_region_held3 (λW=>W.cell? ⟨db,9,aB⟩=aC (π pk.sb)/\W.cell? ⟨bx,1,aB⟩=aC (ν xm)/\W.cell? ⟨bx,2,aB⟩=aC (ν xa)/\W.cell? ⟨bx,3,aB⟩=aC (ν xn)) (first|(with_reducible assumption)) ((go_at_call 124;refine(rQ.o _ (by with_reducible assumption)).mono ?_;rintro e w8 ⟨rfl,dH,AJ⟩))
    have eB:Hid (aq db pk {E with ob:=ob2} wr w8):=η (aq.trans (bA.bY _ (cC.o.trans (bQ.mono cC.o.size))) (λ_ h=> .inl h) ⟨rfl,rfl,rfl,rfl⟩ dH);obtain⟨_,m1,m2,m3⟩:=AJ;clear dH bQ hdd rQ U8 OS;obtain⟨p8,R6,R8⟩:=HQ.o.then eB.o;have pA:=η R6;have uN:=η (HO.o.step R8);clear R6 R8 eB HQ HO;by_cases h3:xn<0
    ·have hn:decide (xn<0)=aO:=decide_eq_true h3;rw [ifP h3] at oB;have hwn:aF.wrap (-xn)= -xn:=uy (by have h:=HXN.o;(try simp only at h);unfold gA aL at*;omega);have ki:=η (pA.o.at.below ((aX w8.heap.size w8).alloc (aZ _) (aK #[ν 9,ν xm,ν xa,ν (-xn),ν 0] 45)));have km:=η (xP db p8 {E with ob:=ob2} [⟨9,xm,xa,-xn,0⟩] w8.heap.size 1 _ ki.o (dS w8 45 #[ν 9,ν xm,ν xa,ν (-xn),ν 0] rfl) (by simp) (by simp) (by have:=LW.o;simp only;omega));have sZ:=η (pA.o.below ((aX w8.heap.size w8).alloc (aZ _) (aK #[ν 9,ν xm,ν xa,ν (-xn),ν 0] 45)));have wk:=η (uN.o.below ((aX w8.heap.size w8).alloc (aZ _) (aK #[ν 9,ν xm,ν xa,ν (-xn),ν 0] 45)));clear pA uN ki;go_wp2_with (go_at_call 55;refine km.o.mono ?_;rintro e w9 ⟨rfl,h9⟩;obtain⟨p9,yi,FZ⟩:=sZ.o.then h9;have lU:=η yi;have HOA:=η (wk.o.step FZ);clear h9 yi FZ)
     go_roundw
     case rel=>exact⟨k+1,p9,by omega,by go_num,η (by rw [HL.o,oB.o];exact lU.o),HOA⟩
     case measure=>simp [ag];omega
    have hn:decide (xn<0)=aP:=decide_eq_false h3;rw [ifN h3] at oB;go_wp2_with fail
    go_roundw
    case rel=>exact⟨k+1,p8,by omega,by go_num,η (by rw [HL.o,oB.o];exact pA.o),uN⟩
    case measure=>simp [ag];omega
   obtain rfl:k=aA L:=by omega
   rw [cU] at HQ;go_wp2_with fail
   go_end0
   rw [yB.o];exact⟨rfl,HQ.o.p⟩
theorem bV.held {w w':aJ} {db:Nat} {p:Dp} {D:Dk} {h':List Hr} {e:dX}(H:bV w db p D)(h:MK p.vb p.vp (aA D.x.ms) (aA D.x.ss+1) (aA D.x.ms) D.l h' w e w'):e=aT (aG aF 0)/\aq db p {D with h:=h'} w w':=by
 obtain⟨tv,rfl,hv,hu,hs⟩:=h;refine⟨rfl, {p with vp:= {p.vp with tv:=tv}},H.a8V hu hv,rfl,rfl,rfl,rfl,hu.mono (λk hk=> .inl (.inr (.inl hk))), ?_⟩;rintro k (e|(e|e|e|e|e)|e|e|e|e)
 ·exact .inl (.inl e)
 ·exact .inl (.inr (.inl (.inl e)))
 ·exact .inl (.inr (.inl (.inr (.inl e))))
 ·exact .inl (.inr (.inl (.inr (.inr (.inl e)))))
 ·exact .inl (.inr (.inl (.inr (.inr (.inr (.inl e))))))
 ·exact(hs k e).imp (λh=> .inr (.inl (.inr (.inr (.inr (.inr h)))))) id
 ·exact .inl (.inr (.inr (.inl e)))
 ·exact .inl (.inr (.inr (.inr (.inl e))))
 ·exact .inl (.inr (.inr (.inr (.inr (.inl e)))))
 exact .inl (.inr (.inr (.inr (.inr (.inr e)))))
theorem bV.SM {w:aJ} {db:Nat} {p:Dp} {D:Dk}(H:bV w db p D)(s:Int):dB db p p {D with st:=s} w (w.setCell ⟨db,13,aB⟩ (aG aF s)):=
 ⟨H.Pz 13 (ν s) rfl rfl rfl rfl rfl rfl ⟨rfl,rfl,rfl,rfl,rfl,rfl,rfl⟩ H.who H.log,rfl,rfl,rfl,rfl,(bA.refl _ _).setCell (p:=⟨db,13,aB⟩) (.inl (.inl rfl)) _,λ_ h=> .inl h⟩
theorem aLk(vb:Nat)(p:Vp)(M A:Nat)(room:Int)(l:List Int)(h:List Hr)(k:Nat)(hk:k<aA h)(w:aJ)(H:gY w vb p M A room l (h.drop k))(hl:aA h<=99999)(hu:qI h):
 aQ aM 64 #[π vb,ν (h[k]).i] w (MK vb p M A room l (h.drop (k+1)) w):=by
 rw [Ju hk] at H;refine aLl vb p M A room l h[k] (h.drop (k+1)) w H (by rw [List.length_drop];omega) ?_;rw [<-Ju hk];exact aMW (List.drop_sublist k h) hu
def gV(D:Dk):Dk:= {qw D with h:= []}
def ua(D:Dk):Int:=Kl (gV D) (ie (dy (gV D) 0))
def oL(D:Dk):Dk:= {mB (gV D) (ua D) with st:=2}
def QA(D:Dk):Bool:=(dQ (oL D).x.ss.length).any λ(s:Nat)=>decide (jP (oL D) ((s:Int)+1)>0)
def Hy(D:Dk):Bool:=if D.st=1 then QA D else aP
def Hx(D:Dk):Int:=if D.st=1 then 0 else 11
def DX(D:Dk):Dk:=if D.st=1 then oL D else D
structure TA(D:Dk):Prop where
 cl:T9 D
 up:qI (qw D).h
 Kw:fZ (gV D)
 b0:aL (balA (gV D).x.ms.length ((gV D).x.ss.length+1) (gV D).l 1 0 0)
 ml:(gV D).x.ms.length<=100000
 wI:∀x∈(gV D).who,aL x
 nI:aL (ua D)
 dO:∀k,k<=aA (iH (gV D) (ua D))->fZ (oK (gV D) ((iH (gV D) (ua D)).take k))
 dI:∀x∈iH (gV D) (ua D),aL x.k/\aL x.m/\aL x.n/\0<=x.n
 dl:aA (iH (gV D) (ua D))<=100000
 ok4:fZ (oL D)
 sl:(oL D).x.ss.length<=100000
 bS:∀s:Nat,s<(oL D).x.ss.length->aL (balA (oL D).x.ms.length ((oL D).x.ss.length+1) (oL D).l 1 0 ((s:Int)+1))
theorem a1i {f:Nat->Bool} {n k:Nat}(hk:k<n)(h:f k=aO):(dQ n).any f=aO:=kE.2 ⟨k,nV.2 hk,h⟩
theorem a1j {f:Nat->Bool} {n:Nat}(h:∀k,k<n->f k=aP):(dQ n).any f=aP:=by rw [zT];intro k hk;rw [h k (nV.1 hk)];decide
theorem a6x {b c:Bool} {a d:Int}(h:b=c)(h':a=d):aT (bC #[bK b,aG aF a])=aT (bC #[bK c,aG aF d]):=by rw [h,h']
theorem a2d(db:Nat)(p:Dp)(D:Dk)(w:aJ)(H:bV w db p D)(hP:D.st=1->TA D):
 aQ aM 28 #[π db] w λe w'=>e=aT (bC #[bK (Hy D),ν (Hx D)])/\aq db p (DX D) w w':=by
 have hb0:β w (w.alloc (aK #[ν 1] 3)):=(aX _ _).alloc (aZ _) _;have jS:=η (KD db p D 1 (aC ⟨w.heap.size,0,aB⟩) 1 _ (H.below hb0) (λj u hu=>⟨w.heap.size,0,rfl,by simp,by
  match j,hu with
  |0,hu=>exact(cM w #[ν 1] 3 0 rfl).trans (by simpa using hu)
  |j+1,hu=>simp at hu⟩))
 have HF:=η H;have aY:=η hb0;by_cases h1:D.st=1
 case neg=>
  have e1:Hy D=aP:=by unfold Hy;rw [ifN h1]
  have e2:Hx D=11:=by unfold Hx;rw [ifN h1]
  have e3:DX D=D:=by unfold DX;rw [ifN h1]
  rw [ifN h1] at jS;rw [e1,e2,e3];go_enter aB6,aBs
  go_wp2_with (go_at_call 51;refine κ jS.o aY λw1 aR=> ?_)
  go_ret2;exact⟨rfl,aq.bY HF.o aR.o⟩
 have HP:=η (hP h1);have e1:Hy D=QA D:=by unfold Hy;rw [ifP h1]
 have e2:Hx D=0:=by unfold Hx;rw [ifP h1]
 have e3:DX D=oL D:=by unfold DX;rw [ifP h1]
 rw [ifP h1] at jS;rw [e1,e2,e3];have oB:=η (λW (hW:β w W)=>aEu db p D W (HF.o.below hW) HP.o.cl);have qd:Hid (fZ (qw D)):=η (by have h:=HP.o.cl.all (aA D.ob) (aZ _);rw [cU] at h;exact h);have od:Hid (gV D= {qw D with h:= []}):=η rfl;have LQ:Hid (ua D=Kl (gV D) (ie (dy (gV D) 0))):=η rfl;have HD4:Hid (oL D= {mB (gV D) (ua D) with st:=2}):=η rfl;have zE:Hid (QA D=(dQ (oL D).x.ss.length).any λ(s:Nat)=>decide (jP (oL D) ((s:Int)+1)>0)):=η rfl;have HUP:=η HP.o.up;have yF:=η (λW p' (h:bV W db p' (gV D))=>MZ db p' (gV D) 0 W h HP.o.Kw);have Cc:=η (Mk HP.o.Kw.ob 0);have jr:aA (dy (gV D) 0)<=100000:=by have h1:=QN (gV D) 0;have h2:=HP.o.Kw.ob.len;omega
 have Lr:=η (λW A c (hs:aW W W.heap.size A (bB (dy (gV D) 0)))=>VP (dy (gV D) 0) A c W hs Cc.o jr);have kT:=η (λW p' (h:bV W db p' (gV D))=>a2p db p' (gV D) (ie (dy (gV D) 0)) W h (SY _) HP.o.b0);rw [<-LQ.o] at kT;have JU:=η (λW p' (h:bV W db p' (gV D))=>VR db p' (gV D) (ua D) W h HP.o.nI HP.o.ml HP.o.wI (by have:=HP.o.Kw.wl;omega) HP.o.dO HP.o.dI HP.o.dl);have vJ:=η (λW p' (h:bV W db p' (oL D)) (s:Nat) (hs:s<(oL D).x.ss.length)=>VU db p' (oL D) ((s:Int)+1) W h HP.o.ok4 (HP.o.bS s hs));have jt:(oL D).x.ss.length<=100000:=HP.o.sl;have Cs:=η jt;generalize qw D=C at*;generalize gV D=D2 at*;generalize ua D=dn at*;generalize oL D=D4 at*;generalize QA D=bv at*;generalize dy D2 0=G at*;generalize ie G=sv at*;go_enter aB6,aBs
 go_upto_region 5 with (first|(go_at_call 51;refine κ jS.o aY λw1 aR=> ?_)|(go_at_call 62;refine(oB.o _ aR.o).mono ?_;rintro e w2 ⟨rfl,h2⟩;obtain⟨p2,vx,_⟩:=(dB.bY HF.o aR.o).then h2;have lT:=η vx))
 have c8:=lT.o.at.cells.c8;have nS:=η (aLf p2.vb p2.vp (aA C.x.ms) (aA C.x.ss+1) (aA C.x.ms) C.l C.h w2 lT.o.at.vt (by have:=qd.o.hl;omega));have WT:aA C.h<=100:=qd.o.hl;go_upto_region 6 with (go_at_call 63;refine nS.o.mono ?_;rintro e w3 ⟨v3,rfl,j7,hb3⟩;obtain⟨A3,k3,hv3⟩:=bL j7;subst hv3;have cD:=η (iM.cB lT.o.at j7);have Ji:=η (lT.o.below hb3))
 have iF:Hid (dB db p p2 {C with h:=C.h.drop 0} w w3):=η Ji.o;go_loopw [6,22] (λ_ i wr=>∃(k:Nat) (pk:Dp),k<=aA C.h/\i=ν (k:Int)/\Hid (dB db p pk {C with h:=C.h.drop k} w wr)/\Hid (iM db pk wr A3 ((C.h.map (·.i)).map (aG aF)))) (λ_ i _=>aA C.h-(ag i).toNat)
 case atStart=>exact⟨0,p2,bM _,rfl,iF,cD⟩
 case round=>
  obtain⟨k,pk,hk,rfl,HQ,HO⟩:=hrel;by_cases hlt:k<aA C.h
  ·obtain⟨bl,ol,kJ,hbl,hF⟩:=HO.o.eA.at (k:=k) (by simpa using hlt);rw [xC,xC] at hF;have ej:(0:Int)<=(k:Int):=by omega
   have hkb:(k:Int)<(aA C.h:Int):=by omega
   have c8:=HQ.o.at.cells.c8;have HVR:=η (aLk pk.vb pk.vp (aA C.x.ms) (aA C.x.ss+1) (aA C.x.ms) C.l C.h k hlt wr HQ.o.at.vt (by omega) HUP.o);have OZ:Hid (∀e W',MK pk.vb pk.vp (aA C.x.ms) (aA C.x.ss+1) (aA C.x.ms) C.l (C.h.drop (k+1)) wr e W'->e=aT (ν 0)/\aq db pk {C with h:=C.h.drop (k+1)} wr W'):=η (λe W' h=>HQ.o.at.held h);subst kJ;generalize (C.h[k]).i=id at*;go_wp2_with (go_at_call 64;refine HVR.o.mono ?_;intro e w4 h4;obtain⟨rfl,h5⟩:=OZ.o e w4 h4;obtain⟨p5,Bk,ui⟩:=HQ.o.then h5;have ow:=η Bk;have fP:=η (HO.o.step ui))
   go_roundw
   case rel=>exact⟨k+1,p5,by omega,by go_num,ow,fP⟩
   case measure=>simp [ag];omega
  obtain rfl:k=aA C.h:=by omega
  have oz:Hid (dB db p pk D2 w wr):=η (by rw [od.o];have h:=HQ.o;rw [List.drop_length] at h;exact h);go_upto_region 11 with (first|(go_at_call 68;refine(yF.o _ pk oz.o.at).mono ?_;rintro e w4 ⟨v4,rfl,iC,hb4⟩;obtain⟨A4,k4,hv4⟩:=bL iC;subst hv4;have jT:=η (aW.cB iC);have qg:=η (oz.o.below hb4))|(go_at_call 67;refine(Lr.o _ A4 k4 jT.o).mono ?_;rintro e w5 ⟨rfl,dA⟩;have pA:=η (qg.o.below dA))|(go_at_call 66;refine(kT.o _ pk pA.o.at).mono ?_;rintro e w6 ⟨rfl,iQ⟩;have sZ:=η (pA.o.below iQ))|(go_at_call 65;refine(JU.o _ pk sZ.o.at).mono ?_;rintro e w7 ⟨rfl,h7⟩;obtain⟨p7,R5,_⟩:=sZ.o.then h7;have lU:=η R5))
  have f13:w7.frozen? ⟨db,13,aB⟩=aP:=by have hb:=lU.o.at.blk;simp [iO,hb]
  have c13:=lU.o.at.cells.c13;go_upto_region 12 with (fail)
  have Cp:Hid (dB db p p7 D4 w (w7.setCell ⟨db,13,aB⟩ (ν 2))):=η (by rw [HD4.o];exact lU.o.trans (lU.o.at.SM 2));generalize (w7.setCell ⟨db,13,aB⟩ (ν 2))=w8 at*;have c1:=Cp.o.at.cells.c1;have jt:aA D4.x.ss<=100000:=Cs.o;have om:Hid (∀j,j<0->(λ(s:Nat)=>decide (jP D4 ((s:Int)+1)>0)) j=aP):=η (λj hj=>absurd hj (Nat.not_lt_zero _));go_upto_region 13 with (fail)
  go_loopw [7,49] (λ_ i wq=>∃k:Nat,k<=aA D4.x.ss/\i=ν (k:Int)/\Hid (∀j,j<k->(λ(s:Nat)=>decide (jP D4 ((s:Int)+1)>0)) j=aP)/\Hid (dB db p p7 D4 w wq)) (λ_ i _=>aA D4.x.ss-(ag i).toNat)
  case atStart=>exact⟨0,bM _,rfl,om,Cp⟩
  case round=>
   clear om Cp c1;obtain⟨j,hj,rfl,HN,HQ⟩:=hrel;by_cases sA:j<aA D4.x.ss
   ·have AE:(0:Int)<=(j:Int):=by omega
    have hjb:(j:Int)<(aA D4.x.ss:Int):=by omega
    have cj:=η (vJ.o _ p7 HQ.o.at j sA);have ZP:Hid ((λ(s:Nat)=>decide (jP D4 ((s:Int)+1)>0)) j=decide (jP D4 ((j:Int)+1)>0)):=η rfl;generalize jP D4 ((j:Int)+1)=sh at*;by_cases h2:0<sh
    ·have hd:decide (sh>0)=aO:=decide_eq_true h2;have TI:Hid (aO=bv):=η (by rw [zE.o];exact(a1i sA (ZP.o.trans hd)).symm);go_wp2_with (go_at_call 69;refine cj.o.mono ?_;rintro e wz ⟨rfl,hz⟩;have U0:=η (HQ.o.below hz))
     go_ret2;exact⟨a6x TI.o rfl,U0.o.p⟩
    have hd:decide (sh>0)=aP:=decide_eq_false h2;have vH:Hid (∀i,i<j+1->(λ(s:Nat)=>decide (jP D4 ((s:Int)+1)>0)) i=aP):=η (λi hi=>by
     rcases Nat.lt_succ_iff_lt_or_eq.1 hi with h|rfl
     ·exact HN.o i h
     exact ZP.o.trans hd)
    go_wp2_with (go_at_call 69;refine cj.o.mono ?_;rintro e wz ⟨rfl,hz⟩;have U0:=η (HQ.o.below hz))
    go_roundw
    case rel=>exact⟨j+1,by omega,by go_num,vH,U0⟩
    case measure=>simp [ag];omega
   obtain rfl:j=aA D4.x.ss:=by omega
   have TI:Hid (aP=bv):=η (by rw [zE.o];exact(a1j (λi hi=>HN.o i hi)).symm);go_wp2
   go_ret2;exact⟨a6x TI.o rfl,HQ.o.p⟩
end Go.Proofs.YtdokipdchlcmeaaGreat
